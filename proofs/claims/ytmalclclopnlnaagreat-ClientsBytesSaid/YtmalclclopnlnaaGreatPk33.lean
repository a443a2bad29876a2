/-
  Texts of this claim, one behind the other: RefR, RefS.
-/
import Derived.Test.YtmalclclopnlnaaGreatPk19
import Derived.Test.YtmalclclopnlnaaGreatPk22
import Derived.Test.YtmalclclopnlnaaGreatPk32
import Derived.Deep.DeepCutAuto
import Derived.Deep.RegionHeld3
/-
  The document's results: whether one may be (its bytes).
-/
namespace Go.Proofs.YtmalclclopnlnaaGreat
open Go.RowKit Go.Shelf
attribute [local go_sem] Oper.semAt_some

/-- Entries' bytes, as they are gathered: no block of theirs is the row's own. -/
def PkAt (base : Nat) (w : World) (u : Value) (l : List Ent) : Prop :=
  ∃ bl : List BC, OwnS base 35 1 BC.cs w u bl ∧ bl.map BC.b = l.map entV ∧ ∀ x ∈ bl, Rd (fun b => base ≤ b ∧ b < w.heap.size ∧ u.ownBlock ≠ some b) w 1 csU x.A x.b
theorem bcV_ents {bl : List BC} {l : List Ent} (h : bl.map BC.b = l.map entV) : bcV bl = esV l := by
  have e1 : bcV bl = (bl.map BC.b).flatMap (valV 1) := by unfold bcV; rw [List.flatMap_map]
  rw [e1, h]
  unfold esV
  rw [List.flatMap_map]
/-- What is wrong ahead of the entries. -/
def headBad (x : Res) : Bool := decide (x.code < 0) || (decide (14 < x.code) || (decide (4000 < x.cur.length) || (decide (0 < x.code) && !decide (x = ⟨x.code, false, [], []⟩))))
theorem headBad_may {x : Res} (h : headBad x = true) : mayR x = false := by
  unfold headBad at h
  by_cases h0 : x.code = 0
  · rw [mayR_zero h0]
    simp [h0] at h
    simp [h]
  · rw [mayR_code h0]
    simp only [Bool.or_eq_true, Bool.and_eq_true, decide_eq_true_eq, Bool.not_eq_true', decide_eq_false_iff_not] at h
    rcases h with h | h | h | h
    · rw [decide_eq_false (by omega)]; rfl
    · rw [decide_eq_false (show ¬ x.code ≤ 14 by omega)]; simp
    · have : ¬ x = ⟨x.code, false, [], []⟩ := fun e => by rw [e] at h; simp at h
      rw [decide_eq_false this]; simp
    · rw [decide_eq_false h.2]; simp
theorem headGood_may {x : Res} (h : headBad x = false) (hl : x.es.length ≤ 10) : 0 ≤ x.code ∧ x.code ≤ 14 ∧ x.cur.length ≤ 4000 ∧ mayR x = x.es.all mayEn := by
  unfold headBad at h
  simp only [Bool.or_eq_false_iff, Bool.and_eq_false_imp, decide_eq_false_iff_not, Bool.not_eq_false', decide_eq_true_eq] at h
  obtain ⟨h1, h2, h3, h4⟩ := h
  refine ⟨by omega, by omega, by omega, ?_⟩
  by_cases h0 : x.code = 0
  · unfold mayR
    rw [if_pos h0, decide_eq_true (by omega), decide_eq_true (by omega)]
    cases ha : x.es.all mayEn with
    | false => simp
    | true =>
      have : (esV x.es).length ≤ 4194304 := by
        have hb : ∀ l : List Ent, (∀ e ∈ l, mayEn e = true) → (esV l).length ≤ 60005 * l.length := fun l => by
          induction l with
          | nil => intro _; simp [esV]
          | cons a l ih =>
            intro h
            have h1 := entV_len (h a (by simp))
            have h2 := ih fun e he => h e (by simp [he])
            have : esV (a :: l) = valV 1 (entV a) ++ esV l := rfl
            rw [this, List.length_append, valV_len, List.length_cons]
            omega
        have := hb x.es (List.all_eq_true.1 ha)
        omega
      rw [decide_eq_true this]; rfl
  · have hx := h4 (by omega)
    rw [mayR_code h0, decide_eq_true (by omega), decide_eq_true (by omega), decide_eq_true hx]
    rw [hx]
    rfl
end Go.Proofs.YtmalclclopnlnaaGreat
/-
  The document's results: whether one may be, walked.
-/
namespace Go.Proofs.YtmalclclopnlnaaGreat
open Go.RowKit Go.Shelf
attribute [local go_sem] Oper.semAt_some

theorem pk_nil (base : Nat) (w : World) : PkAt base w (.slice none 0 0) [] := ⟨[], OwnS.nil _ _ _ _ _, rfl, fun x hx => (by cases hx)⟩
theorem pk_snoc {base : Nat} {w0 w2 w4 : World} {u u' : Value} {bl : List BC} {l : List Ent} {A : Option Addr} {c : Nat} {e : Ent}
    (hb : bl.map BC.b = l.map entV) (ho : ∀ b, u.ownBlock = some b → base ≤ b ∧ b < w0.heap.size) (hx : ∀ x ∈ bl, Rd (fun b => base ≤ b ∧ b < w2.heap.size ∧ u.ownBlock ≠ some b) w2 1 csU x.A x.b) (hA : Rd (fun b => w0.heap.size ≤ b ∧ b < w2.heap.size) w2 1 csU A (entV e)) (h0 : base ≤ w0.heap.size)
    (hm : Mod (fun b => u.ownBlock = some b) w2 w4) (ho4 : OwnS base 35 1 BC.cs w4 u' (bl ++ [⟨A, c, entV e⟩])) (hu : u'.ownBlock = u.ownBlock ∨ u'.ownBlock = some (w2.heap.size + 1)) : PkAt base w4 u' (l ++ [e]) := by
  refine ⟨_, ho4, by rw [List.map_append, List.map_append, hb]; rfl, fun x hx' => ?_⟩
  have hs := hm.size
  have hne : ∀ b, b < w2.heap.size → u.ownBlock ≠ some b → u'.ownBlock ≠ some b := fun b h1 h2 h3 => by
    rcases hu with hu | hu
    · rw [hu] at h3; exact h2 h3
    · rw [hu] at h3; injection h3 with h3; omega
  rcases List.mem_append.1 hx' with h | h
  · refine ((hx x h).mod hm fun b hb => ⟨hb.2.1, hb.2.2⟩).mono fun b hb => ⟨hb.1, by omega, hne b hb.2.1 hb.2.2⟩
  · rw [List.mem_singleton.1 h]
    have h2 : ∀ b, w0.heap.size ≤ b → u.ownBlock ≠ some b := fun b hb h => by have := (ho b h).2; omega
    exact (hA.mod hm fun b hb => ⟨hb.2, h2 b hb.1⟩).mono fun b hb => ⟨by omega, by omega, hne b hb.2 (h2 b hb.1)⟩
theorem esV_small (l : List Ent) (h : ∀ e ∈ l, mayEn e = true) : (esV l).length ≤ 60005 * l.length := by
  induction l with
  | nil => simp [esV]
  | cons a l ih =>
    have h1 := entV_len (h a (by simp))
    have h2 := ih fun e he => h e (by simp [he])
    have : esV (a :: l) = valV 1 (entV a) ++ esV l := rfl
    rw [this, List.length_append, valV_len, List.length_cons]
    omega
set_option maxRecDepth 100000 in
set_option maxHeartbeats 4000000 in
theorem rresb_any (r : RC) (w : World) (h : r.Ok (fun b => b < w.heap.size) w) (hfit : r.Fit) (hes : r.es.length ≤ 10) :
    Calls Tryz.prog 22 #[r.val] w fun e w' => (∃ v, e = .returned (.tuple #[v, .bool (mayR r.res)])) ∧ Mod (fun _ => False) w w' := by
  obtain ⟨n, hn⟩ : ∃ n, n = r.es.length := ⟨_, rfl⟩
  obtain ⟨m, hm⟩ : ∃ m, m = r.cur.length := ⟨_, rfl⟩
  obtain ⟨k, hk⟩ : ∃ k, k = r.code := ⟨_, rfl⟩
  obtain ⟨y, hy⟩ : ∃ y, y = r.yes := ⟨_, rfl⟩
  obtain ⟨A, hA⟩ : ∃ A, A = r.A := ⟨_, rfl⟩
  obtain ⟨B, hB⟩ : ∃ B, B = r.B := ⟨_, rfl⟩
  obtain ⟨cA, hcA⟩ : ∃ c, c = r.cA := ⟨_, rfl⟩
  obtain ⟨cB, hcB⟩ : ∃ c, c = r.cB := ⟨_, rfl⟩
  have hval : r.val = .agg #[.int .i64 k, .bool y, .slice A n cA, .slice B m cB] := by rw [hn, hm, hk, hy, hA, hB, hcA, hcB]; rfl
  have hSm := fun X (hX : Mod (fun _ => False) w X) => rsameR_any r (RC.nil r.code) X ((h.mod hX fun b hb => ⟨hb, id⟩).mono fun b hb => Nat.lt_of_lt_of_le hb hX.size) (RC.nil_ok h.code)
  obtain ⟨d5, hd5⟩ : ∃ d, d = decide (r.res = ⟨r.code, false, [], []⟩) := ⟨_, rfl⟩
  rw [RC.nil_res, ← hd5, hval, ← hk] at hSm
  have hSm : ∀ X, Mod (fun _ => False) w X → Calls Tryz.prog 20 #[.agg #[.int .i64 k, .bool y, .slice A n cA, .slice B m cB], .agg #[.int .i64 k, .bool false, .slice none 0 0, .slice none 0 0]] X fun e w' => e = .returned (.bool d5) ∧ Mod (fun _ => False) X w' := hSm
  rw [hval]
  obtain ⟨bad, hbad⟩ : ∃ b, b = headBad r.res := ⟨_, rfl⟩
  have hb2 : bad = (decide (k < 0) || (decide (14 < k) || (decide (4000 < m) || (decide (0 < k) && !d5)))) := by rw [hbad, hd5, hk, hm]; rfl
  have hBm := @headBad_may r.res
  have hGm := @headGood_may r.res
  rw [← hbad] at hBm hGm
  have hGm := fun hb => hGm hb (by show (r.es.map EnC.ent).length ≤ 10; rw [List.length_map]; exact hes)
  obtain ⟨mz, hmz⟩ : ∃ z, z = mayR r.res := ⟨_, rfl⟩
  rw [← hmz] at hBm hGm ⊢
  have hGm : bad = false → 0 ≤ k ∧ k ≤ 14 ∧ m ≤ 4000 ∧ mz = r.res.es.all mayEn := fun hb => by have := hGm hb; rw [hk, hm]; exact this
  have HBm := Lib.hid hBm
  have HGm := Lib.hid hGm
  have HSm := Lib.hid hSm
  have HOk := Lib.hid (fun X (hX : Mod (fun _ => False) w X) => h.mod hX fun b hb => ⟨hb, id⟩)
  have HA := Lib.hid hA
  have HBB := Lib.hid hB
  have HN := Lib.hid hn
  have HMl := Lib.hid hm
  have HFit := Lib.hid hfit
  have hn10 : n ≤ 10 := by omega
  obtain ⟨W1, hW1⟩ : ∃ W1, W1 = w.alloc (.cells #[.int .i64 k, .bool y, .slice A n cA, .slice B m cB] 37) := ⟨_, rfl⟩
  have hm1 : Mod (fun _ => False) w W1 := by rw [hW1]; (repeat' (first | exact Mod.refl _ _ | assumption | refine Mod.alloc ?_ _ | refine Mod.drew ?_ | refine Mod.drewN ?_ _ | refine Mod.setCell ?_ (by first | exact Or.inl rfl | (right; simp; done) | (right; simp; omega) | (left; simp; done)) _))
  have hb1 : W1.heap[w.heap.size]? = some (.cells #[.int .i64 k, .bool y, .slice A n cA, .slice B m cB] 37 (0, 0)) := by rw [hW1]; exact hp_new _ _
  have HM1 := Lib.hid hm1
  have HB1 := Lib.hid hb1
  have HW1 := Lib.hid hW1
  clear hn hm hk hy hA hB hcA hcB hval hSm hd5 hbad hBm hGm hmz h hfit hes hm1 hb1 hW1
  clear hSm hGm
  go_enter Tryz.func22, Tryz.ntmps22
  go_upto_region 1 with fail
  rw [← HW1.out]
  go_cut [41] (fun v wx => v = .bool bad ∧ Mod (fun _ => False) W1 wx)
  case first =>
    obtain ⟨p0, p1, p2, p3⟩ : W1.cell? ⟨w.heap.size, 0, none⟩ = some (.int .i64 k) ∧ W1.cell? ⟨w.heap.size, 1, none⟩ = some (.bool y) ∧ W1.cell? ⟨w.heap.size, 2, none⟩ = some (.slice A n cA) ∧ W1.cell? ⟨w.heap.size, 3, none⟩ = some (.slice B m cB) := ⟨by rw [hp_cell HB1.out]; rfl, by rw [hp_cell HB1.out]; rfl, by rw [hp_cell HB1.out]; rfl, by rw [hp_cell HB1.out]; rfl⟩
    have k1000 : decide (1000 < n) = false := decide_eq_false (by omega)
    by_cases c1 : k < 0
    · have hbt : bad = true := by rw [hb2, decide_eq_true c1]; rfl
      have q1 : decide (k < 0) = true := decide_eq_true c1
      clear hb2
      go_wp2_with fail
      go_meet
      exact ⟨by rw [hbt], by (repeat' (first | exact Mod.refl _ _ | assumption | refine Mod.alloc ?_ _ | refine Mod.drew ?_ | refine Mod.drewN ?_ _ | refine Mod.setCell ?_ (by first | exact Or.inl rfl | (right; simp; done) | (right; simp; omega) | (left; simp; done)) _))⟩
    · have q1 : decide (k < 0) = false := decide_eq_false c1
      by_cases c2 : 14 < k
      · have hbt : bad = true := by rw [hb2, q1, decide_eq_true c2]; rfl
        have q2 : decide (14 < k) = true := decide_eq_true c2
        clear hb2
        go_wp2_with fail
        go_meet
        exact ⟨by rw [hbt], by (repeat' (first | exact Mod.refl _ _ | assumption | refine Mod.alloc ?_ _ | refine Mod.drew ?_ | refine Mod.drewN ?_ _ | refine Mod.setCell ?_ (by first | exact Or.inl rfl | (right; simp; done) | (right; simp; omega) | (left; simp; done)) _))⟩
      · have q2 : decide (14 < k) = false := decide_eq_false c2
        by_cases c3 : 4000 < m
        · have hbt : bad = true := by rw [hb2, q1, q2, decide_eq_true c3]; rfl
          have q3 : decide (4000 < m) = true := decide_eq_true c3
          clear hb2
          go_wp2_with fail
          go_meet
          exact ⟨by rw [hbt], by (repeat' (first | exact Mod.refl _ _ | assumption | refine Mod.alloc ?_ _ | refine Mod.drew ?_ | refine Mod.drewN ?_ _ | refine Mod.setCell ?_ (by first | exact Or.inl rfl | (right; simp; done) | (right; simp; omega) | (left; simp; done)) _))⟩
        · have q3 : decide (4000 < m) = false := decide_eq_false c3
          by_cases c4 : 0 < k
          · have hbt : bad = !d5 := by rw [hb2, q1, q2, q3, decide_eq_true c4]; rfl
            have q4 : decide (0 < k) = true := decide_eq_true c4
            clear hb2
            go_wp2_with (first
              | (have hS := HSm.out W1 HM1.out
                 refine Calls.mono hS ?_
                 rintro ex wx ⟨rfl, hmx⟩
                 dsimp only
                 go_ways)
              | fail)
            go_meet
            exact ⟨by rw [hbt, decide_eq_false (show ¬ (1000 : Int) < n by omega), decide_eq_false (show ¬ (4000 : Int) < m by omega)]; rfl, by (repeat' (first | exact Mod.refl _ _ | assumption | refine Mod.alloc ?_ _ | refine Mod.drew ?_ | refine Mod.drewN ?_ _ | refine Mod.setCell ?_ (by first | exact Or.inl rfl | (right; simp; done) | (right; simp; omega) | (left; simp; done)) _))⟩
          · have hbt : bad = false := by rw [hb2, q1, q2, q3, decide_eq_false c4]; rfl
            have q4 : decide (0 < k) = false := decide_eq_false c4
            clear hb2
            go_wp2_with fail
            go_meet
            exact ⟨by rw [hbt, decide_eq_false (show ¬ (1000 : Int) < n by omega), decide_eq_false (show ¬ (4000 : Int) < m by omega)]; rfl, by (repeat' (first | exact Mod.refl _ _ | assumption | refine Mod.alloc ?_ _ | refine Mod.drew ?_ | refine Mod.drewN ?_ _ | refine Mod.setCell ?_ (by first | exact Or.inl rfl | (right; simp; done) | (right; simp; omega) | (left; simp; done)) _))⟩
  case rest =>
    obtain ⟨rfl, hmx⟩ := hcut
    have HMX := Lib.hid (HM1.out.trans' hmx)
    have HK := Lib.hid (fun X (hX : Mod (fun _ => False) W1 X) => (show X.cell? ⟨w.heap.size, 0, none⟩ = some (.int .i64 k) ∧ X.cell? ⟨w.heap.size, 1, none⟩ = some (.bool y) ∧ X.cell? ⟨w.heap.size, 2, none⟩ = some (.slice A n cA) ∧ X.cell? ⟨w.heap.size, 3, none⟩ = some (.slice B m cB) from ⟨by rw [hp_cell (hp_mod HB1.out hX id)]; rfl, by rw [hp_cell (hp_mod HB1.out hX id)]; rfl, by rw [hp_cell (hp_mod HB1.out hX id)]; rfl, by rw [hp_cell (hp_mod HB1.out hX id)]; rfl⟩))
    have HMC := Lib.hid hmx
    clear hmx hb2 hGm
    cases bad
    case true =>
      obtain rfl := HBm.out rfl
      go_wp2
      refine bodyPost_ret (v := .tuple #[.slice none 0 0, .bool false]) (by simp [results, Tryz.results22, go_sem]) rfl ⟨⟨_, rfl⟩, HMX.out⟩
    obtain ⟨hk0, hk14, hm4, hmz⟩ := HGm.out rfl
    have HZ := Lib.hid hmz
    clear hmz
    go_wp2
    go_loopw [4, 5] (fun u i wr => ∃ j : Nat, j ≤ n ∧ i = .int .i64 (j : Int) ∧ PkAt W1.heap.size wr u ((r.es.take j).map EnC.ent) ∧ (∀ e ∈ r.es.take j, mayEn e.ent = true) ∧ Mod (fun _ => False) W1 wr) (fun _ i _ => n - (intOf i).toNat)
    case atStart => exact ⟨0, Nat.zero_le _, rfl, pk_nil _ _, by simp, HMC.out⟩
    case round =>
      obtain ⟨j, hj, rfl, hp, hall, hm⟩ := hrel
      obtain ⟨-, -, z2, -⟩ := HK.out _ hm
      have HP := Lib.hid hp
      have HAll := Lib.hid hall
      have HMr := Lib.hid hm
      have HMw := Lib.hid (HM1.out.trans' hm)
      have hs0 := HMr.out.size
      clear hp hall hm
      by_cases hjn : j < n
      · have hjx : j < r.es.length := by rw [← HN.out]; exact hjn
        obtain ⟨e, he⟩ : ∃ e, e = r.es[j] := ⟨_, rfl⟩
        have hem : e ∈ r.es := by rw [he]; exact List.getElem_mem _
        have hrd := (HOk.out _ HMw.out).rdE
        rw [← HA.out] at hrd
        obtain ⟨b1, o1, rfl, -, p0, p1⟩ := rdEn hrd hjx
        rw [← he] at p0 p1
        have hev := HOk.out _ HMw.out
        have hen := fun X (hX : Mod (fun _ => False) w X) => rentry_any e.nm e.A e.c e.ats X ((HOk.out X hX).ok e hem).nm (((HOk.out X hX).ok e hem).rd.mono fun b hb => Nat.lt_of_lt_of_le hb hX.size) (HFit.out.2 e hem) ((HOk.out X hX).ok e hem).fit
        obtain ⟨q, hq⟩ : ∃ q, q = e.ats.length := ⟨_, rfl⟩
        obtain ⟨mv, hmv⟩ : ∃ mv, mv = mayE e.nm e.ats := ⟨_, rfl⟩
        rw [← hq, ← hmv] at hen
        rw [← hq] at p1
        have ht : (r.es.take (j + 1)) = r.es.take j ++ [e] := by rw [List.take_succ_eq_append_getElem hjx, he]
        have HT := Lib.hid ht
        have HEn := Lib.hid hen
        have HQ := Lib.hid hq
        have HMv := Lib.hid hmv
        have HEm := Lib.hid hem
        clear hen hq hmv hem ht he hrd hev
        cases mv
        case false =>
          have hzf : mz = false := by
            rw [HZ.out]
            refine Bool.eq_false_iff.2 fun h => ?_
            have := List.all_eq_true.1 h e.ent (List.mem_map.2 ⟨e, HEm.out, rfl⟩)
            rw [show mayEn e.ent = mayE e.nm e.ats from rfl, ← HMv.out] at this
            exact Bool.noConfusion this
          subst hzf
          go_wp2_with (first
            | (go_at_call 39
               (with_reducible refine (HEn.out _ HMw.out).mono ?_)
               rintro e1 w1 ⟨rfl, hm1⟩
               have HM2 := Lib.hid (HMw.out.trans' hm1)
               clear hm1)
            | fail)
          refine bodyPost_ret (v := .tuple #[.slice none 0 0, .bool false]) (by simp [results, Tryz.results22, go_sem]) rfl ⟨⟨_, rfl⟩, HM2.out⟩
        have hme : mayEn e.ent = true := HMv.out.symm
        have hel := entV_len hme
        have hpl : (packV e.nm e.ats).length ≤ 60000 := hel
        have hpl2 := hpl
        unfold packV at hpl2
        rw [List.length_append, valV_len, valV_len] at hpl2
        have hgp := fun X (hX : Mod (fun _ => False) w X) => gpack_any e.nm e.A e.c e.ats X (((HOk.out X hX).ok e HEm.out).rd.mono fun b hb => Nat.lt_of_lt_of_le hb hX.size) (HFit.out.2 e HEm.out) (by omega) (by omega)
        obtain ⟨pl, hple⟩ : ∃ pl, pl = (packV e.nm e.ats).length := ⟨_, rfl⟩
        rw [← HQ.out, ← hple] at hgp
        have HGp := Lib.hid hgp
        have HPl := Lib.hid hple
        obtain ⟨bl, ho, hb, hx⟩ := HP.out
        have hbl : bl.length = j := by
          have := congrArg List.length hb
          rw [List.length_map, List.length_map, List.length_map, List.length_take] at this
          omega
        have HO := Lib.hid ho
        have HBl := Lib.hid hb
        have HX := Lib.hid hx
        have HBn := Lib.hid hbl
        have HMe := Lib.hid hme
        clear hgp hple ho hb hx hbl hme hel hpl hpl2
        obtain ⟨-, -, z2', -⟩ := HK.out _ HMr.out
        go_wp2_with (first
          | (go_at_call 39
             (with_reducible refine (HEn.out _ HMw.out).mono ?_)
             rintro e1 w1 ⟨rfl, hm1⟩
             have HM2 := Lib.hid (HMw.out.trans' hm1)
             have HMs := Lib.hid hm1
             obtain ⟨-, -, y2, -⟩ := HK.out _ (HMr.out.trans' hm1)
             have y3 := cell_modC p0 hm1 id
             have y4 := cell_modC p1 hm1 id
             clear hm1)
          | (go_at_call 40
             (with_reducible refine (HGp.out _ HM2.out).mono ?_)
             rintro e1 w2 ⟨A2, c2, rfl, ho2, hm2⟩
             have HR2 := Lib.hid (rd_of5 ho2 csU_len)
             have HF2 := Lib.hid ho2.fresh
             have HMb := Lib.hid (HMs.out.trans' hm2)
             have HM3 := Lib.hid (HMw.out.trans' HMb.out)
             have HO2 := Lib.hid (HO.out.mod HMb.out fun _ _ => id)
             have hs2 := HMs.out.size
             clear ho2 hm2)
          | (at_builtin
             go_must (refine wpList_app1 (w0 := W1) (xs := bl) (y := (⟨A2, c2, packV e.nm e.ats⟩ : BC)) rfl (.tmp 56) (.tmp 63) rfl u8ss_t BC.cs_len BC.cs_one rfl HO2.out (HMr.out.trans' HMb.out) rfl ?_ ?_ ?_ ?_)
             · show [Value.slice A2 pl c2] = [Value.slice A2 (packV e.nm e.ats).length c2]
               rw [HPl.out]
             · rw [HBn.out]; simp [maxLen]; omega
             · rw [HBn.out]; omega
             intro v' w4 hown4 hm4 hm5 hu4
             have HO4 := Lib.hid (pk_snoc (e := e.ent) HBl.out HO.out.fresh (fun x hx => ((HX.out x hx).mod HMb.out fun b hb => ⟨hb.2.1, id⟩).mono fun b hb => ⟨hb.1, Nat.lt_of_lt_of_le hb.2.1 HMb.out.size, hb.2.2⟩) (HR2.out.mono fun b hb => by have := HF2.out b hb; omega) hs0 hm5 hown4 hu4)
             have HM4 := Lib.hid hm4
             clear hown4 hm4 hm5 hu4)
          | fail)
        have ho4 := HO4.out
        rw [show (List.map EnC.ent (r.es.take j)) ++ [e.ent] = (r.es.take (j + 1)).map EnC.ent by rw [HT.out, List.map_append]; rfl] at ho4
        go_roundw
        case rel =>
          refine ⟨j + 1, by omega, by go_num, ho4, fun x hx => ?_, HM4.out⟩
          rw [HT.out] at hx
          rcases List.mem_append.1 hx with h | h
          · exact HAll.out x h
          · rw [List.mem_singleton.1 h]; exact HMe.out
        case measure => simp only [intOf]; omega
      · obtain rfl : j = n := by omega
        have htk : r.es.take j = r.es := by rw [HN.out, List.take_length]
        have hall := HAll.out
        have hp := HP.out
        rw [htk] at hall hp
        have hzt : mz = true := by rw [HZ.out]; exact List.all_eq_true.2 fun x hx => by obtain ⟨y, hy, rfl⟩ := List.mem_map.1 hx; exact hall y hy
        subst hzt
        obtain ⟨bl, ho, hb, hx⟩ := hp
        have hbl : bl.length = j := by
          have := congrArg List.length hb
          rw [List.length_map, List.length_map, List.length_map] at this
          rw [HN.out]; exact this
        obtain ⟨A1, c1, hv1, hr1, hf1, -⟩ := OwnS.rd ho BC.cs_len
        have hbe := bcV_ents hb
        have hes : (bcV bl).length ≤ 600050 := by
          rw [hbe]
          have := esV_small (r.es.map EnC.ent) fun e he => by obtain ⟨y, hy, rfl⟩ := List.mem_map.1 he; exact hall y hy
          rw [List.length_map, ← HN.out] at this
          omega
        have hl := rlist23_any 3 A1 c1 bl wr (hr1.mono fun b hb => (hf1 b hb).2) (fun x hxx => (hx x hxx).mono fun b hb => hb.2.1) (by omega)
        rw [show (((3 : UInt8).toNat : Nat) : Int) = 3 from rfl, hbl] at hl
        rw [hbl] at hv1
        subst hv1
        have HL := Lib.hid hl
        have HEs := Lib.hid hes
        obtain ⟨kn, hkn⟩ : ∃ kn : Nat, (kn : Int) = k := ⟨k.toNat, by omega⟩
        have hk3 : IntKind.u64.wrap k = (kn : Int) := by rw [show IntKind.u64.wrap k = k % 18446744073709551616 from rfl]; omega
        have hnu := fun X => fnumber_any 1 kn X (by omega)
        have hfl := fun X => fflag_any 2 y X
        have hva := fun X (hX : Mod (fun _ => False) w X) => fvalue_any 4 (fun b => b < X.heap.size) B cB r.cur X (by have := (HOk.out X hX).rdC.mono fun b hb => Nat.lt_of_lt_of_le hb hX.size; rw [HBB.out]; exact this) (by rw [← HMl.out]; omega)
        obtain ⟨vl, hvl⟩ : ∃ vl, vl = (valV 4 r.cur).length := ⟨_, rfl⟩
        rw [← HMl.out, ← hvl] at hva
        have hvl' : vl ≤ 4005 := by rw [hvl, valV_len, ← HMl.out]; omega
        rw [show (((4 : UInt8).toNat : Nat) : Int) = 4 from rfl] at hva
        have HNu := Lib.hid (show ∀ X, Calls Tryz.prog 42 #[.int .u8 1, .int .u64 (kn : Int)] X _ from hnu)
        have HFl := Lib.hid (show ∀ X, Calls Tryz.prog 43 #[.int .u8 2, .bool y] X _ from hfl)
        have HVa := Lib.hid hva
        have HVl := Lib.hid hvl
        clear hl hes hnu hfl hva hvl hall htk hb hbe hx hr1 hf1 ho hbl hkn
        go_upto_region 11 with (first
          | (go_at_call 41
             (with_reducible refine HL.out.mono ?_)
             rintro e1 w1 ⟨A2, c2, k2, rfl, hk2, ho2, hm2⟩
             have HK2 := Lib.hid hk2
             have HO2 := Lib.hid ho2
             have HM2 := Lib.hid (HMr.out.trans' hm2)
             clear hk2 ho2 hm2)
          | fail)
        have M1 := Mod.refl (fun _ => False) w1
        go_region_held3 (fun X => X.cell? ⟨w.heap.size, 0, none⟩ = some (.int .i64 k) ∧ X.cell? ⟨w.heap.size, 1, none⟩ = some (.bool y)) (first | exact ⟨(HK.out _ (HM2.out.trans' (by (repeat' (with_reducible (first | exact Mod.refl _ _ | assumption | refine Mod.alloc ?_ _ | refine Mod.drew ?_ | refine Mod.drewN ?_ _)))))).1, (HK.out _ (HM2.out.trans' (by (repeat' (with_reducible (first | exact Mod.refl _ _ | assumption | refine Mod.alloc ?_ _ | refine Mod.drew ?_ | refine Mod.drewN ?_ _)))))).2.1⟩ | fail) (first
          | (go_at_call 42
             (with_reducible refine (HNu.out _).mono ?_)
             rintro e2 w3 ⟨A3, c3, k3, rfl, hk3', ho3, hm3⟩
             have MN : Mod (fun _ => False) w1 w3 := Mod.trans' (by (repeat' (with_reducible (first | exact Mod.refl _ _ | assumption | refine Mod.alloc ?_ _ | refine Mod.drew ?_ | refine Mod.drewN ?_ _)))) hm3
             (first | have HOf2 := Lib.hid (HOf.out.mod (Mod.trans' (show Mod (fun _ => False) w4 _ from by (repeat' (with_reducible (first | exact Mod.refl _ _ | assumption | refine Mod.alloc ?_ _ | refine Mod.drew ?_ | refine Mod.drewN ?_ _)))) hm3) fun _ _ => id) | skip)
             have HOn := Lib.hid (ho3.less (Mod.size (show Mod (fun _ => False) w1 _ from by (repeat' (with_reducible (first | exact Mod.refl _ _ | assumption | refine Mod.alloc ?_ _ | refine Mod.drew ?_ | refine Mod.drewN ?_ _))))))
             have HKn := Lib.hid hk3'
             clear hk3' ho3 hm3)
          | (go_at_call 43
             (with_reducible refine (HFl.out _).mono ?_)
             rintro e2 w4 ⟨A4, c4, k4, rfl, hk4, ho4, hm4⟩
             have MF : Mod (fun _ => False) w1 w4 := Mod.trans' (by (repeat' (with_reducible (first | exact Mod.refl _ _ | assumption | refine Mod.alloc ?_ _ | refine Mod.drew ?_ | refine Mod.drewN ?_ _)))) hm4
             (first | have HOn2 := Lib.hid (HOn.out.mod (Mod.trans' (show Mod (fun _ => False) w3 _ from by (repeat' (with_reducible (first | exact Mod.refl _ _ | assumption | refine Mod.alloc ?_ _ | refine Mod.drew ?_ | refine Mod.drewN ?_ _)))) hm4) fun _ _ => id) | skip)
             have HOf := Lib.hid (ho4.less (Mod.size (show Mod (fun _ => False) w1 _ from by (repeat' (with_reducible (first | exact Mod.refl _ _ | assumption | refine Mod.alloc ?_ _ | refine Mod.drew ?_ | refine Mod.drewN ?_ _))))))
             have HKf := Lib.hid hk4
             clear hk4 ho4 hm4)
          | (refine step_app (base := w1.heap.size) (xs := valV 1 (be 8 kn)) (ys := valV 2 (flB y)) rfl (.tmp 73) (.tmp 76) rfl u8s_t csU_len csU_one rfl (by first | exact HOn2.out.mod (C := fun _ => False) (by (repeat' (with_reducible (first | exact Mod.refl _ _ | assumption | refine Mod.alloc ?_ _ | refine Mod.drew ?_ | refine Mod.drewN ?_ _)))) fun _ _ => id | exact HOn.out.mod (C := fun _ => False) (by (repeat' (with_reducible (first | exact Mod.refl _ _ | assumption | refine Mod.alloc ?_ _ | refine Mod.drew ?_ | refine Mod.drewN ?_ _)))) fun _ _ => id) c4 rfl HKf.out (rd_of5 (by first | exact HOf2.out.mod (C := fun _ => False) (by (repeat' (with_reducible (first | exact Mod.refl _ _ | assumption | refine Mod.alloc ?_ _ | refine Mod.drew ?_ | refine Mod.drewN ?_ _)))) fun _ _ => id | exact HOf.out.mod (C := fun _ => False) (by (repeat' (with_reducible (first | exact Mod.refl _ _ | assumption | refine Mod.alloc ?_ _ | refine Mod.drew ?_ | refine Mod.drewN ?_ _)))) fun _ _ => id) csU_len) ?_ ?_ (Mod.size (C := fun _ => False) (by (repeat' (with_reducible (first | exact Mod.refl _ _ | assumption | refine Mod.alloc ?_ _ | refine Mod.drew ?_ | refine Mod.drewN ?_ _))))) ?_
             · rw [valV_len, valV_len, be_len]; cases y <;> simp [flB, maxLen]
             · rw [valV_len, valV_len, be_len]; cases y <;> simp [flB]
             intro v5 w5 ho5 hm5 _
             have M5 : Mod (fun _ => False) w1 w5 := Mod.trans (by (repeat' (with_reducible (first | exact Mod.refl _ _ | assumption | refine Mod.alloc ?_ _ | refine Mod.drew ?_ | refine Mod.drewN ?_ _)))) hm5 (fun b hb => .inr (HOn.out.fresh b hb).1)
             have HO5 := Lib.hid ho5
             clear ho5 hm5)
          | fail)
        all_goals
          go_upto_region 12 with fail
          have hk2 : k2 ≤ 700000 := by rw [HK2.out, valV_len]; have := HEs.out; omega
          have HR2 := Lib.hid (fun X (hX : Mod (fun _ => False) w1 X) => rd_of5 (HO2.out.mod hX fun _ _ => id) csU_len)
          have hsa : (valV 1 (be 8 kn) ++ valV 2 (flB y)).length ≤ 100 := by rw [List.length_append, valV_len, valV_len, be_len]; cases y <;> simp [flB]
          have hsb : (valV 3 (bcV bl)).length ≤ 700000 := by rw [← HK2.out]; exact hk2
          have hsc : ((valV 1 (be 8 kn) ++ valV 2 (flB y)) ++ valV 3 (bcV bl)).length ≤ 700100 := by rw [List.length_append]; omega
          have hsd : (valV 4 r.cur).length ≤ 4005 := by rw [← HVl.out]; exact hvl'
          obtain ⟨sa, hsa'⟩ : ∃ s, s = valV 1 (be 8 kn) ++ valV 2 (flB y) := ⟨_, rfl⟩
          obtain ⟨sb, hsb'⟩ : ∃ s, s = valV 3 (bcV bl) := ⟨_, rfl⟩
          rw [← hsa', ← hsb'] at hsc
          rw [← hsa'] at hsa HO5
          rw [← hsb'] at hsb HK2 HR2
          have HSA := Lib.hid hsa
          have HSB := Lib.hid hsb
          have HSC := Lib.hid hsc
          have HSD := Lib.hid hsd
          have HZ5 := Lib.hid M5
          clear MN MF hsa hsb hsc hsd hsa' hsb' HOn HOf M1 hvl'
          go_upto_region 12 with fail
          have M6 := Mod.refl (fun _ => False) w5
          go_region_held3 (fun X => X.cell? ⟨w.heap.size, 3, none⟩ = some (.slice B m cB)) (first | exact (HK.out _ (HM2.out.trans' (by (repeat' (with_reducible (first | exact Mod.refl _ _ | assumption | refine Mod.alloc ?_ _ | refine Mod.drew ?_ | refine Mod.drewN ?_ _)))))).2.2.2 | fail) (first
            | (go_at_call 44
               (with_reducible refine (HVa.out _ ((HM1.out.trans' HM2.out).trans' (by (repeat' (with_reducible (first | exact Mod.refl _ _ | assumption | refine Mod.alloc ?_ _ | refine Mod.drew ?_ | refine Mod.drewN ?_ _)))))).mono ?_)
               rintro e2 w6 ⟨A6, c6, rfl, ho6, hm6⟩
               have HOa2 := Lib.hid (HOa.out.mod (Mod.trans' (show Mod (fun _ => False) w7 _ from by (repeat' (with_reducible (first | exact Mod.refl _ _ | assumption | refine Mod.alloc ?_ _ | refine Mod.drew ?_ | refine Mod.drewN ?_ _)))) hm6) fun _ _ => id)
               have MV1 : Mod (fun _ => False) w1 w6 := Mod.trans' (by (repeat' (with_reducible (first | exact Mod.refl _ _ | assumption | refine Mod.alloc ?_ _ | refine Mod.drew ?_ | refine Mod.drewN ?_ _)))) hm6
               have HOv := Lib.hid ho6
               clear ho6 hm6)
            | (refine step_app (base := w1.heap.size) (xs := sa) (ys := sb) rfl (.tmp 78) (.tmp 79) rfl u8s_t csU_len csU_one rfl (HO5.out.mod (C := fun _ => False) (by (repeat' (with_reducible (first | exact Mod.refl _ _ | assumption | refine Mod.alloc ?_ _ | refine Mod.drew ?_ | refine Mod.drewN ?_ _)))) fun _ _ => id) c2 rfl HK2.out (HR2.out _ (HZ5.out.trans' (by (repeat' (with_reducible (first | exact Mod.refl _ _ | assumption | refine Mod.alloc ?_ _ | refine Mod.drew ?_ | refine Mod.drewN ?_ _)))))) ?_ ?_ (Mod.size (C := fun _ => False) (HZ5.out.trans' (by (repeat' (with_reducible (first | exact Mod.refl _ _ | assumption | refine Mod.alloc ?_ _ | refine Mod.drew ?_ | refine Mod.drewN ?_ _)))))) ?_
               · have := HSA.out; have := HSB.out; unfold maxLen; omega
               · have := HSA.out; have := HSB.out; omega
               intro v7 w7 ho7 hm7 _
               have MA : Mod (fun _ => False) w1 w7 := Mod.trans (HZ5.out.trans' (by (repeat' (with_reducible (first | exact Mod.refl _ _ | assumption | refine Mod.alloc ?_ _ | refine Mod.drew ?_ | refine Mod.drewN ?_ _))))) hm7 (fun b hb => .inr (HO5.out.fresh b hb).1)
               have HOa := Lib.hid ho7
               clear ho7 hm7)
            | (refine step_app (base := w1.heap.size) (xs := sa ++ sb) (ys := valV 4 r.cur) rfl (.tmp 80) (.tmp 83) rfl u8s_t csU_len csU_one rfl (HOa2.out.mod (C := fun _ => False) (by (repeat' (with_reducible (first | exact Mod.refl _ _ | assumption | refine Mod.alloc ?_ _ | refine Mod.drew ?_ | refine Mod.drewN ?_ _)))) fun _ _ => id) c6 rfl HVl.out (rd_of5 (HOv.out.mod (C := fun _ => False) (by (repeat' (with_reducible (first | exact Mod.refl _ _ | assumption | refine Mod.alloc ?_ _ | refine Mod.drew ?_ | refine Mod.drewN ?_ _)))) fun _ _ => id) csU_len) ?_ ?_ (Mod.size (C := fun _ => False) (by (repeat' (with_reducible (first | exact Mod.refl _ _ | assumption | refine Mod.alloc ?_ _ | refine Mod.drew ?_ | refine Mod.drewN ?_ _))))) ?_
               · have := HSC.out; have := HSD.out; unfold maxLen; omega
               · have := HSC.out; have := HSD.out; omega
               intro v8 w8 ho8 hm8 _
               have M8 : Mod (fun _ => False) w1 w8 := (Mod.trans (by (repeat' (with_reducible (first | exact Mod.refl _ _ | assumption | refine Mod.alloc ?_ _ | refine Mod.drew ?_ | refine Mod.drewN ?_ _)))) hm8 (fun b hb => .inr (HOa2.out.fresh b hb).1))
               clear ho8 hm8)
            | fail)
          all_goals
            go_wp2
            refine bodyPost_ret (v := .tuple #[v8, .bool true]) (by simp [results, Tryz.results22, go_sem]) rfl ⟨⟨_, rfl⟩, (HM1.out.trans' HM2.out).trans' M8⟩
end Go.Proofs.YtmalclclopnlnaaGreat
