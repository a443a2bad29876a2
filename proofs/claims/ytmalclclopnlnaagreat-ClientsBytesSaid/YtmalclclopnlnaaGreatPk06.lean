/-
  Texts of this claim, one behind the other: UtfB, UtfC.
-/
import Derived.Test.YtmalclclopnlnaaGreatPk04
import Derived.Test.YtmalclclopnlnaaGreatPk05
import Derived.WalkMore
import Derived.ScopeJumps
import Derived.Outline
/-
  The package utf: a text's runes.
-/
namespace Go.Proofs.YtmalclclopnlnaaGreat
open Go.RowKit Go.Shelf
attribute [local go_sem] Oper.semAt_some

def nextV : Option (Nat × Nat) → Value
  | none => .tuple #[.int .i32 0, .int .i64 0, .int .i64 5]
  | some (r, n) => .tuple #[.int .i32 (r : Int), .int .i64 (n : Int), .int .i64 0]
theorem i32_or64 (m d : Nat) (hm : m < 33554432) (hd : d < 64) : bits .or .i32 ((m : Int) * 64) (d : Int) = ((64 * m + d : Nat) : Int) := by
  have e : (m : Int) * 64 = ((m * 64 : Nat) : Int) := by omega
  rw [e, i32_or (m * 64) d (by omega) (by omega)]
  have h : m * 64 ||| d = m * 64 + d := by
    have : m * 64 = m <<< 6 := by rw [Nat.shiftLeft_eq]
    rw [this, Nat.shiftLeft_add_eq_or_of_lt (by omega : d < 2 ^ 6)]
  rw [h]; omega
theorem tailN_snoc (r : Nat) (l : Bs) (b : UInt8) : tailN r (l ++ [b]) = 64 * tailN r l + b.toNat % 64 := by
  unfold tailN; rw [List.foldl_append]; rfl
theorem tailN_lt : ∀ (l : Bs) (r B : Nat), r < B → tailN r l < B * 64 ^ l.length
  | [], r, B, hr => by simpa [tailN] using hr
  | b :: l, r, B, hr => by
    have h := tailN_lt l (64 * r + b.toNat % 64) (B * 64) (by omega)
    rw [List.length_cons, Nat.pow_succ, Nat.mul_comm (64 ^ _), ← Nat.mul_assoc]
    exact h
theorem int_eq {k : IntKind} {a b : Int} (h : a = b) : Value.int k a = .int k b := by rw [h]
theorem jump_ret {l : Nat} {J : Act → World → Prop} {Q : Exit → Act → World → Prop} {a : Act} {w : World} (h : Q .ret a w) : Exit.jump l J Q .ret a w := h
theorem jump_to {l : Nat} {J : Act → World → Prop} {Q : Exit → Act → World → Prop} {a : Act} {w : World} (h : J a w) : Exit.jump l J Q (.goto l) a w := ⟨rfl, h⟩
/-- Where 'none' is jumped to. -/
def toNone (v : Value) (w : World) (a : Act) (W : World) : Prop := v = nextV none ∧ w = W ∧ a.defers = [] ∧ a.tmps.size = 52
set_option maxRecDepth 100000 in
set_option maxHeartbeats 1000000 in
theorem unext_pass (v : Value) (w : World) (a : Act) (W : World) (h : toNone v w a W) : (Code.seq Code.skip (Code.seq (Code.region 13
  #[{ dst := some 2, op := Op.assign (Operand.const (Value.int IntKind.i32 0)), type := 21, pos := "utf.go:82", after := #[], guard := none },
    { dst := some 3, op := Op.assign (Operand.const (Value.int IntKind.i64 0)), type := 3, pos := "utf.go:82", after := #[{ on := 0, ground := Ground.chain }, { on := 0, ground := Ground.phase }], guard := none },
    { dst := some 4, op := Op.assign (Operand.const (Value.int IntKind.i64 5)), type := 33, pos := "utf.go:82", after := #[{ on := 1, ground := Ground.chain }, { on := 0, ground := Ground.phase }, { on := 1, ground := Ground.phase }], guard := none }] false) Code.ret)).wp Tryz.prog
    (Exit.jump 0 (fun a' w' => toNone v w a' w' ∧ 0 < 0) (bodyPost Tryz.prog Tryz.f139 fun e w' => e = .returned v ∧ w = w')) a W := by
  obtain ⟨hn, rfl, hd, hsz⟩ := h
  refine wp_seq (wp_skip ?_)
  refine wp_seq (wp_region_lit (wpList_plain rfl fun K1 h1 => ?_))
  refine (show K1 (a.put (some 2) (.int .i32 0)) w → _ from fun h => by simpa [Oper.wp, execOp, go_sem] using h) (h1 _ _ (wpList_plain rfl fun K2 h2 => ?_))
  refine (show K2 ((a.put (some 2) (.int .i32 0)).put (some 3) (.int .i64 0)) w → _ from fun h => by simpa [Oper.wp, execOp, go_sem] using h) (h2 _ _ (wpList_plain rfl fun K3 h3 => ?_))
  refine (show K3 (((a.put (some 2) (.int .i32 0)).put (some 3) (.int .i64 0)).put (some 4) (.int .i64 5)) w → _ from fun h => by simpa [Oper.wp, execOp, go_sem] using h) (h3 _ _ (wpList_nil ?_))
  refine wp_ret (jump_ret (bodyPost_ret (results_tmp3 rfl _ _ _) hd ⟨?_, rfl⟩))
  rw [hn]
  simp [nextV, Act.put, hsz]
set_option maxRecDepth 100000 in
set_option maxHeartbeats 4000000 in
theorem unext_any (l : Bs) (w : World) (hl : l.length ≤ 9223372036854775807) : Calls Tryz.prog 139 #[.string ⟨l.toArray⟩] w fun e w' => e = .returned (nextV (nextU l)) ∧ w = w' := by
  obtain ⟨v, hv⟩ : ∃ v, v = nextV (nextU l) := ⟨_, rfl⟩
  rw [← hv]
  have HV := Lib.hid hv
  clear hv
  rcases l with _ | ⟨a, s⟩
  · go_enter Tryz.func139, Tryz.ntmps139
    go_wp2
    apply wp_scope_jumps 0 (toNone v w) (fun _ _ => 0)
    · exact rfl
    rotate_left
    · exact fun a W h => unext_pass v w a W h
    go_wp2
    all_goals try (go_step3; go_wp2)
    first
      | exact jump_to ⟨HV.out, rfl, rfl, rfl⟩
      | (refine jump_ret ?_; go_ret3; exact ⟨by rw [HV.out]; rfl, rfl⟩)
  have h7 : ∀ h, (⟨(a :: s).toArray⟩ : ByteArray)[0]'h = a := fun h => rfl
  have HH := Lib.hid (fun X => uhead_any a X)
  rw [List.length_cons] at hl
  have hsz : (⟨(a :: s).toArray⟩ : ByteArray).size = s.length + 1 := rfl
  obtain ⟨o, ho⟩ : ∃ o, o = headN a.toNat := ⟨_, rfl⟩
  rw [← ho] at HH
  rcases o with _ | ⟨r0, m⟩
  · have HN := Lib.hid (show v = nextV none by rw [HV.out]; simp only [nextU]; rw [← ho])
    clear ho
    unfold headV at HH
    go_enter Tryz.func139, Tryz.ntmps139
    go_wp2
    apply wp_scope_jumps 0 (toNone v w) (fun _ _ => 0)
    · exact rfl
    rotate_left
    · exact fun a W h => unext_pass v w a W h
    go_wp2_with (go_at_call 142; refine (HH.out _).mono ?_; rintro e w' ⟨rfl, rfl⟩)
    all_goals try (go_step3; go_wp2)
    first
      | exact jump_to ⟨HN.out, rfl, rfl, rfl⟩
      | (refine jump_ret ?_; go_ret3; exact ⟨by rw [HN.out]; rfl, rfl⟩)
  have hle := headN_le ho.symm
  unfold headV at HH
  simp only at HH
  have HN := Lib.hid (show v = nextV (if s.length < m then none else if (s.take m).all ct then (if sizeN (tailN r0 (s.take m)) = m + 1 then some (tailN r0 (s.take m), m + 1) else none) else none) by rw [HV.out]; simp only [nextU]; rw [← ho])
  clear ho
  by_cases hlt : s.length < m
  · have HN2 := Lib.hid (show v = nextV none by rw [HN.out, if_pos hlt])
    go_enter Tryz.func139, Tryz.ntmps139
    go_wp2
    apply wp_scope_jumps 0 (toNone v w) (fun _ _ => 0)
    · exact rfl
    rotate_left
    · exact fun a W h => unext_pass v w a W h
    go_wp2_with (go_at_call 142; refine (HH.out _).mono ?_; rintro e w' ⟨rfl, rfl⟩)
    all_goals try (go_step3; go_wp2)
    first
      | exact jump_to ⟨HN2.out, rfl, rfl, rfl⟩
      | (refine jump_ret ?_; go_ret3; exact ⟨by rw [HN2.out]; rfl, rfl⟩)
  have hle1 := hle.1
  have HLe := Lib.hid hle
  clear hle
  go_enter Tryz.func139, Tryz.ntmps139
  go_wp2
  apply wp_scope_jumps 0 (toNone v w) (fun _ _ => 0)
  · exact rfl
  rotate_left
  · exact fun a W h => unext_pass v w a W h
  go_wp2_with (go_at_call 142; refine (HH.out _).mono ?_; rintro e w' ⟨rfl, rfl⟩)
  go_loop [5, 25] (fun r i => ∃ k z : Nat, k ≤ m ∧ i = .int .i64 k ∧ r = .int .i32 z ∧ z = tailN r0 (s.take k) ∧ (s.take k).all ct = true) (fun _ i => m - (intOf i).toNat)
  case atStart => exact ⟨0, r0, Nat.zero_le _, rfl, rfl, rfl, rfl⟩
  case round =>
    obtain ⟨k, z, hk, rfl, rfl, hz, hall⟩ := hrel
    have hzl : z < 33554432 := by
      have h1 := tailN_lt (s.take k) r0 128 HLe.out.2.2
      have h2 : 64 ^ (s.take k).length ≤ 64 ^ 3 := Nat.pow_le_pow_right (by decide) (by rw [List.length_take]; omega)
      rw [hz]
      omega
    have HZ := Lib.hid hz
    have HAll := Lib.hid hall
    clear hz hall
    by_cases hkm : k < m
    · have hks : k < s.length := by omega
      obtain ⟨b, hb⟩ : ∃ b, b = s[k] := ⟨_, rfl⟩
      have h8 : ∀ h, (⟨(a :: s).toArray⟩ : ByteArray)[k + 1]'h = b := fun h => by rw [hb]; rfl
      have HTk := Lib.hid (show s.take (k + 1) = s.take k ++ [b] by rw [hb]; exact List.take_succ_eq_append_getElem hks)
      have HIn := Lib.hid (show b ∈ s.take m by rw [hb]; exact List.mem_of_getElem? (i := k) (by rw [List.getElem?_take_of_lt hkm]; exact List.getElem?_eq_getElem hks))
      clear hb
      have hbl := b.toNat_lt
      have hq63 := Lib.hid (and_k b (k := 63) (m := 6) rfl (by decide))
      have hq192 := Lib.hid (u8_and192 b)
      obtain ⟨q, hq⟩ : ∃ q, q = b.toNat % 64 := ⟨_, rfl⟩
      have hql : q < 64 := by omega
      have HQ := Lib.hid hq
      have h63 : bits .and .u8 (b.toNat : Int) 63 = (q : Int) := by rw [hq]; exact hq63.out
      clear hq
      obtain ⟨c, hc⟩ : ∃ c, c = ct b := ⟨_, rfl⟩
      have hne : (bits .and .u8 (b.toNat : Int) 192 != 128) = !c := by rw [hc]; show (!(_ == _)) = _; rw [hq192.out]
      have HC := Lib.hid hc
      clear hc hq192 hq63
      cases c
      · have HN2 := Lib.hid (show v = nextV none by
          rw [HN.out, if_neg hlt, if_neg]
          intro h
          have := List.all_eq_true.1 h b HIn.out
          rw [← HC.out] at this
          cases this)
        simp only [Bool.not_false] at hne
        go_wp2
        all_goals try (go_step3; go_wp2)
        first
          | exact jump_to ⟨HN2.out, rfl, rfl, rfl⟩
          | (refine jump_ret ?_; go_ret3; exact ⟨by rw [HN2.out]; rfl, rfl⟩)
      · simp only [Bool.not_true] at hne
        go_wp2
        exact ⟨⟨k + 1, 64 * z + q, by omega, by go_num, int_eq (by omega), by rw [HTk.out, tailN_snoc, HZ.out, HQ.out], by rw [HTk.out, List.all_append, HAll.out]; simp [← HC.out]⟩, by simp only [intOf]; omega⟩
    · obtain rfl : k = m := by omega
      have HS := Lib.hid (fun X => usize_any z X)
      obtain ⟨y, hy⟩ : ∃ y, y = sizeN z := ⟨_, rfl⟩
      rw [← hy] at HS
      have hyl : y ≤ 4 := by rw [hy]; unfold sizeN; split <;> (try split) <;> (try split) <;> (try split) <;> omega
      have HN2 := Lib.hid (show v = nextV (if y = k + 1 then some (z, k + 1) else none) by rw [HN.out, if_neg hlt, if_pos HAll.out, ← HZ.out, hy])
      clear hy
      by_cases hyk : y = k + 1
      · have HN3 := Lib.hid (show v = nextV (some (z, k + 1)) by rw [HN2.out, if_pos hyk])
        subst hyk
        go_wp2_with (go_at_call 135; refine (HS.out _).mono ?_; rintro e w' ⟨rfl, rfl⟩)
        all_goals try (go_step3; go_wp2)
        first
          | exact jump_to ⟨HN3.out, rfl, rfl, rfl⟩
          | (refine jump_ret ?_; go_ret3; exact ⟨by rw [HN3.out]; rfl, rfl⟩)
      · have HN3 := Lib.hid (show v = nextV none by rw [HN2.out, if_neg hyk])
        go_wp2_with (go_at_call 135; refine (HS.out _).mono ?_; rintro e w' ⟨rfl, rfl⟩)
        all_goals try (go_step3; go_wp2)
        first
          | exact jump_to ⟨HN3.out, rfl, rfl, rfl⟩
          | (refine jump_ret ?_; go_ret3; exact ⟨by rw [HN3.out]; rfl, rfl⟩)

/-! ### Going over a text -/
def stU : Nat → Nat → Bs → List (Nat × Nat)
  | 0, _, _ => []
  | f + 1, o, s => match nextU s with
    | none => []
    | some (r, n) => (o, r) :: stU f (o + n) (s.drop n)
def stepsU (l : Bs) : List (Nat × Nat) := stU l.length 0 l
theorem stU_more : ∀ (f g o : Nat) (s : Bs), s.length ≤ f → s.length ≤ g → stU f o s = stU g o s
  | 0, 0, _, _, _, _ => rfl
  | 0, g + 1, o, s, h, _ => by
    have : s = [] := List.eq_nil_of_length_eq_zero (by omega)
    subst this; rfl
  | f + 1, 0, o, s, _, h => by
    have : s = [] := List.eq_nil_of_length_eq_zero (by omega)
    subst this; rfl
  | f + 1, g + 1, o, s, h1, h2 => by
    simp only [stU]
    cases hn : nextU s with
    | none => rfl
    | some p =>
      obtain ⟨r, n⟩ := p
      have := nextU_pos hn
      simp only
      rw [stU_more f g (o + n) (s.drop n) (by simp; omega) (by simp; omega)]
theorem stU_none {f o : Nat} {s : Bs} (h : nextU s = none) : stU f o s = [] := by
  cases f with
  | zero => rfl
  | succ f => simp only [stU, h]
theorem stU_some {o : Nat} {s : Bs} {r n : Nat} (h : nextU s = some (r, n)) : stU s.length o s = (o, r) :: stU (s.drop n).length (o + n) (s.drop n) := by
  have hp := nextU_pos h
  obtain ⟨k, hk⟩ : ∃ k, s.length = k + 1 := ⟨s.length - 1, by omega⟩
  rw [hk]
  simp only [stU, h]
  rw [stU_more k (s.drop n).length (o + n) (s.drop n) (by simp; omega) (Nat.le_refl _)]
theorem stU_snd : ∀ (f o : Nat) (s : Bs), (stU f o s).map (·.2) = (decU f s).1
  | 0, _, _ => rfl
  | f + 1, o, s => by
    simp only [stU, decU]
    cases hn : nextU s with
    | none => rfl
    | some p => simp only [List.map_cons]; rw [stU_snd f]
theorem stepsU_snd (l : Bs) : (stepsU l).map (·.2) = runesU l := stU_snd _ _ _
def endSo (o : Nat) (xs : List (Nat × Nat)) : Nat := (xs.getLast?.map fun p => p.1 + sizeN p.2).getD o
theorem endSo_snoc (o : Nat) (xs : List (Nat × Nat)) (p : Nat × Nat) : endSo o (xs ++ [p]) = p.1 + sizeN p.2 := by simp [endSo]
theorem endSo_cons (o : Nat) (p : Nat × Nat) (xs : List (Nat × Nat)) : endSo o (p :: xs) = endSo (p.1 + sizeN p.2) xs := by
  cases xs with
  | nil => rfl
  | cons q xs =>
    unfold endSo
    rw [List.getLast?_cons_cons]
    cases h : (q :: xs).getLast? with
    | none => simp at h
    | some z => rfl
theorem endSo_stU : ∀ (f o : Nat) (s : Bs), endSo o (stU f o s) = o + (decU f s).2
  | 0, _, _ => rfl
  | f + 1, o, s => by
    simp only [stU, decU]
    cases hn : nextU s with
    | none => rfl
    | some p =>
      obtain ⟨r, n⟩ := p
      have := nextU_pos hn
      simp only
      rw [endSo_cons]
      simp only [this.2.2.2.2]
      rw [endSo_stU f]; omega
theorem endSo_all (l : Bs) : endSo 0 (stepsU l) = endU l := by
  have := endSo_stU l.length 0 l
  rw [Nat.zero_add] at this
  exact this
theorem stepsU_len (l : Bs) : (stepsU l).length ≤ l.length := by
  have := congrArg List.length (stepsU_snd l)
  rw [List.length_map] at this
  rw [this]; exact runesU_len l
theorem stU_ok : ∀ (f o : Nat) (s : Bs), ∀ p ∈ stU f o s, p.1 ≤ o + s.length ∧ mayN p.2 = true
  | 0, _, _, p, h => by simp [stU] at h
  | f + 1, o, s, p, h => by
    simp only [stU] at h
    cases hn : nextU s with
    | none => rw [hn] at h; simp at h
    | some q =>
      obtain ⟨r, n⟩ := q
      have hp := nextU_pos hn
      rw [hn] at h
      simp only [List.mem_cons] at h
      rcases h with rfl | h
      · exact ⟨by simp, hp.2.2.2.1⟩
      · have := stU_ok f (o + n) (s.drop n) p h
        simp at this
        exact ⟨by omega, this.2⟩
theorem stepsU_ok (l : Bs) : ∀ p ∈ stepsU l, p.1 ≤ l.length ∧ mayN p.2 = true := fun p h => by
  have := stU_ok _ _ _ p h
  rwa [Nat.zero_add] at this

theorem urunes_any (l : Bs) (w : World) : Calls Tryz.prog 134 #[.string ⟨l.toArray⟩] w fun e w' => e = .returned (.func (.func 138) #[] #[.pointer (some ⟨w.heap.size, 0, none⟩)]) ∧ w.alloc (.cells #[.string ⟨l.toArray⟩] 9) = w' := by
  go_enter Tryz.func134, Tryz.ntmps134
  go_wp2
  go_ret
  exact ⟨rfl, rfl⟩
def uEncs (l : Bs) : List (Array Value) := (stepsU l).map fun p => #[.int .i64 (p.1 : Int), .int .i32 (p.2 : Int)]
set_option maxRecDepth 100000 in
set_option maxHeartbeats 2000000 in
theorem urunes1_iter (Bt : Nat) (l : Bs) (D : Nat → Prop) (w : World) (hl : l.length ≤ 4294967000)
    (hBt : w.cell? ⟨Bt, 0, none⟩ = some (.string ⟨l.toArray⟩)) (hD : D Bt) (hDl : ∀ b, D b → b < w.heap.size) :
    Iter Tryz.prog 138 #[.pointer (some ⟨Bt, 0, none⟩)] (uEncs l) D w := by
  intro y J Jx C0 W hAg hC hJ hJx hY h0
  have hBt' := (hAg.cell (p := ⟨Bt, 0, none⟩) hD).trans hBt
  have hbtl : Bt < W.heap.size := World.block_lt_of_cell? W _ hBt'
  have hG : ¬ C0 Bt := fun h => (hC _ h).2 hD
  have hlen : (uEncs l).length = (stepsU l).length := by simp [uEncs]
  obtain ⟨n, hn⟩ : ∃ n, n = (stepsU l).length := ⟨_, rfl⟩
  have hnl : n ≤ l.length := by rw [hn]; exact stepsU_len l
  have HBT := Lib.hid (fun X (hX : Mod C0 W X) => (hX.cell (p := ⟨Bt, 0, none⟩) hbtl hG).trans hBt')
  have HN := Lib.hid hn
  have HL := Lib.hid hlen
  clear hBt hBt' hn hlen
  refine callsIn_wide.1 (callsIn_of_wp (n := 0) (F := Fence.wide) Tryz.func138 rfl trivial ?_ rfl)
  simp only [Tryz.ntmps138, List.size_toArray, List.length_cons, List.length_nil, Nat.reduceAdd, Nat.reduceSub, Array.replicate_succ, Array.replicate_zero, List.push_toArray, List.append_toArray, List.nil_append, List.cons_append]
  gi_wp2
  gi_loopw [3] (fun i wr => ∃ (k o : Nat) (C : Nat → Prop), k ≤ n ∧ i = .int .i64 o ∧ o ≤ l.length ∧ stU (l.drop o).length o (l.drop o) = (stepsU l).drop k ∧ J k C wr ∧ Mod C0 W wr ∧ (∀ b, C b → b < wr.heap.size ∧ (C0 b ∨ W.heap.size ≤ b)))
    (fun i _ => l.length - (intOf i).toNat)
  case atStart => exact ⟨0, 0, C0, Nat.zero_le _, rfl, Nat.zero_le _, rfl, h0, Mod.refl _ _, fun b hb => ⟨(hC b hb).1, .inl hb⟩⟩
  case round =>
    obtain ⟨k, o, C, hk, rfl, ho, hst, hJs, hm, hb⟩ := hrel
    have cB := HBT.out _ hm
    have HST := Lib.hid hst
    have HM := Lib.hid hm
    clear hst hm
    by_cases hlt : o < l.length
    · obtain ⟨r, hr⟩ : ∃ r, r = l.drop o := ⟨_, rfl⟩
      have hrl : r.length = l.length - o := by rw [hr, List.length_drop]
      have hx : (⟨l.toArray⟩ : ByteArray).extract o l.length = ⟨r.toArray⟩ := by rw [mk_ext, hr]; simp [List.take_of_length_le]
      rw [← hr] at HST
      have HR := Lib.hid hr
      have HNx := Lib.hid (fun X => unext_any r X (by omega))
      clear hr
      obtain ⟨q, hq⟩ : ∃ q, q = nextU r := ⟨_, rfl⟩
      rw [← hq] at HNx
      rcases q with _ | ⟨x, m⟩
      · have h3 : k = n := by
          have h4 := congrArg List.length HST.out
          rw [stU_none hq.symm] at h4
          simp [← HN.out] at h4
          omega
        clear hq
        unfold nextV at HNx
        simp only at HNx
        gi_wp2_with ((refine ⟨trivial, rfl, ?_⟩; gi_at_call 139)
                     refine ci (HNx.out _) ?_
                     rintro e w1 ⟨rfl, rfl⟩)
        rename_i hK _ _ _ _
        refine ⟨fun _ h => (by cases h), hK _ _ ?_⟩
        gi_wp2
        refine bodyPost_ret (results_none rfl _ _ _) rfl ?_
        refine ⟨⟨_, rfl⟩, .inl ⟨C, ?_, HM.out, hb⟩⟩
        rw [HL.out, ← HN.out, ← h3]
        exact hJs
      · have hp := nextU_pos hq.symm
        have hst2 := stU_some (o := o) hq.symm
        rw [HST.out] at hst2
        have hkn : k < (stepsU l).length := by
          have h4 := congrArg List.length hst2
          simp at h4
          omega
        have hxk : (stepsU l)[k] = (o, x) := by
          have := congrArg (fun z => z[0]?) hst2
          simp at this
          rw [List.getElem?_eq_getElem hkn] at this
          simpa using this
        have hdr : stU (l.drop (o + m)).length (o + m) (l.drop (o + m)) = (stepsU l).drop (k + 1) := by
          have := congrArg (List.drop 1) hst2
          rw [HR.out, List.drop_drop] at this
          simpa using this.symm
        have HDR := Lib.hid hdr
        have hml : m ≤ l.length - o := by omega
        have hm0 : 0 < m := hp.1
        have hm4 : m ≤ 4 := hp.2.1
        have hk2 : k < (uEncs l).length := by rw [HL.out]; exact hkn
        have hen : (uEncs l)[k] = #[.int .i64 (o : Int), .int .i32 (x : Int)] := by simp [uEncs, hxk]
        clear hq hp hst2 hkn hxk hdr
        unfold nextV at HNx
        simp only at HNx
        gi_wp2_with ((refine ⟨trivial, rfl, ?_⟩; gi_at_call 139)
                     refine ci (HNx.out _) ?_
                     rintro e w1 ⟨rfl, rfl⟩
                     obtain ⟨fn, tmps, assign, body, hy, hR⟩ := hY k hk2 C wr hJs HM.out hb
                     simp only [hen] at hy
                     clear hY)
        refine ⟨rfl, (hR _).mono ?_⟩
        have hs2 := HM.out.size
        rintro e W3 (⟨rfl, C', hJ3, hm3, hb3⟩ | ⟨rfl, C', hJ3, hm3, hb3⟩)
        all_goals
          have M3 := HM.out.trans hm3 (fun b h => (hb b h).2)
          have B3 : ∀ b, C' b → b < W3.heap.size ∧ (C0 b ∨ W.heap.size ≤ b) := fun b h => ⟨(hb3 b h).1, (hb3 b h).2.elim (fun h => (hb b h).2) (fun h => .inr (by omega))⟩
        · gi_wp2
          go_roundw
          case rel => exact ⟨k + 1, o + m, C', by have := HL.out; have := HN.out; omega, by go_num, by omega, HDR.out, hJ3, M3, B3⟩
          case measure => simp only [intOf]; omega
        · gi_wp2
          refine bodyPost_ret (results_none rfl _ _ _) rfl ?_
          exact ⟨⟨_, rfl⟩, .inr ⟨k + 1, by omega, by omega, C', hJ3, M3, B3⟩⟩
    · obtain rfl : o = l.length := by omega
      have h3 : k = n := by
        have h4 := congrArg List.length HST.out
        rw [List.drop_length] at h4
        simp [stU, ← HN.out] at h4
        omega
      gi_wp2
      go_end0
      refine ⟨⟨_, rfl⟩, .inl ⟨C, ?_, HM.out, hb⟩⟩
      rw [HL.out, ← HN.out, ← h3]
      exact hJs
end Go.Proofs.YtmalclclopnlnaaGreat
/-
  The package utf: well made texts.
-/
namespace Go.Proofs.YtmalclclopnlnaaGreat
open Go.RowKit Go.Shelf
attribute [local go_sem] Oper.semAt_some

def whI (z : Nat) (xs : List (Nat × Nat)) (k : Nat) (C : Nat → Prop) (W : World) : Prop := W.heap[z]? = some (.cells #[.int .i64 ((endSo 0 (xs.take k) : Nat) : Int)] 3 (0, 0)) ∧ C = fun b => b = z
def noXU (_ : Code) (_ : Nat) (_ : Nat → Prop) (_ : World) : Prop := False
def whA (z : Nat) (xs : List (Nat × Nat)) (T enc : Array Value) (a' : Act) (k : Nat) (C : Nat → Prop) (W : World) : Prop :=
  ∃ p, xs[k]? = some p ∧ a' = { tmps := (((T.setIfInBounds 8 (.int .i64 (p.1 : Int))).setIfInBounds 9 (.int .i32 (p.2 : Int))).setIfInBounds 4 (.int .i64 (p.1 : Int))).setIfInBounds 5 (.int .i32 (p.2 : Int)), defers := [] } ∧ whI z xs k C W
set_option maxRecDepth 100000 in
set_option maxHeartbeats 1000000 in
theorem uwhere_any (l : Bs) (w : World) (hl : l.length ≤ 4294967000) : Calls Tryz.prog 126 #[.string ⟨l.toArray⟩] w fun e w' => e = .returned (.int .i64 (endU l)) ∧ Mod (fun _ => False) w w' := by
  obtain ⟨xs, hxs⟩ : ∃ xs, xs = stepsU l := ⟨_, rfl⟩
  obtain ⟨r, hr⟩ : ∃ r, r = endU l := ⟨_, rfl⟩
  have hxl : xs.length ≤ l.length := by rw [hxs]; exact stepsU_len l
  have HOk := Lib.hid (stepsU_ok l)
  have HE := Lib.hid (endSo_all l)
  rw [← hxs] at HOk HE
  rw [← hr] at HE ⊢
  have HX := Lib.hid hxs
  clear hxs hr
  refine callsIn_wide.1 (callsIn_of_wp_marks (n := 0) (F := Fence.wide) Tryz.func126 rfl trivial ?_ rfl)
  simp only [Tryz.ntmps126, List.size_toArray, List.length_cons, List.length_nil, Nat.reduceAdd, Nat.reduceSub, Array.replicate_succ, Array.replicate_zero, List.push_toArray, List.append_toArray, List.nil_append, List.cons_append]
  gi_wp2_with (first
    | ((refine ⟨trivial, rfl, ?_⟩; gi_at_call 134); refine ci (urunes_any l _) ?_; rintro e w1 ⟨rfl, rfl⟩)
    | fail)
  obtain ⟨W4, hW4⟩ : ∃ W4, W4 = (w.alloc (.cells #[.int .i64 0] 3)).alloc (.cells #[.string ⟨l.toArray⟩] 9) := ⟨_, rfl⟩
  have hsz : W4.heap.size = w.heap.size + 2 := by subst hW4; simp
  have hz4 : W4.heap[w.heap.size]? = some (.cells #[.int .i64 0] 3 (0, 0)) := by subst hW4; (repeat' (first | exact hp_new _ _ | exact hp_at _ _ (by simp; done) | refine hp_alloc ?_ _ | refine hp_drew ?_ | refine hp_drewN ?_ _ | apply hp_set | refine hp_far ?_ (by first | (simp; omega) | (simp; done)) _))
  have ht4 : W4.heap[w.heap.size + 1]? = some (.cells #[.string ⟨l.toArray⟩] 9 (0, 0)) := by subst hW4; (repeat' (first | exact hp_new _ _ | exact hp_at _ _ (by simp; done) | refine hp_alloc ?_ _ | refine hp_drew ?_ | refine hp_drewN ?_ _ | apply hp_set | refine hp_far ?_ (by first | (simp; omega) | (simp; done)) _))
  have hm4 : ∀ C, Mod C w W4 := fun C => by subst hW4; (repeat' (first | exact Mod.refl _ _ | assumption | refine Mod.alloc ?_ _ | refine Mod.drew ?_ | refine Mod.drewN ?_ _ | refine Mod.setCell ?_ (by first | exact Or.inl rfl | (right; simp; done) | (right; simp; omega) | (left; simp; done)) _))
  rw [← hW4]
  clear hW4
  have HM4 := Lib.hid hm4
  refine wp_rangeG (gf := 138) (lb := #[.pointer (some ⟨w.heap.size + 1, 0, none⟩)]) rfl (enters_of Tryz.func138 (by kernel_rfl) rfl) (encIt_ok (ar := 2) (fun x hx => by
      obtain ⟨p, _, rfl⟩ := List.mem_map.1 hx
      rfl))
    ((urunes1_iter (w.heap.size + 1) l (fun b => b = w.heap.size + 1) W4 hl (hp_cell ht4 0) rfl (fun b hb => by omega)).toG 2)
    (fun b hb => by rcases hb with rfl | h <;> first | omega | exact h.elim) rfl
    (whI w.heap.size xs) noXU (whA w.heap.size xs) (fun k C X Y ⟨h1, h2⟩ hA => ⟨hp_agree h1 hA (by rw [h2]), h2⟩) (fun c k C X Y h hA => h)
    (fun T enc a' k C X Y ⟨p, h0, h1, h2, h3⟩ hA => ⟨p, h0, h1, hp_agree h2 hA (by rw [h3]), h3⟩)
    (fun b => b = w.heap.size) (fun b hb => by subst hb; exact ⟨by omega, fun hd => by have hd : w.heap.size = w.heap.size + 1 := hd; omega, id⟩) ⟨hz4, rfl⟩ trivial ?assign ?body ?done (fun _ _ _ _ _ _ h => h.elim)
  case assign =>
    rintro l' k hk enc R C W' ⟨h1, rfl⟩ - he - hm' hb'
    have hk : k < (uEncs l).length := hk
    have hk2 : k < xs.length := by rw [HX.out]; simpa [uEncs] using hk
    have he : (uEncs l)[k]? = some enc := he
    obtain ⟨p, hp⟩ : ∃ p, p = xs[k] := ⟨_, rfl⟩
    have hen : enc = #[.int .i64 (p.1 : Int), .int .i32 (p.2 : Int)] := by
      rw [List.getElem?_eq_getElem hk] at he
      have he := (Option.some.inj he).symm
      rw [he, hp]
      simp [uEncs, HX.out]
    subst hen
    have HP := Lib.hid (show xs[k]? = some p by rw [hp]; exact List.getElem?_eq_getElem hk2)
    have H1 := Lib.hid h1
    clear h1 he hp
    gi_wp2
    exact ⟨fun b => b = w.heap.size, ⟨p, HP.out, rfl, H1.out, rfl⟩, Mod.refl _ _, fun b hb => ⟨(hb' b hb).1, .inl hb⟩⟩
  case body =>
    rintro l' k hk enc R C a' W' ⟨p, hp, rfl, h1, rfl⟩ - - - hm' hb' - - -
    have hkl : k < xs.length := (List.getElem?_eq_some_iff.1 hp).1
    have hpk : xs[k] = p := by rw [List.getElem?_eq_getElem hkl] at hp; exact Option.some.inj hp
    have hpo := HOk.out p (List.mem_of_getElem? hp)
    have hp1 : p.1 ≤ l.length := hpo.1
    obtain ⟨o, hoo⟩ : ∃ o, o = p.1 := ⟨_, rfl⟩
    obtain ⟨x, hxx⟩ : ∃ x, x = p.2 := ⟨_, rfl⟩
    rw [← hoo] at hp1
    rw [← hoo, ← hxx]
    obtain ⟨y, hy⟩ : ∃ y, y = sizeN x := ⟨_, rfl⟩
    have hyl : y ≤ 4 := by rw [hy]; unfold sizeN; split <;> (try split) <;> (try split) <;> (try split) <;> omega
    have HS := Lib.hid (fun X => usize_any x X)
    rw [← hy] at HS
    have HT := Lib.hid (show endSo 0 (xs.take (k + 1)) = o + y by rw [List.take_succ_eq_append_getElem hkl, endSo_snoc, hpk, hy, hoo, hxx])
    have c0 := hp_cell h1 0
    have f0 := hp_free h1 0
    have hlt := hp_lt h1
    have H1 := Lib.hid h1
    clear h1 hp hpk hpo hoo hxx hy
    gi_wp2_with (first
      | ((refine ⟨trivial, rfl, ?_⟩; gi_at_call 135); refine cir (HS.out _) ?_; rintro e w1 ⟨rfl, rfl⟩)
      | fail)
    exact ⟨fun b => b = w.heap.size, ⟨hp_eq (hp_set H1.out 0 _) (by rw [HT.out]; simp), rfl⟩, by (repeat' (first | exact Mod.refl _ _ | assumption | refine Mod.alloc ?_ _ | refine Mod.drew ?_ | refine Mod.drewN ?_ _ | refine Mod.setCell ?_ (by first | exact Or.inl rfl | (right; simp; done) | (right; simp; omega) | (left; simp; done)) _)), fun b hb => by subst hb; exact ⟨by simpa [World.setCell] using hlt, .inl rfl⟩⟩
  case done =>
    rintro W' C' ⟨h1, rfl⟩ _ hm' hb' hK hn'
    rw [hsz] at hK hn'
    have hn : (encIt 2 (uEncs l) fun b => b = w.heap.size + 1).n = xs.length := by simp [encIt, uEncs, HX.out]
    rw [hn, List.take_length, HE.out] at h1
    have c0 := hp_cell h1 0
    have HM' := Lib.hid hm'
    clear hm' hn
    gi_wp2
    refine endM1 rfl hK (results_tmp rfl _ _ _) ⟨rfl, ?_⟩
    refine Mod.putObj ((HM4.out (fun _ => False)).trans HM'.out (fun b hb => ?_)) (.inr (by omega)) _
    rcases hb with h | h
    · right; omega
    · exact h.elim
theorem uvalid_any (l : Bs) (w : World) (hl : l.length ≤ 4294967000) : Calls Tryz.prog 113 #[.string ⟨l.toArray⟩] w fun e w' => e = .returned (.bool (validU l)) ∧ Mod (fun _ => False) w w' := by
  obtain ⟨r, hr⟩ : ∃ r, r = endU l := ⟨_, rfl⟩
  have HW := Lib.hid (uwhere_any l w hl)
  rw [← hr] at HW
  by_cases he : r = l.length
  · have hv : validU l = true := by unfold validU; rw [← hr, he]; simp
    rw [hv]
    subst he
    clear hv hr
    go_enter Tryz.func113, Tryz.ntmps113
    go_wp2_with (go_at_call 126; refine HW.out.mono ?_; rintro e w1 ⟨rfl, hm⟩)
    go_ret
    exact ⟨rfl, hm⟩
  · have hv : validU l = false := by unfold validU; rw [← hr]; simp [he]
    rw [hv]
    have hb : ((r : Int) == (l.length : Int)) = false := by rw [beq_eq_false_iff_ne]; omega
    clear hv hr he
    go_enter Tryz.func113, Tryz.ntmps113
    go_wp2_with (go_at_call 126; refine HW.out.mono ?_; rintro e w1 ⟨rfl, hm⟩)
    go_ret
    exact ⟨rfl, hm⟩
end Go.Proofs.YtmalclclopnlnaaGreat
