/-
  errors.Is at an error of a table and its reason (after the kit's worked examples).
-/
import Derived.Test.YtidbgfmknhlmnaaGreatDoorFoldC
import Derived.WalkKit
import Derived.LaidEql
import Derived.Stop.Asserts
import Derived.RowKitTokens
namespace Go.Proofs.YtidbgfmknhlmnaaGreatDoor
open Go.RowKit Go.Extern.Stop Go.Stop Go.Extern

theorem run_eql_iface_int2 {P : Program} (w : World) {ti tn : TypeId} {ms : Array (String × TypeId)} {i : TypeInfo} {k : IntKind} (a b : Int)
    (hi : P.underlying ti = some (.interface ms)) (hn : P.underlying tn = some (.int k)) (hinfo : P.info? tn = some i) (hcomp : i.comparable = true) :
    (binOp .eql ti (.iface tn (.int k a)) (.iface tn (.int k b))).run P w = .ok (.bool (a == b)) w := by
  have h : ∀ d : Nat, (Op.equalIn (d + 2) ti (.iface tn (.int k a)) (.iface tn (.int k b))).run P w = .ok (a == b) w := fun d => by
    simp [Op.equalIn, run_underlying hi, run_underlying hn, typeInfo, hinfo, hcomp]
  simp only [binOp]
  simp [Op.equal, Op.maxDepth, h 9998]
theorem eis_typeOf (v : Value) (w : World) : (Extern.ReflectliteType.typeOf #[.iface 25 v]).run Tryz.prog w = .ok (.iface 114 (.agg #[.pointer (some ⟨4, 25, none⟩)])) w := by kernel_rfl
theorem eis_comparable (w : World) : ((Extern.ReflectliteType.method fun t => do Rtype.noPackHeld "Comparable" t; (fun a => Value.bool a.comparable) <$> typeInfo t) #[.agg #[.pointer (some ⟨4, 25, none⟩)]]).run Tryz.prog w = .ok (.bool true) w := by kernel_rfl
theorem eis_methodComparable (v : Value) (w : World) : (Go.method 322 114 v "Comparable").run Tryz.prog w = .ok (152, v) w := by kernel_rfl
theorem eis_comp : (Tryz.prog.info? 25).map (·.comparable) = some true := by kernel_rfl
theorem eis_noIs (v : Value) (xT : TypeId) (w : World) : (Instr.typeAssert (.iface 47 v) xT 126 true).run Tryz.prog w = .ok (.tuple #[.nilIface, .bool false]) w := run_typeAssert_lacksB Tryz.underlying126 (by kernel_rfl) (by kernel_rfl) v xT w
theorem eis_hasUnwrap (v : Value) (xT : TypeId) (w : World) : (Instr.typeAssert (.iface 47 v) xT 121 true).run Tryz.prog w = .ok (.tuple #[.iface 47 v, .bool true]) w := run_typeAssert_hasB Tryz.underlying121 (by kernel_rfl) v xT w
theorem eis_methodUnwrap (v : Value) (w : World) : (Go.method 322 47 v "Unwrap").run Tryz.prog w = .ok (146, v) w := by kernel_rfl
set_option maxRecDepth 100000 in
set_option maxHeartbeats 4000000 in
/-- An error of a table is its reason. -/
theorem is_table (b : Nat) (n why : Int) (w : World) (he : ErrAt w b n why) :
    Calls Tryz.prog 20 #[.iface 47 (ptrV b), .iface 25 (.int .i64 why)] w fun e w' => e = .returned (.bool true) ∧ w = w' := by
  obtain ⟨i, hi, hcmp⟩ := Option.map_eq_some_iff.1 eis_comp
  have h8 := @run_callFunc_extern Tryz.prog 39 _ Extern.ReflectliteType.typeOf Tryz.func39 (by kernel_rfl) (by kernel_rfl) (by kernel_rfl) (by kernel_rfl)
  have h32 := @run_callFunc_extern Tryz.prog 152 _ (Extern.ReflectliteType.method fun t => do Rtype.noPackHeld "Comparable" t; pure (.bool (← typeInfo t).comparable)) Tryz.func152 (by kernel_rfl) (by kernel_rfl) (by kernel_rfl) (by kernel_rfl)
  have c2 := hp_cell he 2
  simp only [List.getElem?_toArray] at c2
  have tT := eis_typeOf
  have cT := eis_comparable
  have mR := eis_methodComparable
  have nE := eis_noIs
  have uW := eis_hasUnwrap
  have mU := eis_methodUnwrap
  have heq := run_eql_iface_int2 (P := Tryz.prog) w why why Tryz.underlying43 Tryz.underlying25 hi hcmp
  rw [show (why == why) = true by simp] at heq
  have hty := run_eql_iface_types (P := Tryz.prog) 47 25 (ptrV b) (.int .i64 why) Tryz.underlying43 (by decide) w
  clear he hi hcmp
  go_enter Tryz.func20, Tryz.ntmps20
  go_wp2
  refine wp_loop_rounds 2 ?_
  rw [rounds_succ]
  go_wp2
  rw [rounds_succ]
  go_wp2
  go_ret
  exact ⟨rfl, rfl⟩
end Go.Proofs.YtidbgfmknhlmnaaGreatDoor
