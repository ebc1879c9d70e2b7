/-
  A refusal holds its number, and no other: what errors.Is answers; every number.
-/
import Derived.Test.YtnlheljpagpiiaaGreatHd
import Derived.WalkKit
import Derived.LaidEql
import Derived.Stop.Asserts
import Derived.RowKitTokens
import Derived.Lib.IfaceEq
set_option linter.unusedVariables false
set_option linter.unusedSimpArgs false
set_option maxRecDepth 100000
set_option maxHeartbeats 8000000
namespace Go.Proofs.YtnlheljpagpiiaaGreat
open Go Go.RowKit Go.Extern.Stop Go.Stop Go.Extern
theorem is_type_of (v : Value) (w : World) : (Extern.ReflectliteType.typeOf #[.iface 26 v]).run Tryz.prog w = .ok (.iface 210 (.agg #[.pointer (some ⟨0, 26, none⟩)])) w := by kernel_rfl
theorem is_comparable (w : World) : ((Extern.ReflectliteType.method fun t => do Go.Extern.Rtype.noPackHeld "Comparable" t; (fun a => Value.bool a.comparable) <$> typeInfo t) #[.agg #[.pointer (some ⟨0, 26, none⟩)]]).run Tryz.prog w = .ok (.bool true) w := by kernel_rfl
theorem is_comp : (Tryz.prog.info? 26).map (·.comparable) = some true := by kernel_rfl
theorem is_meth_comp (v : Value) (w : World) : (Go.method 383 210 v "Comparable").run Tryz.prog w = .ok (206, v) w := by kernel_rfl
theorem is_meth_unwrap (v : Value) (w : World) : (Go.method 383 130 v "Unwrap").run Tryz.prog w = .ok (199, v) w := by kernel_rfl
theorem is_noIsE (v : Value) (xT : TypeId) (w : World) : (Instr.typeAssert (.iface 26 v) xT 212 true).run Tryz.prog w = .ok (.tuple #[.nilIface, .bool false]) w := run_typeAssert_lacksB Tryz.underlying212 (by kernel_rfl) (by kernel_rfl) v xT w
theorem is_noUnwrapE (v : Value) (xT : TypeId) (w : World) : (Instr.typeAssert (.iface 26 v) xT 215 true).run Tryz.prog w = .ok (.tuple #[.nilIface, .bool false]) w := run_typeAssert_lacksB Tryz.underlying215 (by kernel_rfl) (by kernel_rfl) v xT w
theorem is_noUnwrapsE (v : Value) (xT : TypeId) (w : World) : (Instr.typeAssert (.iface 26 v) xT 217 true).run Tryz.prog w = .ok (.tuple #[.nilIface, .bool false]) w := run_typeAssert_lacksB Tryz.underlying217 (by kernel_rfl) (by kernel_rfl) v xT w
theorem is_noIsW (v : Value) (xT : TypeId) (w : World) : (Instr.typeAssert (.iface 130 v) xT 212 true).run Tryz.prog w = .ok (.tuple #[.nilIface, .bool false]) w := run_typeAssert_lacksB Tryz.underlying212 (by kernel_rfl) (by kernel_rfl) v xT w
theorem is_hasUnwrapW (v : Value) (xT : TypeId) (w : World) : (Instr.typeAssert (.iface 130 v) xT 215 true).run Tryz.prog w = .ok (.tuple #[.iface 130 v, .bool true]) w := run_typeAssert_hasB Tryz.underlying215 (by kernel_rfl) v xT w
theorem is_calls (e g : Int) (w : World) :
    Calls Tryz.prog 82 #[.iface 130 (.agg #[.int .i64 e]), .iface 26 (.int .i64 g)] w fun x w' => x = .returned (.bool (e == g)) ∧ St ⟨Tryz.prog, w, []⟩ [] w' := by
  obtain ⟨i, hi, hcmp⟩ := Option.map_eq_some_iff.1 is_comp
  have h8 := @run_callFunc_extern Tryz.prog 117 _ Extern.ReflectliteType.typeOf Tryz.func117 (by kernel_rfl) (by kernel_rfl) (by kernel_rfl) (by kernel_rfl)
  have h32 := @run_callFunc_extern Tryz.prog 206 _ (Extern.ReflectliteType.method fun t => do Go.Extern.Rtype.noPackHeld "Comparable" t; pure (.bool (← typeInfo t).comparable)) Tryz.func206 (by kernel_rfl) (by kernel_rfl) (by kernel_rfl) (by kernel_rfl)
  have tT := is_type_of
  have cT := is_comparable
  have mR := is_meth_comp
  have nE := is_noIsE
  have uE := is_noUnwrapE
  have vE := is_noUnwrapsE
  have nW := is_noIsW
  have uW := is_hasUnwrapW
  have mU := is_meth_unwrap
  have heq := fun (w : World) => Go.Lib.run_eql_iface_int (P := Tryz.prog) (k := .i64) w e g Tryz.underlying95 is_comp Tryz.underlying26
  have hty := run_eql_iface_types (P := Tryz.prog) 130 26 (.agg #[.int .i64 e]) (.int .i64 g) Tryz.underlying95 (by decide)
  cases hb : (e == g)
  · rw [hb] at heq
    go_enter Tryz.func82, Tryz.ntmps82
    go_wp2
    refine wp_loop_rounds 2 ?_
    rw [rounds_succ]
    go_wp2
    rw [rounds_succ]
    go_wp2
    go_ret
    exact ⟨rfl, ((st_self Tryz.prog w).push _ _ _).sub (List.nil_sublist _)⟩
  · rw [hb] at heq
    go_enter Tryz.func82, Tryz.ntmps82
    go_wp2
    refine wp_loop_rounds 2 ?_
    rw [rounds_succ]
    go_wp2
    rw [rounds_succ]
    go_wp2
    go_ret
    exact ⟨rfl, ((st_self Tryz.prog w).push _ _ _).sub (List.nil_sublist _)⟩
theorem is_v (e g : Int) (w : World) : Val Tryz.prog 82 [.iface 130 (.agg #[.int .i64 e]), .iface 26 (.int .i64 g)] w (.bool (e == g)) := by
  refine ⟨(is_calls e g w).mono ?_⟩
  rintro x w' ⟨rfl, hst⟩
  exact ⟨_, [], rfl, ⟨rfl, rfl⟩, hst⟩
end Go.Proofs.YtnlheljpagpiiaaGreat
