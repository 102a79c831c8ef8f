/-
  errors.As at a target of type *api.Errno, and dovecotelaw0.Num (numbers of types and functions by wip/tools/errids.py).
-/
import Derived.Test.YtlidjmchohkhcaaDoorTab
import Derived.Test.YtlidjmchohkhcaaDoorVgL
namespace Go.Err
open Go.Proofs Go.RowKit Go.Vg Go.Extern
set_option maxRecDepth 100000
set_option linter.unusedVariables false

/-- A fault's cells: its layer, and a number as an error. -/
def encF (x : ByteArray × Int) : List Value := [.string x.1, .iface 48 (.int .i64 x.2)]
theorem encF_ok : EncOk encF 2 := ⟨fun _ => rfl, fun x u h => by
  simp only [encF, List.mem_cons, List.not_mem_nil, or_false] at h
  rcases h with rfl | rfl <;> rfl⟩
abbrev rt (t : Nat) : Value := .pointer (some ⟨1, t, none⟩)
abbrev rty (t : Nat) : Value := .iface 88 (.agg #[rt t])
abbrev nilAgg (a b : Value) (k : Int) : Value := .agg #[a, b, .int .u64 k]

section
variable (w : World)
theorem c_valueOfP (t : Addr) : (callFunc 49 #[.iface 83 (.pointer (some t))]).run Tryd.prog w = .ok (.value (.agg #[rt 83, .pointer (some ⟨w.heap.size, 0, none⟩), .int .u64 150])) (w.alloc (.cells #[.pointer (some t)] 83)) := by
  rw [@run_callFunc_extern Tryd.prog 49 _ (fun args => ReflectliteValue.unpack (args.getD 0 (.tuple #[]))) Tryd.func49 (by kernel_rfl) (by kernel_rfl) (by kernel_rfl) (by kernel_rfl)]
  exact congrArg (fun (r : Result Value) => r.andThen fun v w' => Result.ok (Next.value v) w') (show (ReflectliteValue.unpack (.iface 83 (.pointer (some t)))).run Tryd.prog w = .ok (.agg #[rt 83, .pointer (some ⟨w.heap.size, 0, none⟩), .int .u64 150]) (w.alloc (.cells #[.pointer (some t)] 83)) by kernel_rfl)
theorem c_valueOfE (n : Int) : (callFunc 49 #[.iface 48 (.int .i64 n)]).run Tryd.prog w = .ok (.value (.agg #[rt 48, .pointer (some ⟨w.heap.size, 0, none⟩), .int .u64 130])) (w.alloc (.cells #[.int .i64 n] 48)) := by
  rw [@run_callFunc_extern Tryd.prog 49 _ (fun args => ReflectliteValue.unpack (args.getD 0 (.tuple #[]))) Tryd.func49 (by kernel_rfl) (by kernel_rfl) (by kernel_rfl) (by kernel_rfl)]
  exact congrArg (fun (r : Result Value) => r.andThen fun v w' => Result.ok (Next.value v) w') (show (ReflectliteValue.unpack (.iface 48 (.int .i64 n))).run Tryd.prog w = .ok (.agg #[rt 48, .pointer (some ⟨w.heap.size, 0, none⟩), .int .u64 130]) (w.alloc (.cells #[.int .i64 n] 48)) by kernel_rfl)
theorem c_type (a : Addr) : (callFunc 50 #[.agg #[rt 83, .pointer (some a), .int .u64 150]]).run Tryd.prog w = .ok (.value (rty 83)) w := by
  rw [@run_callFunc_extern Tryd.prog 50 _ (ReflectliteValue.methodAny (ReflectliteValue.valueError "reflectlite.Value.Type" 0) (fun t _ _ _ => ReflectliteType.toType t)) Tryd.func50 (by kernel_rfl) (by kernel_rfl) (by kernel_rfl) (by kernel_rfl)]
  rw [show (ReflectliteValue.methodAny (ReflectliteValue.valueError "reflectlite.Value.Type" 0) (fun t _ _ _ => ReflectliteType.toType t) #[.agg #[rt 83, .pointer (some a), .int .u64 150]]).run Tryd.prog w = .ok (rty 83) w by kernel_rfl]
  rfl
theorem c_kindP : (callFunc 73 #[rt 83]).run Tryd.prog w = .ok (.value (.int .u8 22)) w := by
  rw [@run_callFunc_extern Tryd.prog 73 _ (ReflectliteType.abiMethod fun t => do pure (.int .u8 (← Rtype.kind t))) Tryd.func73 (by kernel_rfl) (by kernel_rfl) (by kernel_rfl) (by kernel_rfl)]
  rw [show ((ReflectliteType.abiMethod fun t => do pure (.int .u8 (← Rtype.kind t))) #[rt 83]).run Tryd.prog w = .ok (.int .u8 22) w by kernel_rfl]
  rfl
theorem c_kindE : (callFunc 73 #[rt 48]).run Tryd.prog w = .ok (.value (.int .u8 2)) w := by
  rw [@run_callFunc_extern Tryd.prog 73 _ (ReflectliteType.abiMethod fun t => do pure (.int .u8 (← Rtype.kind t))) Tryd.func73 (by kernel_rfl) (by kernel_rfl) (by kernel_rfl) (by kernel_rfl)]
  rw [show ((ReflectliteType.abiMethod fun t => do pure (.int .u8 (← Rtype.kind t))) #[rt 48]).run Tryd.prog w = .ok (.int .u8 2) w by kernel_rfl]
  rfl
theorem c_elemT : (callFunc 82 #[.agg #[rt 83]]).run Tryd.prog w = .ok (.value (rty 48)) w := by
  rw [@run_callFunc_extern Tryd.prog 82 _ (ReflectliteType.method ReflectliteType.elem) Tryd.func82 (by kernel_rfl) (by kernel_rfl) (by kernel_rfl) (by kernel_rfl)]
  rw [show (ReflectliteType.method ReflectliteType.elem #[.agg #[rt 83]]).run Tryd.prog w = .ok (rty 48) w by kernel_rfl]
  rfl
theorem c_impl : (callFunc 83 #[.agg #[rt 48], rty 33]).run Tryd.prog w = .ok (.value (.bool true)) w := by
  rw [@run_callFunc_extern Tryd.prog 83 _ (ReflectliteType.relation "Implements" ReflectliteType.implements_) Tryd.func83 (by kernel_rfl) (by kernel_rfl) (by kernel_rfl) (by kernel_rfl)]
  rw [show (ReflectliteType.relation "Implements" ReflectliteType.implements_ #[.agg #[rt 48], rty 33]).run Tryd.prog w = .ok (.bool true) w by kernel_rfl]
  rfl
theorem c_typeOfF (v : Value) : (callFunc 33 #[.iface 79 v]).run Tryd.prog w = .ok (.value (rty 79)) w := by
  rw [@run_callFunc_extern Tryd.prog 33 _ ReflectliteType.typeOf Tryd.func33 (by kernel_rfl) (by kernel_rfl) (by kernel_rfl) (by kernel_rfl)]
  rw [show (ReflectliteType.typeOf #[.iface 79 v]).run Tryd.prog w = .ok (rty 79) w by kernel_rfl]
  rfl
theorem c_typeOfE (v : Value) : (callFunc 33 #[.iface 48 v]).run Tryd.prog w = .ok (.value (rty 48)) w := by
  rw [@run_callFunc_extern Tryd.prog 33 _ ReflectliteType.typeOf Tryd.func33 (by kernel_rfl) (by kernel_rfl) (by kernel_rfl) (by kernel_rfl)]
  rw [show (ReflectliteType.typeOf #[.iface 48 v]).run Tryd.prog w = .ok (rty 48) w by kernel_rfl]
  rfl
theorem c_assignF : (callFunc 80 #[.agg #[rt 79], rty 48]).run Tryd.prog w = .ok (.value (.bool false)) w := by
  rw [@run_callFunc_extern Tryd.prog 80 _ (ReflectliteType.relation "AssignableTo" ReflectliteType.assignableTo) Tryd.func80 (by kernel_rfl) (by kernel_rfl) (by kernel_rfl) (by kernel_rfl)]
  rw [show (ReflectliteType.relation "AssignableTo" ReflectliteType.assignableTo #[.agg #[rt 79], rty 48]).run Tryd.prog w = .ok (.bool false) w by kernel_rfl]
  rfl
theorem c_assignE : (callFunc 80 #[.agg #[rt 48], rty 48]).run Tryd.prog w = .ok (.value (.bool true)) w := by
  rw [@run_callFunc_extern Tryd.prog 80 _ (ReflectliteType.relation "AssignableTo" ReflectliteType.assignableTo) Tryd.func80 (by kernel_rfl) (by kernel_rfl) (by kernel_rfl) (by kernel_rfl)]
  rw [show (ReflectliteType.relation "AssignableTo" ReflectliteType.assignableTo #[.agg #[rt 48], rty 48]).run Tryd.prog w = .ok (.bool true) w by kernel_rfl]
  rfl
theorem m_kind (h : Value) : (Go.method (Tryd.prog.types.size + Made.depth) 88 (.agg #[h]) "Kind").run Tryd.prog w = .ok (73, h) w := by kernel_rfl
theorem m_elem (h : Value) : (Go.method (Tryd.prog.types.size + Made.depth) 88 (.agg #[h]) "Elem").run Tryd.prog w = .ok (82, .agg #[h]) w := by kernel_rfl
theorem m_impl (h : Value) : (Go.method (Tryd.prog.types.size + Made.depth) 88 (.agg #[h]) "Implements").run Tryd.prog w = .ok (83, .agg #[h]) w := by kernel_rfl
theorem m_assign (h : Value) : (Go.method (Tryd.prog.types.size + Made.depth) 88 (.agg #[h]) "AssignableTo").run Tryd.prog w = .ok (80, .agg #[h]) w := by kernel_rfl
theorem m_unwrap (f : Addr) : (Go.method (Tryd.prog.types.size + Made.depth) 79 (.pointer (some f)) "Unwrap").run Tryd.prog w = .ok (78, .pointer (some f)) w := by kernel_rfl

theorem rlm (z : Sem Value) (f : TypeId → Addr → Nat → Nat → Sem Value) (v : Value) :
    ReflectliteValue.method z f #[v] = (do match ← ReflectliteValue.parts v with | none => z | some (t, a, fl) => f t a fl (fl % 32)) := rfl
theorem p_P (a : Addr) : (ReflectliteValue.parts (.agg #[rt 83, .pointer (some a), .int .u64 150])).run Tryd.prog w = .ok (some (83, a, 150)) w := by kernel_rfl
theorem p_E (a : Addr) : (ReflectliteValue.parts (.agg #[rt 48, .pointer (some a), .int .u64 130])).run Tryd.prog w = .ok (some (48, a, 130)) w := by kernel_rfl
theorem p_T (a : Addr) : (ReflectliteValue.parts (.agg #[rt 48, .pointer (some a), .int .u64 386])).run Tryd.prog w = .ok (some (48, a, 386)) w := by kernel_rfl
theorem i_P : (isAgg 83).run Tryd.prog w = .ok false w := by kernel_rfl
theorem i_E : (isAgg 48).run Tryd.prog w = .ok false w := by kernel_rfl
theorem u_P : (underlying 83).run Tryd.prog w = .ok (.pointer 48) w := by kernel_rfl
theorem c_isNil {a t : Addr} (ha : w.cell? a = some (.pointer (some t))) : (callFunc 51 #[.agg #[rt 83, .pointer (some a), .int .u64 150]]).run Tryd.prog w = .ok (.value (.bool false)) w := by
  rw [@run_callFunc_extern Tryd.prog 51 _ (ReflectliteValue.method (ReflectliteValue.valueError "reflectlite.Value.IsNil" 0) ReflectliteValue.isNil) Tryd.func51 (by kernel_rfl) (by kernel_rfl) (by kernel_rfl) (by kernel_rfl)]
  rw [rlm]
  simp only [Sem.run_bind, p_P, Result.andThen]
  simp [ReflectliteValue.isNil, loadVar, ha, Result.andThen]
theorem e_P : (Rtype.elem? 83).run Tryd.prog w = .ok (some 48) w := by kernel_rfl
theorem k_E (p : Addr) : (ReflectliteValue.mk 48 p ReflectliteValue.flagAddr).run Tryd.prog w = .ok (.agg #[rt 48, .pointer (some p), .int .u64 386]) w := by kernel_rfl
theorem c_elem {a t : Addr} (ha : w.cell? a = some (.pointer (some t))) : (callFunc 56 #[.agg #[rt 83, .pointer (some a), .int .u64 150]]).run Tryd.prog w = .ok (.value (.agg #[rt 48, .pointer (some t), .int .u64 386])) w := by
  rw [@run_callFunc_extern Tryd.prog 56 _ (ReflectliteValue.method (ReflectliteValue.valueError "reflectlite.Value.Elem" 0) ReflectliteValue.elem) Tryd.func56 (by kernel_rfl) (by kernel_rfl) (by kernel_rfl) (by kernel_rfl)]
  rw [rlm]
  simp only [Sem.run_bind, p_P, Result.andThen]
  simp [ReflectliteValue.elem, loadVar, ha, Result.andThen, e_P, k_E]
theorem rls (v x : Value) : ReflectliteValue.set #[v, x] = (do
    let (some (dst, a, fl), some (src, b, _)) := (← ReflectliteValue.parts v, ← ReflectliteValue.parts x)
      | unsupported (.noEntry "extern/(internal/reflectlite.Value).Set.zeroValue")
    if fl / ReflectliteValue.flagAddr % 2 == 0 then unsupported (.noEntry "extern/(internal/reflectlite.Value).Set.unaddressable")
    let val ← loadVar src b
    if ← Rtype.directlyAssignable dst src then storeVar dst a val
    else if ← Rtype.implements dst src then
      if (← Rtype.kind src) == 20 then
        match val with
        | .nilIface => unsupported (.noEntry "extern/reflectlite: a nil value of one interface type handed on as a value of another")
        | _ => storeVar dst a val
      else storeVar dst a (.iface src val)
    else panicString ("reflectlite.Set: value of type " ++ (← Rtype.spelt src) ++ " is not assignable to type " ++ (← Rtype.spelt dst))
    pure (.tuple #[])) := rfl
theorem d_E : (Rtype.directlyAssignable 48 48).run Tryd.prog w = .ok true w := by kernel_rfl
theorem c_set {b t : Addr} {n : Int} {w' : World} (hb : w.cell? b = some (.int .i64 n)) (hs : (Instr.storeAt 48 (.pointer (some t)) (.int .i64 n)).run Tryd.prog w = .ok () w') :
    (callFunc 57 #[.agg #[rt 48, .pointer (some t), .int .u64 386], .agg #[rt 48, .pointer (some b), .int .u64 130]]).run Tryd.prog w = .ok (.value (.tuple #[])) w' := by
  have hs' : (storeVar 48 t (.int .i64 n)).run Tryd.prog w = .ok () w' := by
    simpa only [Instr.storeAt, Instr.sureAddr, Sem.run_bind, Sem.run_pure, Result.andThen_ok] using hs
  rw [@run_callFunc_extern Tryd.prog 57 _ ReflectliteValue.set Tryd.func57 (by kernel_rfl) (by kernel_rfl) (by kernel_rfl) (by kernel_rfl)]
  rw [rls]
  simp only [Sem.run_bind, p_T, p_E, Result.andThen]
  simp [ReflectliteValue.flagAddr, loadVar, hb, Result.andThen, d_E, hs']
end
end Go.Err
