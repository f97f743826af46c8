/-
  errors.As by its contracts, at the target *Errno: the library's own text of errors.As and errors.as is walked: an error that is an Errno: it is set, and true comes back.
-/
import Derived.Test.YtihakhdinkkdmaaGreatDoorK06
import Derived.Test.YtihakhdinkkdmaaGreatDoorK05
import Derived.WalkKit
import Derived.LaidEql
import Derived.Stop.Asserts
import Derived.RowKitTokens
import Derived.Test.YtihakhdinkkdmaaGreatDoorK07
import Derived.Test.YtihakhdinkkdmaaGreatDoorK13
import Derived.Test.YtihakhdinkkdmaaGreatDoorK14
import Derived.Test.YtihakhdinkkdmaaGreatDoorK09
import Derived.LaidMore
import Derived.Stop.LaidErr
import Derived.Test.YtihakhdinkkdmaaGreatDoorRows
import Derived.ProofKit
import Derived.LaidLaws
import Derived.LaidHandle
import Derived.LaidSub
import Derived.Lay
import Derived.ChangeSame
import Derived.OpenShut
import Derived.Stop.Joined
namespace Go.Proofs.YtihakhdinkkdmaaGreatDoor
open Go.RowKit Go.Extern.Stop Go.Stop Go.Extern

theorem as_valueOfP (t : Addr) (w : World) : (ReflectliteValue.unpack (.iface 111 (.pointer (some t)))).run Tryz.prog w
    = .ok (.agg #[.pointer (some ⟨14, 111, none⟩), .pointer (some ⟨w.heap.size, 0, none⟩), .int .u64 150]) (w.alloc (.cells #[.pointer (some t)] 111)) := by kernel_rfl
theorem as_typeP (a : Addr) (w : World) : (ReflectliteValue.methodAny (ReflectliteValue.valueError "reflectlite.Value.Type" 0) (fun t _ _ _ => ReflectliteType.toType t) #[.agg #[.pointer (some ⟨14, 111, none⟩), .pointer (some a), .int .u64 150]]).run Tryz.prog w
    = .ok (.iface 157 (.agg #[.pointer (some ⟨14, 111, none⟩)])) w := by kernel_rfl
theorem as_methodKind (h : Value) (w : World) : (Go.method 319 157 (.agg #[h]) "Kind").run Tryz.prog w = .ok (146, h) w := by kernel_rfl
theorem as_kindP (w : World) : ((ReflectliteType.abiMethod fun t => (fun a : Nat => Value.int IntKind.u8 (a : Int)) <$> Rtype.kind t) #[.pointer (some ⟨14, 111, none⟩)]).run Tryz.prog w = .ok (.int .u8 22) w := by kernel_rfl
theorem as_kindE (w : World) : ((ReflectliteType.abiMethod fun t => (fun a : Nat => Value.int IntKind.u8 (a : Int)) <$> Rtype.kind t) #[.pointer (some ⟨14, 23, none⟩)]).run Tryz.prog w = .ok (.int .u8 2) w := by kernel_rfl

theorem as_rlm (z : Sem Value) (f : TypeId → Addr → Nat → Nat → Sem Value) (v : Value) :
    ReflectliteValue.method z f #[v] = (do match ← ReflectliteValue.parts v with | none => z | some (t, a, fl) => f t a fl (fl % 32)) := rfl
theorem as_partsP (a : Addr) (w : World) : (ReflectliteValue.parts (.agg #[.pointer (some ⟨14, 111, none⟩), .pointer (some a), .int .u64 150])).run Tryz.prog w = .ok (some (111, a, 150)) w := by kernel_rfl
theorem as_isNilP (a p : Addr) (W : World) (ha : W.cell? a = some (.pointer (some p))) :
    (ReflectliteValue.method (ReflectliteValue.valueError "reflectlite.Value.IsNil" 0) ReflectliteValue.isNil #[.agg #[.pointer (some ⟨14, 111, none⟩), .pointer (some a), .int .u64 150]]).run Tryz.prog W = .ok (.bool false) W := by
  rw [as_rlm]
  simp only [Sem.run_bind, as_partsP, Result.andThen]
  simp [ReflectliteValue.isNil, loadVar, isAgg, underlying, Tryz.underlying111, ha, Result.andThen]

theorem as_methodElem (h : Value) (w : World) : (Go.method 319 157 (.agg #[h]) "Elem").run Tryz.prog w = .ok (159, .agg #[h]) w := by kernel_rfl
theorem as_methodImplements (h : Value) (w : World) : (Go.method 319 157 (.agg #[h]) "Implements").run Tryz.prog w = .ok (160, .agg #[h]) w := by kernel_rfl
theorem as_methodAssignableTo (h : Value) (w : World) : (Go.method 319 157 (.agg #[h]) "AssignableTo").run Tryz.prog w = .ok (157, .agg #[h]) w := by kernel_rfl
theorem as_elemP (w : World) : (ReflectliteType.method ReflectliteType.elem #[.agg #[.pointer (some ⟨14, 111, none⟩)]]).run Tryz.prog w = .ok (.iface 157 (.agg #[.pointer (some ⟨14, 23, none⟩)])) w := by kernel_rfl
theorem as_implementsE (w : World) : (ReflectliteType.relation "Implements" ReflectliteType.implements_ #[.agg #[.pointer (some ⟨14, 23, none⟩)], .iface 157 (.agg #[.pointer (some ⟨14, 29, none⟩)])]).run Tryz.prog w = .ok (.bool true) w := by kernel_rfl
theorem as_typeOfE (v : Value) (w : World) : (ReflectliteType.typeOf #[.iface 23 v]).run Tryz.prog w = .ok (.iface 157 (.agg #[.pointer (some ⟨14, 23, none⟩)])) w := by kernel_rfl
theorem as_assignableE (w : World) : (ReflectliteType.relation "AssignableTo" ReflectliteType.assignableTo #[.agg #[.pointer (some ⟨14, 23, none⟩)], .iface 157 (.agg #[.pointer (some ⟨14, 23, none⟩)])]).run Tryz.prog w = .ok (.bool true) w := by kernel_rfl
theorem as_valueOfE (m : Int) (w : World) : (ReflectliteValue.unpack (.iface 23 (.int .i64 m))).run Tryz.prog w
    = .ok (.agg #[.pointer (some ⟨14, 23, none⟩), .pointer (some ⟨w.heap.size, 0, none⟩), .int .u64 130]) (w.alloc (.cells #[.int .i64 m] 23)) := by kernel_rfl

theorem as_elemOfP (w : World) : (Rtype.elem? 111).run Tryz.prog w = .ok (some 23) w := by kernel_rfl
theorem as_mkE (p : Addr) (w : World) : (ReflectliteValue.mk 23 p ReflectliteValue.flagAddr).run Tryz.prog w = .ok (.agg #[.pointer (some ⟨14, 23, none⟩), .pointer (some p), .int .u64 386]) w := by kernel_rfl
theorem as_elemVP (a p : Addr) (W : World) (ha : W.cell? a = some (.pointer (some p))) :
    (ReflectliteValue.method (ReflectliteValue.valueError "reflectlite.Value.Elem" 0) ReflectliteValue.elem #[.agg #[.pointer (some ⟨14, 111, none⟩), .pointer (some a), .int .u64 150]]).run Tryz.prog W
      = .ok (.agg #[.pointer (some ⟨14, 23, none⟩), .pointer (some p), .int .u64 386]) W := by
  rw [as_rlm]
  simp only [Sem.run_bind, as_partsP, Result.andThen]
  simp [ReflectliteValue.elem, loadVar, isAgg, underlying, Tryz.underlying111, ha, Result.andThen, as_elemOfP, as_mkE]
theorem as_rls (v x : Value) : ReflectliteValue.set #[v, x] = (do
    let (some (dst, a, fl), some (src, b, _)) := (← ReflectliteValue.parts v, ← ReflectliteValue.parts x)
      | unsupported (.noEntry "extern/(internal/reflectlite.Value).Set.zeroValue")
    if fl / ReflectliteValue.flagAddr % 2 == 0 then unsupported (.noEntry "extern/(internal/reflectlite.Value).Set.unaddressable")
    let val ← loadVar src b
    if ← Rtype.directlyAssignable dst src then storeVar dst a val
    else if ← Rtype.implements dst src then
      if (← Rtype.kind src) == 20 then
        match val with
        | .nilIface => unsupported (.noEntry "extern/reflectlite: a nil value of one interface type handed on as a value of another")
        | _ => storeVar dst a val
      else storeVar dst a (.iface src val)
    else panicString ("reflectlite.Set: value of type " ++ (← Rtype.spelt src) ++ " is not assignable to type " ++ (← Rtype.spelt dst))
    pure (.tuple #[])) := rfl
theorem as_partsEa (a : Addr) (w : World) : (ReflectliteValue.parts (.agg #[.pointer (some ⟨14, 23, none⟩), .pointer (some a), .int .u64 386])).run Tryz.prog w = .ok (some (23, a, 386)) w := by kernel_rfl
theorem as_partsE (a : Addr) (w : World) : (ReflectliteValue.parts (.agg #[.pointer (some ⟨14, 23, none⟩), .pointer (some a), .int .u64 130])).run Tryz.prog w = .ok (some (23, a, 130)) w := by kernel_rfl
theorem as_directE (w : World) : (Rtype.directlyAssignable 23 23).run Tryz.prog w = .ok true w := by kernel_rfl
theorem as_sizeE (w : World) : (sizeOf 23).run Tryz.prog w = .ok 1 w := by kernel_rfl
theorem as_setE (ta b : Addr) (m : Int) (old : Value) (W : World) (hb : W.cell? b = some (.int .i64 m)) (ht : W.cell? ta = some old) (hf : W.frozen? ta = false) :
    (ReflectliteValue.set #[.agg #[.pointer (some ⟨14, 23, none⟩), .pointer (some ta), .int .u64 386], .agg #[.pointer (some ⟨14, 23, none⟩), .pointer (some b), .int .u64 130]]).run Tryz.prog W
      = .ok (.tuple #[]) (W.setCell ta (.int .i64 m)) := by
  rw [as_rls]
  simp only [Sem.run_bind, as_partsEa, as_partsE, Result.andThen]
  simp [ReflectliteValue.flagAddr, loadVar, isAgg, underlying, Tryz.underlying23, hb, Result.andThen, as_directE, storeVar, Value.cells, storeCells, Addr.add]
  rw [run_store Tryz.prog W ta _ _ (by rfl)]
  simp [ht, hf]

noncomputable def asW (t : Addr) (m : Int) (w : World) : World := ((((w.alloc (.cells #[.pointer (some t)] 111)).alloc (.cells #[.pointer (some ⟨14, 111, none⟩), .pointer (some ⟨w.heap.size, 0, none⟩), .int .u64 150] 132)).alloc (.cells #[.pointer (some ⟨14, 111, none⟩), .pointer (some ⟨w.heap.size, 0, none⟩), .int .u64 150] 132)).alloc (.cells #[.int .i64 m] 23)).setCell t (.int .i64 m)

set_option maxHeartbeats 4000000 in
theorem as_hit (m : Int) (t : Addr) (old : Value) (w : World) (hg : w.cell? ⟨5, 0, none⟩ = some (.iface 157 (.agg #[.pointer (some ⟨14, 29, none⟩)]))) (ht0 : w.cell? t = some old) (hf0 : w.frozen? t = false) :
    Calls Tryz.prog 67 #[.iface 23 (.int .i64 m), .iface 111 (.pointer (some t))] w fun ev w' => ev = .returned (.bool true) ∧ w' = asW t m w := by
  have h6 := @run_callFunc_extern Tryz.prog 87 _ (fun args => ReflectliteValue.unpack (args.getD 0 (.tuple #[]))) Tryz.func87 (by kernel_rfl) (by kernel_rfl) (by kernel_rfl) (by kernel_rfl)
  have h7 := @run_callFunc_extern Tryz.prog 88 _ (ReflectliteValue.methodAny (ReflectliteValue.valueError "reflectlite.Value.Type" 0) (fun t _ _ _ => ReflectliteType.toType t)) Tryz.func88 (by kernel_rfl) (by kernel_rfl) (by kernel_rfl) (by kernel_rfl)
  have h8 := @run_callFunc_extern Tryz.prog 89 _ (ReflectliteValue.method (ReflectliteValue.valueError "reflectlite.Value.IsNil" 0) ReflectliteValue.isNil) Tryz.func89 (by kernel_rfl) (by kernel_rfl) (by kernel_rfl) (by kernel_rfl)
  have h27 := @run_callFunc_extern Tryz.prog 146 _ (ReflectliteType.abiMethod fun t => do pure (.int .u8 (← Rtype.kind t))) Tryz.func146 (by kernel_rfl) (by kernel_rfl) (by kernel_rfl) (by kernel_rfl)
  have h37 := @run_callFunc_extern Tryz.prog 159 _ (ReflectliteType.method ReflectliteType.elem) Tryz.func159 (by kernel_rfl) (by kernel_rfl) (by kernel_rfl) (by kernel_rfl)
  have h38 := @run_callFunc_extern Tryz.prog 160 _ (ReflectliteType.relation "Implements" ReflectliteType.implements_) Tryz.func160 (by kernel_rfl) (by kernel_rfl) (by kernel_rfl) (by kernel_rfl)
  have h10 := @run_callFunc_extern Tryz.prog 104 _ ReflectliteType.typeOf Tryz.func104 (by kernel_rfl) (by kernel_rfl) (by kernel_rfl) (by kernel_rfl)
  have h35 := @run_callFunc_extern Tryz.prog 157 _ (ReflectliteType.relation "AssignableTo" ReflectliteType.assignableTo) Tryz.func157 (by kernel_rfl) (by kernel_rfl) (by kernel_rfl) (by kernel_rfl)
  have h11 := @run_callFunc_extern Tryz.prog 105 _ (ReflectliteValue.method (ReflectliteValue.valueError "reflectlite.Value.Elem" 0) ReflectliteValue.elem) Tryz.func105 (by kernel_rfl) (by kernel_rfl) (by kernel_rfl) (by kernel_rfl)
  have h12 := @run_callFunc_extern Tryz.prog 106 _ ReflectliteValue.set Tryz.func106 (by kernel_rfl) (by kernel_rfl) (by kernel_rfl) (by kernel_rfl)
  have tO := as_typeOfE
  have mA := as_methodAssignableTo
  have a25 := as_assignableE
  have v25 := as_valueOfE
  have f6 := as_valueOfP
  have f7 := as_typeP
  have mK := as_methodKind
  have mE := as_methodElem
  have mI := as_methodImplements
  have k27 := as_kindP
  have k25 := as_kindE
  have e27 := as_elemP
  have i25 := as_implementsE
  have n8 := as_isNilP ⟨w.heap.size, 0, none⟩ t ((w.alloc (.cells #[.pointer (some t)] 111)).alloc (.cells #[.pointer (some ⟨14, 111, none⟩), .pointer (some ⟨w.heap.size, 0, none⟩), .int .u64 150] 132)) (by simp)
  have hlt : 5 < w.heap.size := by
    rcases Nat.lt_or_ge 5 w.heap.size with h | h
    · exact h
    · simp [World.cell?, Array.getElem?_eq_none h] at hg
  have hg2 : ((w.alloc (.cells #[.pointer (some t)] 111)).alloc (.cells #[.pointer (some ⟨14, 111, none⟩), .pointer (some ⟨w.heap.size, 0, none⟩), .int .u64 150] 132)).cell? ⟨5, 0, none⟩ = some (.iface 157 (.agg #[.pointer (some ⟨14, 29, none⟩)])) := by
    rw [World.cell?_alloc_lt _ _ ⟨5, 0, none⟩ (by simp <;> omega), World.cell?_alloc_lt _ _ ⟨5, 0, none⟩ hlt]; exact hg
  have htl : t.block < w.heap.size := by
    rcases Nat.lt_or_ge t.block w.heap.size with h | h
    · exact h
    · simp [World.cell?, Array.getElem?_eq_none h] at ht0
  have el := as_elemVP ⟨w.heap.size, 0, none⟩ t (((w.alloc (.cells #[.pointer (some t)] 111)).alloc (.cells #[.pointer (some ⟨14, 111, none⟩), .pointer (some ⟨w.heap.size, 0, none⟩), .int .u64 150] 132)).alloc (.cells #[.pointer (some ⟨14, 111, none⟩), .pointer (some ⟨w.heap.size, 0, none⟩), .int .u64 150] 132)) (by rw [World.cell?_alloc_lt _ _ ⟨w.heap.size, 0, none⟩ (by simp <;> omega)]; simp)
  have st := as_setE t ⟨w.heap.size + 1 + 1 + 1, 0, none⟩ m old ((((w.alloc (.cells #[.pointer (some t)] 111)).alloc (.cells #[.pointer (some ⟨14, 111, none⟩), .pointer (some ⟨w.heap.size, 0, none⟩), .int .u64 150] 132)).alloc (.cells #[.pointer (some ⟨14, 111, none⟩), .pointer (some ⟨w.heap.size, 0, none⟩), .int .u64 150] 132)).alloc (.cells #[.int .i64 m] 23))
    (by rw [World.cell?_alloc_at _ _ _ _ (by simp)]; rfl)
    (by rw [World.cell?_alloc_lt _ _ t (by simp <;> omega), World.cell?_alloc_lt _ _ t (by simp <;> omega), World.cell?_alloc_lt _ _ t (by simp <;> omega), World.cell?_alloc_lt _ _ t htl]; exact ht0)
    (by rw [World.frozen?_alloc_old _ _ t (by simp <;> omega), World.frozen?_alloc_old _ _ t (by simp <;> omega), World.frozen?_alloc_old _ _ t (by simp <;> omega), World.frozen?_alloc_old _ _ t (Nat.ne_of_lt htl)]; exact hf0)
  go_enter Tryz.func67, Tryz.ntmps67
  go_wp2
  refine wp_loop_rounds 1 ?_
  rw [rounds_succ]
  go_wp2
  go_ret
  exact ⟨rfl, rfl⟩
end Go.Proofs.YtihakhdinkkdmaaGreatDoor
/-
  errors.As by its contracts, at the target *Errno: an error that is an At: it is taken apart, and what it holds is set.
-/
namespace Go.Proofs.YtihakhdinkkdmaaGreatDoor
open Go.RowKit Go.Extern.Stop Go.Stop Go.Extern
theorem as_typeOfA (v : Value) (w : World) : (ReflectliteType.typeOf #[.iface 85 v]).run Tryz.prog w = .ok (.iface 157 (.agg #[.pointer (some ⟨14, 85, none⟩)])) w := by kernel_rfl
theorem as_assignableA (w : World) : (ReflectliteType.relation "AssignableTo" ReflectliteType.assignableTo #[.agg #[.pointer (some ⟨14, 85, none⟩)], .iface 157 (.agg #[.pointer (some ⟨14, 23, none⟩)])]).run Tryz.prog w = .ok (.bool false) w := by kernel_rfl
theorem as_noAs (v : Value) (xT : Nat) (w : World) : (Instr.typeAssert (.iface 85 v) xT 162 true).run Tryz.prog w = .ok (.tuple #[.nilIface, .bool false]) w := run_typeAssert_lacksB Tryz.underlying162 (by kernel_rfl) (by kernel_rfl) v _ w
theorem as_unw (v : Value) (xT : Nat) (w : World) : (Instr.typeAssert (.iface 85 v) xT 92 true).run Tryz.prog w = .ok (.tuple #[.iface 85 v, .bool true]) w := run_typeAssert_hasB Tryz.underlying92 (by kernel_rfl) v _ w
theorem as_methodUnw (h : Value) (w : World) : (Go.method 319 85 h "Unwrap").run Tryz.prog w = .ok (151, h) w := by kernel_rfl
set_option maxRecDepth 100000 in
set_option maxHeartbeats 4000000 in
theorem as_hit_at (m : Int) (a t : Addr) (old : Value) (w : World) (ha : w.cell? a = some (.int .i64 m)) (hg : w.cell? ⟨5, 0, none⟩ = some (.iface 157 (.agg #[.pointer (some ⟨14, 29, none⟩)]))) (ht0 : w.cell? t = some old) (hf0 : w.frozen? t = false) :
    Calls Tryz.prog 67 #[.iface 85 (.pointer (some a)), .iface 111 (.pointer (some t))] w fun ev w' => ev = .returned (.bool true) ∧ w' = asW t m w := by
  have h6 := @run_callFunc_extern Tryz.prog 87 _ (fun args => ReflectliteValue.unpack (args.getD 0 (.tuple #[]))) Tryz.func87 (by kernel_rfl) (by kernel_rfl) (by kernel_rfl) (by kernel_rfl)
  have h7 := @run_callFunc_extern Tryz.prog 88 _ (ReflectliteValue.methodAny (ReflectliteValue.valueError "reflectlite.Value.Type" 0) (fun t _ _ _ => ReflectliteType.toType t)) Tryz.func88 (by kernel_rfl) (by kernel_rfl) (by kernel_rfl) (by kernel_rfl)
  have h8 := @run_callFunc_extern Tryz.prog 89 _ (ReflectliteValue.method (ReflectliteValue.valueError "reflectlite.Value.IsNil" 0) ReflectliteValue.isNil) Tryz.func89 (by kernel_rfl) (by kernel_rfl) (by kernel_rfl) (by kernel_rfl)
  have h27 := @run_callFunc_extern Tryz.prog 146 _ (ReflectliteType.abiMethod fun t => do pure (.int .u8 (← Rtype.kind t))) Tryz.func146 (by kernel_rfl) (by kernel_rfl) (by kernel_rfl) (by kernel_rfl)
  have h37 := @run_callFunc_extern Tryz.prog 159 _ (ReflectliteType.method ReflectliteType.elem) Tryz.func159 (by kernel_rfl) (by kernel_rfl) (by kernel_rfl) (by kernel_rfl)
  have h38 := @run_callFunc_extern Tryz.prog 160 _ (ReflectliteType.relation "Implements" ReflectliteType.implements_) Tryz.func160 (by kernel_rfl) (by kernel_rfl) (by kernel_rfl) (by kernel_rfl)
  have h10 := @run_callFunc_extern Tryz.prog 104 _ ReflectliteType.typeOf Tryz.func104 (by kernel_rfl) (by kernel_rfl) (by kernel_rfl) (by kernel_rfl)
  have h35 := @run_callFunc_extern Tryz.prog 157 _ (ReflectliteType.relation "AssignableTo" ReflectliteType.assignableTo) Tryz.func157 (by kernel_rfl) (by kernel_rfl) (by kernel_rfl) (by kernel_rfl)
  have h11 := @run_callFunc_extern Tryz.prog 105 _ (ReflectliteValue.method (ReflectliteValue.valueError "reflectlite.Value.Elem" 0) ReflectliteValue.elem) Tryz.func105 (by kernel_rfl) (by kernel_rfl) (by kernel_rfl) (by kernel_rfl)
  have h12 := @run_callFunc_extern Tryz.prog 106 _ ReflectliteValue.set Tryz.func106 (by kernel_rfl) (by kernel_rfl) (by kernel_rfl) (by kernel_rfl)
  have tO := as_typeOfE
  have tA := as_typeOfA
  have aA := as_assignableA
  have nA := as_noAs
  have uA := as_unw
  have mU := as_methodUnw
  have mA := as_methodAssignableTo
  have a25 := as_assignableE
  have v25 := as_valueOfE
  have f6 := as_valueOfP
  have f7 := as_typeP
  have mK := as_methodKind
  have mE := as_methodElem
  have mI := as_methodImplements
  have k27 := as_kindP
  have k25 := as_kindE
  have e27 := as_elemP
  have i25 := as_implementsE
  have n8 := as_isNilP ⟨w.heap.size, 0, none⟩ t ((w.alloc (.cells #[.pointer (some t)] 111)).alloc (.cells #[.pointer (some ⟨14, 111, none⟩), .pointer (some ⟨w.heap.size, 0, none⟩), .int .u64 150] 132)) (by simp)
  have hlt : 5 < w.heap.size := by
    rcases Nat.lt_or_ge 5 w.heap.size with h | h
    · exact h
    · simp [World.cell?, Array.getElem?_eq_none h] at hg
  have hg2 : ((w.alloc (.cells #[.pointer (some t)] 111)).alloc (.cells #[.pointer (some ⟨14, 111, none⟩), .pointer (some ⟨w.heap.size, 0, none⟩), .int .u64 150] 132)).cell? ⟨5, 0, none⟩ = some (.iface 157 (.agg #[.pointer (some ⟨14, 29, none⟩)])) := by
    rw [World.cell?_alloc_lt _ _ ⟨5, 0, none⟩ (by simp <;> omega), World.cell?_alloc_lt _ _ ⟨5, 0, none⟩ hlt]; exact hg
  have htl : t.block < w.heap.size := by
    rcases Nat.lt_or_ge t.block w.heap.size with h | h
    · exact h
    · simp [World.cell?, Array.getElem?_eq_none h] at ht0
  have el := as_elemVP ⟨w.heap.size, 0, none⟩ t (((w.alloc (.cells #[.pointer (some t)] 111)).alloc (.cells #[.pointer (some ⟨14, 111, none⟩), .pointer (some ⟨w.heap.size, 0, none⟩), .int .u64 150] 132)).alloc (.cells #[.pointer (some ⟨14, 111, none⟩), .pointer (some ⟨w.heap.size, 0, none⟩), .int .u64 150] 132)) (by rw [World.cell?_alloc_lt _ _ ⟨w.heap.size, 0, none⟩ (by simp <;> omega)]; simp)
  have st := as_setE t ⟨w.heap.size + 1 + 1 + 1, 0, none⟩ m old ((((w.alloc (.cells #[.pointer (some t)] 111)).alloc (.cells #[.pointer (some ⟨14, 111, none⟩), .pointer (some ⟨w.heap.size, 0, none⟩), .int .u64 150] 132)).alloc (.cells #[.pointer (some ⟨14, 111, none⟩), .pointer (some ⟨w.heap.size, 0, none⟩), .int .u64 150] 132)).alloc (.cells #[.int .i64 m] 23))
    (by rw [World.cell?_alloc_at _ _ _ _ (by simp)]; rfl)
    (by rw [World.cell?_alloc_lt _ _ t (by simp <;> omega), World.cell?_alloc_lt _ _ t (by simp <;> omega), World.cell?_alloc_lt _ _ t (by simp <;> omega), World.cell?_alloc_lt _ _ t htl]; exact ht0)
    (by rw [World.frozen?_alloc_old _ _ t (by simp <;> omega), World.frozen?_alloc_old _ _ t (by simp <;> omega), World.frozen?_alloc_old _ _ t (by simp <;> omega), World.frozen?_alloc_old _ _ t (Nat.ne_of_lt htl)]; exact hf0)
  have hal : a.block < w.heap.size := by
    rcases Nat.lt_or_ge a.block w.heap.size with h | h
    · exact h
    · simp [World.cell?, Array.getElem?_eq_none h] at ha
  have la : (((w.alloc (.cells #[.pointer (some t)] 111)).alloc (.cells #[.pointer (some ⟨14, 111, none⟩), .pointer (some ⟨w.heap.size, 0, none⟩), .int .u64 150] 132)).alloc (.cells #[.pointer (some ⟨14, 111, none⟩), .pointer (some ⟨w.heap.size, 0, none⟩), .int .u64 150] 132)).cell? a = some (.int .i64 m) := by
    rw [World.cell?_alloc_lt _ _ a (by simp <;> omega), World.cell?_alloc_lt _ _ a (by simp <;> omega), World.cell?_alloc_lt _ _ a hal]; exact ha
  go_enter Tryz.func67, Tryz.ntmps67
  go_wp2
  refine wp_loop_rounds 2 ?_
  rw [rounds_succ]
  go_wp2
  rw [rounds_succ]
  go_wp2
  go_ret
  exact ⟨rfl, rfl⟩
end Go.Proofs.YtihakhdinkkdmaaGreatDoor
/-
  Errors as the ghost machine has them.
-/
namespace Go.Proofs.YtihakhdinkkdmaaGreatDoor
open Go.GK
def erG : Option Int → GV
  | none => .v .nilIface
  | some m => .ifc 23 (gi m)
def erN : Option Int → Int
  | none => 0
  | some m => m

end Go.Proofs.YtihakhdinkkdmaaGreatDoor
/-
  Contracts: errors told apart (errors.As, api.Tell, plain.Place, raingaugelaw.is, bare): no error, or an Errno.
-/
namespace Go.Proofs.YtihakhdinkkdmaaGreatDoor
open Go.GK Go.RowKit
set_option maxRecDepth 100000
set_option linter.unusedSimpArgs false
abbrev rtV : Value := .iface 157 (.agg #[.pointer (some ⟨14, 29, none⟩)])
theorem errG_of {H : Hid} {σ : Heap} {w : World} (hg : GlOk pg H) (hs : Sat H σ w) : w.cell? ⟨5, 0, none⟩ = some rtV := hg.cell hs rfl

theorem below4 (w : World) (a b c d : Obj) : Below w.heap.size w ((((w.alloc a).alloc b).alloc c).alloc d) := by
  have h : ∀ (w : World) (o : Obj), w.heap.size ≤ (w.alloc o).heap.size := fun w o => by show _ ≤ (w.heap.push o).size; simp
  have h1 := h w a
  have h2 := h (w.alloc a) b
  have h3 := h ((w.alloc a).alloc b) c
  exact ((((Below.refl _ _).alloc (Nat.le_refl _) a).alloc h1 b).alloc (Nat.le_trans h1 h2) c).alloc (Nat.le_trans h1 (Nat.le_trans h2 h3)) d
theorem asW_below (t : Addr) (m : Int) (w : World) : ∃ w5, Below w.heap.size w w5 ∧ asW t m w = w5.setCell t (.int .i64 m) := by
  exact ⟨_, below4 _ _ _ _ _, rfl⟩
theorem as_ct (m old : Int) : Ct pg 67 1 [.ifc 23 (gi m), .ifc 111 (.p 0 0)] [(0, .blk 23 [gi old])] (fun g σ n => g = .v (.bool true) ∧ σ = [(0, .blk 23 [gi m])] ∧ n = 1) :=
  Ct.set1 (p := pg) (G := fun w => w.cell? ⟨5, 0, none⟩ = some rtV) (.int .i64 m) (.int .i64 old) (.int .i64 m) (.bool true) (fun _ _ _ hg hs => errG_of hg hs) fun t w hg h1 h2 =>
    (as_hit m t _ w hg h1 h2).mono fun e w' ⟨he, hw⟩ => by
      obtain ⟨w5, hb, hw5⟩ := asW_below t m w
      exact ⟨he, w5, hb, hw.trans hw5⟩

theorem tell_ct (x : Option Int) : Ct pg 44 0 [erG x] [] (Val fun g => g = gi (erN x)) := by
  refine Ct.val (Ct.of_JK pg_ok Tryz.func44 rfl Tryz.ntmps44 rfl Tryz.results44 fun H0 S0 w0 h0 g0 => ?_)
  cases x with
  | none =>
    refine vc_sound pg_ok 200 _ _ ?_
    refine pos rfl ?_
    exact ⟨rfl, rfl⟩
  | some m =>
    refine vc_sound pg_ok 200 _ _ ?_
    refine neg rfl ?_
    refine JK.call (n0 := 1) (r := id) (as_ct m 0) Tryz.call67 rfl rfl rfl rfl rfl ⟨rfl, trivial⟩ rfl (by simp) ?_
    rintro g σ' n' ⟨rfl, rfl, rfl⟩
    refine vc_sound pg_ok 200 _ _ ?_
    exact ⟨rfl, rfl⟩
theorem noAt (u : Value) (w : World) : (Instr.typeAssert (.iface 23 u) 29 85 true).run Tryz.prog w = .ok (.tuple #[.pointer none, .bool false]) w := by kernel_rfl
theorem noUnwrap (u : Value) (w : World) : (Instr.typeAssert (.iface 23 u) 29 92 true).run Tryz.prog w = .ok (.tuple #[.nilIface, .bool false]) w := run_typeAssert_lacksB Tryz.underlying92 (by kernel_rfl) (by kernel_rfl) u _ w
theorem tup2 {H : Hid} {a b : Value} : Is H (.tup [.v a, .v b]) (.tuple #[a, b]) := .tup rfl fun j g hj => by
  match j with
  | 0 => simp at hj; subst hj; exact .ro (.v a)
  | 1 => simp at hj; subst hj; exact .ro (.v b)
  | j + 2 => simp at hj
theorem place_ct (x : Option Int) : Ct pg 24 0 [erG x] [] (Val fun g => g = .tup [gi (erN x), gi (-1)]) := by
  refine Ct.val (Ct.of_JK pg_ok Tryz.func24 rfl Tryz.ntmps24 rfl Tryz.results24 fun H0 S0 w0 h0 g0 => ?_)
  cases x with
  | none =>
    refine vc_sound pg_ok 200 _ _ ?_
    refine JK.call (n0 := 0) (r := id) (tell_ct none) Tryz.call44 rfl rfl rfl rfl rfl trivial rfl (by simp) ?_
    rintro g σ' n' ⟨rfl, rfl, rfl⟩
    refine vc_sound pg_ok 200 _ _ ?_
    refine JK.loopE (α := Unit) (β := Unit) (fun _ => ⟨[(0, .v .nilIface), (4, gi 0)], [], 0⟩) (fun _ => True) (fun _ => 0) (fun _ => ⟨[(4, gi 0)], [], 0⟩) (fun _ => True) () id ?_ trivial ?_ ?_
    · exact ⟨⟨rfl, rfl, trivial⟩, trivial, rfl⟩
    · intro _ _
      refine vc_sound pg_ok 200 _ _ ?_
      refine neg rfl ?_
      exact ⟨(), id, ⟨⟨rfl, trivial⟩, trivial, rfl⟩, trivial⟩
    · intro _ _
      refine vc_sound pg_ok 200 _ _ ?_
      exact ⟨rfl, rfl⟩
  | some m =>
    refine vc_sound pg_ok 200 _ _ ?_
    refine JK.call (n0 := 0) (r := id) (tell_ct (some m)) Tryz.call44 rfl rfl rfl rfl rfl trivial rfl (by simp) ?_
    rintro g σ' n' ⟨rfl, rfl, rfl⟩
    refine vc_sound pg_ok 200 _ _ ?_
    refine JK.loopE (α := Unit) (β := Unit) (fun _ => ⟨[(0, .ifc 23 (gi m)), (4, gi m)], [], 0⟩) (fun _ => True) (fun _ => 0) (fun _ => ⟨[(4, gi m)], [], 0⟩) (fun _ => True) () id ?_ trivial ?_ ?_
    · exact ⟨⟨rfl, rfl, trivial⟩, trivial, rfl⟩
    · intro _ _
      refine vc_sound pg_ok 200 _ _ ?_
      refine pos rfl ?_
      refine JK.tassert (t := 23) (g := gi m) (r := .tup [.v (.pointer none), .v (.bool false)]) (fun H u w _ => ⟨_, noAt u w, tup2⟩) rfl rfl rfl ?_
      refine vc_sound pg_ok 200 _ _ ?_
      refine JK.tassert (t := 23) (g := gi m) (r := .tup [.v .nilIface, .v (.bool false)]) (fun H u w _ => ⟨_, noUnwrap u w, tup2⟩) rfl rfl rfl ?_
      refine vc_sound pg_ok 200 _ _ ?_
      exact ⟨(), id, ⟨⟨rfl, trivial⟩, trivial, rfl⟩, trivial⟩
    · intro _ _
      refine vc_sound pg_ok 200 _ _ ?_
      exact ⟨rfl, rfl⟩
theorem is_ct (x : Option Int) (e p : Int) : Ct pg 6 0 [erG x, .agg [gi e, gi p]] [] (Val fun g => g = .b (erN x == e && -1 == p)) := by
  refine Ct.bool (Ct.of_JK pg_ok Tryz.func6 rfl Tryz.ntmps6 rfl Tryz.results6 fun H0 S0 w0 h0 g0 => ?_)
  cases x with
  | none =>
    refine vc_sound pg_ok 200 _ _ ?_
    refine JK.call (n0 := 0) (r := id) (place_ct none) Tryz.call24 rfl rfl rfl rfl rfl trivial rfl (by simp) ?_
    rintro g σ' n' ⟨rfl, rfl, rfl⟩
    refine vc_sound pg_ok 200 _ _ ?_
    refine ⟨fun h => ?_, fun h => ?_⟩
    · refine .inr (congrArg GV.b ?_)
      show _ = (((0 : Int) == e) && _)
      rw [show ((0 : Int) == e) = true from h]; rfl
    · refine .inl (congrArg (fun c => GV.v (.bool c)) ?_)
      show _ = (((0 : Int) == e) && _)
      rw [show ((0 : Int) == e) = false from h]; rfl
  | some m =>
    refine vc_sound pg_ok 200 _ _ ?_
    refine JK.call (n0 := 0) (r := id) (place_ct (some m)) Tryz.call24 rfl rfl rfl rfl rfl trivial rfl (by simp) ?_
    rintro g σ' n' ⟨rfl, rfl, rfl⟩
    refine vc_sound pg_ok 200 _ _ ?_
    refine ⟨fun h => ?_, fun h => ?_⟩
    · refine .inr (congrArg GV.b ?_)
      show _ = ((m == e) && _)
      rw [show (m == e) = true from h]; rfl
    · refine .inl (congrArg (fun c => GV.v (.bool c)) ?_)
      show _ = ((m == e) && _)
      rw [show (m == e) = false from h]; rfl
end Go.Proofs.YtihakhdinkkdmaaGreatDoor
/-
  Contracts: errors told apart: an error at a place (*api.At).
-/
namespace Go.Proofs.YtihakhdinkkdmaaGreatDoor
open Go.GK Go.RowKit
set_option maxRecDepth 100000
set_option linter.unusedSimpArgs false
abbrev atG (m p : Int) : GV := .ifc 85 (.r [gi m, gi p])
theorem asAt_ct (m p old : Int) : Ct pg 67 1 [atG m p, .ifc 111 (.p 0 0)] [(0, .blk 23 [gi old])] (fun g σ n => g = .v (.bool true) ∧ σ = [(0, .blk 23 [gi m])] ∧ n = 1) :=
  Ct.set1g (p := pg) (G := fun u w => w.cell? ⟨5, 0, none⟩ = some rtV ∧ ∃ a, u = .pointer (some a) ∧ w.cell? a = some (.int .i64 m)) (.r [gi m, gi p]) (.int .i64 old) (.int .i64 m) (.bool true) (fun _ _ _ _ hg hs hi => ⟨errG_of hg hs, hi.r0 hs⟩) fun u t w hg h1 h2 => by
    obtain ⟨hg, a, rfl, ha⟩ := hg
    refine (as_hit_at m a t _ w ha hg h1 h2).mono fun e w' ⟨he, hw⟩ => ?_
    obtain ⟨w5, hb, hw5⟩ := asW_below t m w
    exact ⟨he, w5, hb, hw.trans hw5⟩
theorem tellAt_rt (m p : Int) : Rt pg 44 [atG m p] (gi m) := by
  refine Rt.of pg_ok Tryz.func44 rfl Tryz.ntmps44 rfl Tryz.results44 Tryz.call44 fun H0 S0 w0 h0 g0 => ?_
  refine p2 ?_
  refine JK.call (n0 := 1) (r := id) (asAt_ct m p 0) Tryz.call67 rfl rfl rfl rfl rfl ⟨rfl, trivial⟩ rfl (by simp) ?_
  rintro g σ' n' ⟨rfl, rfl, rfl⟩
  refine V ?_
  exact ⟨rfl, rfl⟩
theorem isAt (u : Value) (w : World) : (Instr.typeAssert (.iface 85 u) 29 85 true).run Tryz.prog w = .ok (.tuple #[u, .bool true]) w := by kernel_rfl
theorem tupR {H : Hid} {x : GV} {a b : Value} (h : Is H x a) : Is H (.tup [x, .v b]) (.tuple #[a, b]) := .tup rfl fun j g hj => by
  match j with
  | 0 => simp at hj; subst hj; exact h
  | 1 => simp at hj; subst hj; exact .ro (.v b)
  | j + 2 => simp at hj
theorem placeAt_rt (m p : Int) : Rt pg 24 [atG m p] (.tup [gi m, gi p]) := by
  refine Rt.of pg_ok Tryz.func24 rfl Tryz.ntmps24 rfl Tryz.results24 Tryz.call24 fun H0 S0 w0 h0 g0 => ?_
  refine GO (tellAt_rt m p) rfl ?_
  refine JK.loopE (α := Unit) (β := Unit) (fun _ => ⟨[(0, atG m p), (4, gi m)], [], 0⟩) (fun _ => True) (fun _ => 0) (fun _ => ⟨[], [], 0⟩) (fun _ => False) () id ?_ trivial ?_ ?_
  · exact ⟨⟨rfl, rfl, trivial⟩, trivial, rfl⟩
  · intro _ _
    refine V ?_
    refine p1 ?_
    refine JK.tassert (t := 85) (g := .r [gi m, gi p]) (r := .tup [.r [gi m, gi p], .v (.bool true)]) (fun H u w hu => ⟨_, isAt u w, tupR hu⟩) rfl rfl rfl ?_
    refine V ?_
    repeat (first | refine p1 ?_ | refine p2 ?_ | refine p3 ?_ | refine p4 ?_)
    refine ⟨by kernel_rfl, ?_⟩
    exact ⟨⟨rfl, rfl, trivial⟩, rfl⟩
  · intro _ h
    exact h.elim
theorem isAt_rt (m p e q : Int) : Rt pg 6 [atG m p, .agg [gi e, gi q]] (.b (m == e && p == q)) := by
  refine Rt.of pg_ok Tryz.func6 rfl Tryz.ntmps6 rfl Tryz.results6 Tryz.call6 fun H0 S0 w0 h0 g0 => ?_
  refine GO (placeAt_rt m p) rfl ?_
  rcases tf (m == e) with h | h
  · refine p1 ?_ h
    exact ⟨by rw [h]; rfl, rfl⟩
  · refine p2 ?_ h
    exact ⟨by rw [h]; rfl, rfl⟩
theorem isE_rt (x : Option Int) (e p : Int) : Rt pg 6 [erG x, .agg [gi e, gi p]] (.b (erN x == e && -1 == p)) := Rq.old Tryz.call6 (is_ct x e p)
end Go.Proofs.YtihakhdinkkdmaaGreatDoor
/-
  Contract of the law AskReads: it is true of every text.
-/
namespace Go.Proofs.YtihakhdinkkdmaaGreatDoor
open Go.GK Go.RowKit Go.PL
set_option maxRecDepth 100000
set_option linter.unusedSimpArgs false
theorem isNo : Rt pg 6 [.v .nilIface, .agg [gi 0, gi (-1)]] (.v (.bool true)) := (isE_rt none 0 (-1)).bt rfl
theorem isYes (e p : Int) : Rt pg 6 [.ifc 85 (.r [gi e, gi p]), .agg [gi e, gi p]] (.v (.bool true)) := (isAt_rt e p e p).bt (by simp)
theorem atNil_rt : Rt pg 26 [.v (.pointer none), gi 0] (gs ⟨#[]⟩) := by
  refine Rt.of pg_ok Tryz.func26 rfl Tryz.ntmps26 rfl Tryz.results26 Tryz.call26 fun H0 S0 w0 h0 g0 => ?_
  refine p1 ?_ rfl
  exact ⟨rfl, rfl⟩
theorem printNil_rt : Rt pg 8 [.v (.pointer none)] (gs ⟨#[]⟩) := by
  refine Rt.of pg_ok Tryz.func8 rfl Tryz.ntmps8 rfl Tryz.results8 Tryz.call8 fun H0 S0 w0 h0 g0 => ?_
  refine GO atNil_rt rfl ?_
  exact ⟨rfl, rfl⟩
theorem rprintNil_rt : Rt pg 9 [.v (.pointer none), gi 0] (gs ⟨#[]⟩) := by
  refine Rt.of pg_ok Tryz.func9 rfl Tryz.ntmps9 rfl Tryz.results9 Tryz.call9 fun H0 S0 w0 h0 g0 => ?_
  refine p1 ?_ rfl
  exact ⟨rfl, rfl⟩
theorem sameMtN : Rt pg 12 [.v (.slice none 0 0), .v (.slice none 0 0)] (.v (.bool true)) :=
  Rq.nl (pre := []) (suf := [.v (.slice none 0 0)]) (z := 3) (Rq.nl (pre := [.sl 3 []]) (suf := []) (z := 3) (sameMt_rt [] (Nat.zero_le _)))
theorem matN : Rt pg 13 [.v (.slice none 0 0)] (gs (printM [])) := Rq.nl (pre := []) (suf := []) (z := 3) (matchersT_rt [] ⟨fun _ h => (by cases h), Nat.zero_le _⟩)
theorem rmatN : Rt pg 14 [.v (.slice none 0 0)] (gs (printM [])) := Rq.nl (pre := []) (suf := []) (z := 3) (rmatchers_rt [] ⟨fun _ h => (by cases h), Nat.zero_le _⟩)
theorem askReads_rt (s : ByteArray) : Rt pg 3 [gs s] (.b true) := by
  refine Rt.of pg_ok Tryz.func3 rfl Tryz.ntmps3 rfl Tryz.results3 Tryz.call3 fun H0 S0 w0 h0 g0 => ?_
  by_cases h6 : s.size ≤ 600
  · have hss : s.data.toList.length ≤ 600 := by simpa using h6
    refine p2 ?_ (decide_eq_false (by omega))
    have hp := parse_rt s (by omega)
    have hm := match_rt s (by omega)
    have rp := rparse_rt s (by omega)
    have rm := rmatch_rt s (by omega)
    cases hP : parseF s.data.toList with
    | error ep =>
      obtain ⟨e, p⟩ := ep
      rw [hP] at hp rp
      refine GO rp rfl ?_
      refine GO hp rfl ?_
      refine GO (isYes e p) rfl ?_
      refine V ?_
      refine GO sameNil_rt rfl ?_
      refine p4 ?_ rfl
      rcases tf (e == 0 && (p == -1 && true)) with hf | hf
      · refine p1 ?_ hf
        refine GO printNil_rt rfl ?_
        refine GO rprintNil_rt rfl ?_
        refine p2 ?_ (by simp)
        cases hM : matchF s.data.toList with
        | error ep =>
          obtain ⟨e2, p2'⟩ := ep
          rw [hM] at hm rm
          refine GO rm rfl ?_
          refine GO hm rfl ?_
          refine GO (isYes e2 p2') rfl ?_
          refine V ?_
          refine GO sameMtN rfl ?_
          rcases tf (e2 == 0 && (p2' == -1 && true)) with hf2 | hf2
          · refine p4 ?_ (by rw [hf2]; rfl)
            refine GO matN rfl ?_
            refine GO rmatN rfl ?_
            refine ⟨?_, rfl⟩
            show (_ == _) = true
            simp
          · refine p3 ?_ (by rw [hf2]; rfl)
            exact ⟨rfl, rfl⟩
        | ok mm =>
          rw [hM] at hm rm
          obtain ⟨hmw, _, _⟩ := print_match hss hM
          have hmr := matchersT_rt mm hmw
          have hmr2 := rmatchers_rt mm hmw
          have hsm := sameMt_rt mm (by have := hmw.2; omega)
          refine GO rm rfl ?_
          refine GO hm rfl ?_
          refine GO isNo rfl ?_
          refine V ?_
          refine GO hsm rfl ?_
          refine p4 ?_ rfl
          refine GO hmr rfl ?_
          refine GO hmr2 rfl ?_
          refine ⟨?_, rfl⟩
          show (_ == _) = true
          simp
      · refine p2 ?_ hf
        cases hM : matchF s.data.toList with
        | error ep =>
          obtain ⟨e2, p2'⟩ := ep
          rw [hM] at hm rm
          refine GO rm rfl ?_
          refine GO hm rfl ?_
          refine GO (isYes e2 p2') rfl ?_
          refine V ?_
          refine GO sameMtN rfl ?_
          rcases tf (e2 == 0 && (p2' == -1 && true)) with hf2 | hf2
          · refine p4 ?_ (by rw [hf2]; rfl)
            refine GO matN rfl ?_
            refine GO rmatN rfl ?_
            refine ⟨?_, rfl⟩
            show (_ == _) = true
            simp
          · refine p3 ?_ (by rw [hf2]; rfl)
            exact ⟨rfl, rfl⟩
        | ok mm =>
          rw [hM] at hm rm
          obtain ⟨hmw, _, _⟩ := print_match hss hM
          have hmr := matchersT_rt mm hmw
          have hmr2 := rmatchers_rt mm hmw
          have hsm := sameMt_rt mm (by have := hmw.2; omega)
          refine GO rm rfl ?_
          refine GO hm rfl ?_
          refine GO isNo rfl ?_
          refine V ?_
          refine GO hsm rfl ?_
          refine p4 ?_ rfl
          refine GO hmr rfl ?_
          refine GO hmr2 rfl ?_
          refine ⟨?_, rfl⟩
          show (_ == _) = true
          simp
    | ok q =>
      rw [hP] at hp rp
      obtain ⟨hw, _, hl⟩ := print_parse hss hP
      have hpr := print_rt q hw (by omega)
      have hpr2 := rat_ok hw 0 (by decide) (by omega)
      have hsa := sameAsk_rt q (wf_len hw)
      rw [printF] at hpr
      generalize bS (bytesL (atX q 0)) = tt at hpr hpr2
      obtain ⟨c, n, m, sp, b, l, r, rfl⟩ := wf_mk hw
      refine GO rp rfl ?_
      refine GO hp rfl ?_
      refine GO isNo rfl ?_
      refine V ?_
      refine GO hsa rfl ?_
      refine p4 ?_ rfl
      refine p1 ?_ rfl
      refine GO hpr rfl ?_
      refine GO hpr2 rfl ?_
      refine p2 ?_ (by simp)
      cases hM : matchF s.data.toList with
      | error ep =>
        obtain ⟨e2, p2'⟩ := ep
        rw [hM] at hm rm
        refine GO rm rfl ?_
        refine GO hm rfl ?_
        refine GO (isYes e2 p2') rfl ?_
        refine V ?_
        refine GO sameMtN rfl ?_
        rcases tf (e2 == 0 && (p2' == -1 && true)) with hf2 | hf2
        · refine p4 ?_ (by rw [hf2]; rfl)
          refine GO matN rfl ?_
          refine GO rmatN rfl ?_
          refine ⟨?_, rfl⟩
          show (_ == _) = true
          simp
        · refine p3 ?_ (by rw [hf2]; rfl)
          exact ⟨rfl, rfl⟩
      | ok mm =>
        rw [hM] at hm rm
        obtain ⟨hmw, _, _⟩ := print_match hss hM
        have hmr := matchersT_rt mm hmw
        have hmr2 := rmatchers_rt mm hmw
        have hsm := sameMt_rt mm (by have := hmw.2; omega)
        refine GO rm rfl ?_
        refine GO hm rfl ?_
        refine GO isNo rfl ?_
        refine V ?_
        refine GO hsm rfl ?_
        refine p4 ?_ rfl
        refine GO hmr rfl ?_
        refine GO hmr2 rfl ?_
        refine ⟨?_, rfl⟩
        show (_ == _) = true
        simp
  · refine p1 ?_ (decide_eq_true (by omega))
    exact ⟨rfl, rfl⟩
end Go.Proofs.YtihakhdinkkdmaaGreatDoor
/-
  A law's contract, as the row asks for it.
-/
namespace Go.Proofs.YtihakhdinkkdmaaGreatDoor
open Go.GK
theorem of_rt {f : FuncId} {gs : List GV} (h : Rt pg f gs (.b true)) : Ct pg f 0 gs [] (Val fun g => g = .b true) := by
  exact h.ct.weak fun g σ' n' hq => ⟨id, g, [], 0, ⟨hq.1.1, rfl, rfl⟩, (ren_id g).symm, trivial, by simp [hq.1.2, idbH, hids, distB, fixB]⟩
end Go.Proofs.YtihakhdinkkdmaaGreatDoor
/-
  Package-level variables as rows list them: tables of integers and of texts, errors, each by what is laid.
-/
namespace Go.GK
open Go.ChangeShapes Go.WideShapes
def VarOk (W : World) (g : Nat) (gv : GV) : Prop := ∀ H : Hid, H.ro = roOf W → IsR H.ro gv (.pointer (some ⟨g, 0, none⟩)) ∧ ∀ cs, gv = .r cs → ∃ c ty fz, H.ro g = some (.cells c ty fz) ∧ c.size = cs.length
theorem look_mem : ∀ {l : Env} {g : Nat} {gv : GV}, look l g = some gv → (g, gv) ∈ l
  | [], _, _, h => by simp [look] at h
  | (g', x) :: l, g, gv, h => by
    unfold look at h
    cases hb : Nat.beq g' g with
    | true =>
      rw [hb] at h
      simp only [cond_true, Option.some.injEq] at h
      subst h
      have := Nat.eq_of_beq_eq_true hb
      subst this
      exact List.mem_cons_self
    | false =>
      rw [hb] at h
      exact List.mem_cons_of_mem _ (look_mem h)
theorem GlOk.of_vars {p : Pg} {W : World} (h : ∀ x ∈ p.gl, VarOk W x.1 x.2) : ∀ H : Hid, H.ro = roOf W → GlOk p H := fun H hro =>
  ⟨fun g gv hl => (h _ (look_mem hl) H hro).1, fun g cs hl => (h _ (look_mem hl) H hro).2 cs rfl⟩
theorem VarOk.of_vals {P : Program} {W : World} {n : String} {g : Nat} {cs : Array Value} {vs : List Value} (hg : P.globalNamed n = some g) (hv : W.var? P n = some cs) (h : cs.toList = vs) : VarOk W g (.r (vs.map .v)) := by
  intro H hro
  have hc : ∀ i, W.cell? ⟨g, i, none⟩ = vs[i]? := fun i => by
    rw [World.var?_cell hg hv i, ← h]
    simp
  refine ⟨?_, fun cs' he => ?_⟩
  · refine .r (fun j => (vs[j]?).getD undef) (fun j gv hj => ?_) (fun j gv hj => ?_)
    · rw [hro, addr_add_none, Nat.zero_add]
      have hj' : j < vs.length := by have := (List.getElem?_eq_some_iff.1 hj).1; simpa using this
      have := hc j
      rw [List.getElem?_eq_getElem hj'] at this ⊢
      exact this
    · have hj' : j < vs.length := by have := (List.getElem?_eq_some_iff.1 hj).1; simpa using this
      rw [List.getElem?_map, List.getElem?_eq_getElem hj'] at hj
      simp only [Option.map_some, Option.some.injEq] at hj
      subst hj
      rw [List.getElem?_eq_getElem hj']
      exact .v _
  · cases he
    have hv' := hv
    simp only [World.var?, hg, Option.bind_some] at hv'
    rw [hro]
    unfold roOf
    cases ho : W.heap[g]? with
    | none => rw [ho] at hv'; cases hv'
    | some o =>
      rw [ho] at hv'
      cases o with
      | cells c ty fz =>
        simp only [Option.some.injEq] at hv'
        subst hv'
        exact ⟨_, ty, fz, rfl, by rw [List.length_map, ← h]; simp⟩
      | _ => cases hv'
theorem arr_strs {Hh : Type} {enc : TypeId × Value → Hh} {P : Program} {w : World} {base : Nat} {spare : Nat → Bool} {held : Bool} {n : Nat} {t e : TypeId} (ht : P.underlying t = some (.array n e)) (he : P.underlying e = some .string) (hc : P.cellsOf e = 1) {zs : List (List UInt8)} (hz : zs.length = n) (hct : P.cellsOf t = n) {fuel : Nat} {cs : List Value} {ps : List MemPlace}
    (h : DataW.trod enc P w base spare held fuel t cs = some (.agg (zs.map fun z => .lit (.string z)), ps)) : cs = zs.map fun z => Value.string ⟨z.toArray⟩ := by
  obtain ⟨xs, m1, _, hx, hlen, hn, hel⟩ := DataW.trod_array ht h
  simp only [Prod.mk.injEq, DataW.agg.injEq] at hx
  rw [hct] at hlen
  refine List.ext_getElem (by simp; omega) fun i h1 h2 => ?_
  have hi : i < xs.length := by omega
  have := hel i (by omega)
  rw [hc, Nat.mul_one, List.getElem?_eq_getElem hi] at this
  obtain ⟨m, e1, e2, _⟩ := DataW.trod_string he this
  have e3 : (cs.drop i).take 1 = [cs[i]] := by rw [List.drop_eq_getElem_cons h1]; rfl
  rw [e3] at e1
  have e4 : (zs.map fun z => DataW.lit (H := Hh) (.string z))[i]? = (xs.map (·.1))[i]? := by rw [hx.1]
  rw [List.getElem?_map, List.getElem?_map, List.getElem?_eq_getElem hi, List.getElem?_eq_getElem (by omega), e2] at e4
  simp only [Option.map_some, Option.some.injEq, DataW.lit.injEq, Lit.string.injEq] at e4
  rw [List.getElem_map, e4]
  have e5 : (⟨m.data.toList.toArray⟩ : ByteArray) = m := by cases m; simp
  rw [e5]
  simpa using e1
section
variable {P : Program} {W : World} {n : String} {g : Nat} {t : TypeId}
theorem VarOk.ints {k : IntKind} {e : TypeId} {zs : List Int} (h : laidMet P [(n, .agg (zs.map fun z => .lit (.int k z)))] W) (hg : P.globalNamed n = some g) (hty : (P.globals[g]?).map (·.type) = some t) (ht : P.underlying t = some (.array zs.length e)) (he : P.underlying e = some (.int k)) (hc : P.cellsOf e = 1) (hct : P.cellsOf t = zs.length) :
    VarOk W g (.r ((zs.map (Value.int k)).map .v)) := by
  obtain ⟨ps, ⟨g0, t0, cs0, f0, p0, q0, hg0, ht0, hv0, hd0, _, _⟩, _, _⟩ := h
  obtain rfl := Option.some.inj (hg.symm.trans hg0)
  obtain rfl := Option.some.inj (hty.symm.trans ht0)
  exact .of_vals hg hv0 (arr_ints ht he hc rfl hct hd0)
theorem VarOk.strs {e : TypeId} {zs : List (List UInt8)} (h : laidMet P [(n, .agg (zs.map fun z => .lit (.string z)))] W) (hg : P.globalNamed n = some g) (hty : (P.globals[g]?).map (·.type) = some t) (ht : P.underlying t = some (.array zs.length e)) (he : P.underlying e = some .string) (hc : P.cellsOf e = 1) (hct : P.cellsOf t = zs.length) :
    VarOk W g (.r ((zs.map fun z => Value.string ⟨z.toArray⟩).map .v)) := by
  obtain ⟨ps, ⟨g0, t0, cs0, f0, p0, q0, hg0, ht0, hv0, hd0, _, _⟩, _, _⟩ := h
  obtain rfl := Option.some.inj (hg.symm.trans hg0)
  obtain rfl := Option.some.inj (hty.symm.trans ht0)
  exact .of_vals hg hv0 (arr_strs ht he hc rfl hct hd0)
theorem VarOk.two {k0 k1 : IntKind} {f0 f1 : Field} {a b : Int} (h : laidMet P [(n, .agg [.lit (.int k0 a), .lit (.int k1 b)])] W) (hg : P.globalNamed n = some g) (hty : (P.globals[g]?).map (·.type) = some t) (ht : P.underlying t = some (.struct #[f0, f1])) (he0 : P.underlying f0.type = some (.int k0)) (he1 : P.underlying f1.type = some (.int k1)) (hc0 : P.cellsOf f0.type = 1) (hc1 : P.cellsOf f1.type = 1) (hct : P.cellsOf t = 2) (ho0 : f0.offset = 0) (ho1 : f1.offset = 1) :
    VarOk W g (.r [.v (.int k0 a), .v (.int k1 b)]) := by
  obtain ⟨ps, ⟨g0, t0, cs0, fu, p0, q0, hg0, ht0, hv0, hd0, _, _⟩, _, _⟩ := h
  obtain rfl := Option.some.inj (hg.symm.trans hg0)
  obtain rfl := Option.some.inj (hty.symm.trans ht0)
  obtain ⟨y0, y1, m, hx, hl, h0, h1⟩ := trod_struct2 ht hd0
  obtain ⟨a', ha, rfl, _⟩ := DataW.trod_int he0 h0
  obtain ⟨b', hb, rfl, _⟩ := DataW.trod_int he1 h1
  rw [hct] at hl
  rw [hc0, ho0] at ha
  rw [hc1, ho1] at hb
  simp only [Prod.mk.injEq, DataW.agg.injEq, List.cons.injEq, DataW.lit.injEq, Lit.int.injEq, true_and, and_true] at hx
  obtain ⟨⟨rfl, rfl⟩, _⟩ := hx
  refine VarOk.of_vals (vs := [.int k0 a, .int k1 b]) hg hv0 ?_
  match hcs : cs0.toList, hl with
  | [u, v], _ =>
    rw [hcs] at ha hb
    simp at ha hb
    rw [ha, hb]
theorem VarOk.err {ms : Array (String × TypeId)} {tp te ts : TypeId} {f : Field} {nm : String} {text : List UInt8} (h : laidMet P [(n, .iface nm (.ptr (.agg [.lit (.string text)])))] W) (hg : P.globalNamed n = some g) (hty : (P.globals[g]?).map (·.type) = some t) (hi : P.underlying t = some (.interface ms)) (hrow : ∀ u, P.typeName? 3 u = some nm → u = tp)
    (hp : P.underlying tp = some (.pointer te)) (he : P.underlying te = some (.struct #[f])) (hft : f.type = ts) (hfo : f.offset = 0) (hs : P.underlying ts = some .string) (hc : P.cellsOf te = 1) (hcs : P.cellsOf ts = 1) :
    VarOk W g (.r [.ifc tp (.r [.v (.string ⟨text.toArray⟩)])]) := by
  obtain ⟨a, s, hv, hcell, htx, _⟩ := laid_sentinel h hg hty hi hrow hp he hft hfo hs hc hcs
  have hsx : (⟨text.toArray⟩ : ByteArray) = s := by rw [← htx]
  rw [hsx]
  intro H hro
  refine ⟨?_, fun cs' hcs' => ?_⟩
  · refine .r (fun _ => .iface tp (.pointer (some a))) (fun j gv hj => ?_) (fun j gv hj => ?_)
    · cases j with
      | zero =>
        rw [hro]
        have := World.var?_cell hg hv 0
        exact this
      | succ j => simp at hj
    · cases j with
      | zero =>
        simp at hj
        subst hj
        refine .ifc (.r (fun _ => .string s) (fun j gv hj => ?_) (fun j gv hj => ?_))
        · cases j with
          | zero =>
            rw [hro]
            exact hcell
          | succ j => simp at hj
        · cases j with
          | zero => simp at hj; subst hj; exact .v _
          | succ j => simp at hj
      | succ j => simp at hj
  · cases hcs'
    have := (VarOk.of_vals hg hv rfl H hro).2 _ rfl
    simpa using this
end
end Go.GK
/-
  What the row of this seat lists, as the walk reads it; the world that holds it.
-/
namespace Go.Proofs.YtihakhdinkkdmaaGreatDoor
open Go.GK Go.ChangeShapes Go.WideShapes Go.RowKit

abbrev rowLaid : List (String × DataW Unit) := [("math/bits.deBruijn32tab", Rows.laid_math_bits_deBruijn32tab), ("math/bits.deBruijn64tab", Rows.laid_math_bits_deBruijn64tab), ("internal/strconv.uint64pow10", Rows.laid_internal_strconv_uint64pow10), ("unicode/utf8.acceptRanges", Rows.laid_unicode_utf8_acceptRanges), ("errors.errorType", Rows.laid_errors_errorType), ("strconv.ErrRange", Rows.laid_strconv_ErrRange), ("strconv.ErrSyntax", Rows.laid_strconv_ErrSyntax), ("raingauge/ask.marks", Rows.laid_raingauge_ask_marks), ("raingauge/ask.ops", Rows.laid_raingauge_ask_ops), ("raingauge/ask.overs", Rows.laid_raingauge_ask_overs), ("raingauge/ask.alls", Rows.laid_raingauge_ask_alls), ("raingauge/raingaugeref.Fine", Rows.laid_raingauge_raingaugeref_Fine), ("unicode/utf8.first", Rows.laid_unicode_utf8_first)]
abbrev plainLaid : List (String × DataW Unit) := [("math/bits.deBruijn32tab", Rows.laid_math_bits_deBruijn32tab), ("math/bits.deBruijn64tab", Rows.laid_math_bits_deBruijn64tab), ("internal/strconv.uint64pow10", Rows.laid_internal_strconv_uint64pow10), ("unicode/utf8.acceptRanges", Rows.laid_unicode_utf8_acceptRanges), ("strconv.ErrRange", Rows.laid_strconv_ErrRange), ("strconv.ErrSyntax", Rows.laid_strconv_ErrSyntax), ("raingauge/ask.marks", Rows.laid_raingauge_ask_marks), ("raingauge/ask.ops", Rows.laid_raingauge_ask_ops), ("raingauge/ask.overs", Rows.laid_raingauge_ask_overs), ("raingauge/ask.alls", Rows.laid_raingauge_ask_alls), ("raingauge/raingaugeref.Fine", Rows.laid_raingauge_raingaugeref_Fine), ("unicode/utf8.first", Rows.laid_unicode_utf8_first)]
theorem own : ownKnob Tryz.prog.godebug = none := by kernel_rfl
theorem laidOut : laidOutB Tryz.prog = true := by kernel_rfl
theorem gErr : Tryz.prog.globalNamed "errors.errorType" = some 5 := by kernel_rfl
theorem rtErr : (Tryz.prog.cutTypes.find? (·.1 == "internal/reflectlite.rtype")).map (·.2) = some 157 := by kernel_rfl
theorem oneRow : ((List.range 219).filter fun t => Tryz.prog.rowNamed t [101, 114, 114, 111, 114]) = [29] := by kernel_rfl
theorem typesSize : Tryz.prog.types.size = 219 := by kernel_rfl
theorem handle_ok {W : World} (h : handlesMet Tryz.prog [("errors.errorType", Rows.laid_errors_errorType)] W) : VarOk W 5 (.r [.v rtV]) := by
  obtain ⟨name, u, ty, e1, e2, e3, e4, e5⟩ := h _ (List.mem_singleton.2 rfl)
  have en : name = [101, 114, 114, 111, 114] := (Option.some.inj e1).symm
  subst en
  obtain rfl := Option.some.inj (rtErr.symm.trans e2)
  have hm : ty ∈ (List.range 219).filter fun t => Tryz.prog.rowNamed t [101, 114, 114, 111, 114] := List.mem_filter.2 ⟨List.mem_range.2 (by rw [← typesSize]; exact e3), e4⟩
  rw [oneRow] at hm
  obtain rfl := List.mem_singleton.1 hm
  have hh : typeHandle Tryz.prog 29 = .pointer (some ⟨14, 29, none⟩) := by kernel_rfl
  rw [hh] at e5
  exact VarOk.of_vals gErr e5 rfl
theorem star_err : "*" ++ "errors.errorString" = "*errors.errorString" := by decide
theorem row_err (u : TypeId) (h : Tryz.prog.typeName? 3 u = some "*errors.errorString") : u = 189 :=
  typeName_ptr_named (nm := "errors.errorString") (by rw [star_err]; kernel_rfl) (by kernel_rfl) (by decide) u (by rw [star_err]; exact h)
theorem v_raingauge_raingaugeref_Fine {W : World} (h : laidMet Tryz.prog [("raingauge/raingaugeref.Fine", Rows.laid_raingauge_raingaugeref_Fine)] W) : VarOk W 0 (.r [.v (.int .i64 0), .v (.int .i64 (-1))]) :=
  VarOk.two (t := 25) (n := "raingauge/raingaugeref.Fine") h (by kernel_rfl) (by kernel_rfl) Tryz.underlying25 (by kernel_rfl) (by kernel_rfl) (by kernel_rfl) (by kernel_rfl) (by kernel_rfl) rfl rfl
theorem v_raingauge_ask_marks {W : World} (h : laidMet Tryz.prog [("raingauge/ask.marks", Rows.laid_raingauge_ask_marks)] W) : VarOk W 2 (.r [.v (.string ⟨#[33, 61]⟩), .v (.string ⟨#[94, 61]⟩), .v (.string ⟨#[33, 94]⟩), .v (.string ⟨#[61]⟩), .v (.string ⟨#[123]⟩), .v (.string ⟨#[125]⟩), .v (.string ⟨#[91]⟩), .v (.string ⟨#[93]⟩), .v (.string ⟨#[40]⟩), .v (.string ⟨#[41]⟩), .v (.string ⟨#[44]⟩), .v (.string ⟨#[43]⟩), .v (.string ⟨#[45]⟩), .v (.string ⟨#[42]⟩), .v (.string ⟨#[47]⟩)]) :=
  VarOk.strs (t := 79) (e := 9) (n := "raingauge/ask.marks") (zs := [[33, 61], [94, 61], [33, 94], [61], [123], [125], [91], [93], [40], [41], [44], [43], [45], [42], [47]]) h (by kernel_rfl) (by kernel_rfl) (by kernel_rfl) (by kernel_rfl) (by kernel_rfl) (by kernel_rfl)
theorem v_raingauge_ask_ops {W : World} (h : laidMet Tryz.prog [("raingauge/ask.ops", Rows.laid_raingauge_ask_ops)] W) : VarOk W 1 (.r [.v (.string ⟨#[61]⟩), .v (.string ⟨#[33, 61]⟩), .v (.string ⟨#[94, 61]⟩), .v (.string ⟨#[33, 94]⟩)]) :=
  VarOk.strs (t := 72) (e := 9) (n := "raingauge/ask.ops") (zs := [[61], [33, 61], [94, 61], [33, 94]]) h (by kernel_rfl) (by kernel_rfl) (by kernel_rfl) (by kernel_rfl) (by kernel_rfl) (by kernel_rfl)
theorem v_raingauge_ask_overs {W : World} (h : laidMet Tryz.prog [("raingauge/ask.overs", Rows.laid_raingauge_ask_overs)] W) : VarOk W 3 (.r [.v (.string ⟨#[99, 111, 117, 110, 116]⟩), .v (.string ⟨#[115, 117, 109]⟩), .v (.string ⟨#[109, 105, 110]⟩), .v (.string ⟨#[109, 97, 120]⟩), .v (.string ⟨#[100, 101, 108, 116, 97]⟩)]) :=
  VarOk.strs (t := 71) (e := 9) (n := "raingauge/ask.overs") (zs := [[99, 111, 117, 110, 116], [115, 117, 109], [109, 105, 110], [109, 97, 120], [100, 101, 108, 116, 97]]) h (by kernel_rfl) (by kernel_rfl) (by kernel_rfl) (by kernel_rfl) (by kernel_rfl) (by kernel_rfl)
theorem v_raingauge_ask_alls {W : World} (h : laidMet Tryz.prog [("raingauge/ask.alls", Rows.laid_raingauge_ask_alls)] W) : VarOk W 4 (.r [.v (.string ⟨#[116, 111, 116, 97, 108]⟩), .v (.string ⟨#[108, 101, 97, 115, 116]⟩), .v (.string ⟨#[109, 111, 115, 116]⟩), .v (.string ⟨#[109, 97, 110, 121]⟩)]) :=
  VarOk.strs (t := 72) (e := 9) (n := "raingauge/ask.alls") (zs := [[116, 111, 116, 97, 108], [108, 101, 97, 115, 116], [109, 111, 115, 116], [109, 97, 110, 121]]) h (by kernel_rfl) (by kernel_rfl) (by kernel_rfl) (by kernel_rfl) (by kernel_rfl) (by kernel_rfl)
theorem v_strconv_ErrRange {W : World} (h : laidMet Tryz.prog [("strconv.ErrRange", Rows.laid_strconv_ErrRange)] W) : VarOk W 13 (.r [.ifc 189 (.r [.v (.string ⟨#[118, 97, 108, 117, 101, 32, 111, 117, 116, 32, 111, 102, 32, 114, 97, 110, 103, 101]⟩)])]) :=
  VarOk.err (t := 29) (n := "strconv.ErrRange") (text := [118, 97, 108, 117, 101, 32, 111, 117, 116, 32, 111, 102, 32, 114, 97, 110, 103, 101]) h (by kernel_rfl) (by kernel_rfl) Tryz.underlying29 row_err Tryz.underlying189 Tryz.underlying191 rfl rfl Tryz.underlying9 (by kernel_rfl) (by kernel_rfl)
theorem v_strconv_ErrSyntax {W : World} (h : laidMet Tryz.prog [("strconv.ErrSyntax", Rows.laid_strconv_ErrSyntax)] W) : VarOk W 12 (.r [.ifc 189 (.r [.v (.string ⟨#[105, 110, 118, 97, 108, 105, 100, 32, 115, 121, 110, 116, 97, 120]⟩)])]) :=
  VarOk.err (t := 29) (n := "strconv.ErrSyntax") (text := [105, 110, 118, 97, 108, 105, 100, 32, 115, 121, 110, 116, 97, 120]) h (by kernel_rfl) (by kernel_rfl) Tryz.underlying29 row_err Tryz.underlying189 Tryz.underlying191 rfl rfl Tryz.underlying9 (by kernel_rfl) (by kernel_rfl)
theorem v_internal_strconv_uint64pow10 {W : World} (h : laidMet Tryz.prog [("internal/strconv.uint64pow10", Rows.laid_internal_strconv_uint64pow10)] W) : VarOk W 6 (.r [.v (.int .u64 1), .v (.int .u64 10), .v (.int .u64 100), .v (.int .u64 1000), .v (.int .u64 10000), .v (.int .u64 100000), .v (.int .u64 1000000), .v (.int .u64 10000000), .v (.int .u64 100000000), .v (.int .u64 1000000000), .v (.int .u64 10000000000), .v (.int .u64 100000000000), .v (.int .u64 1000000000000), .v (.int .u64 10000000000000), .v (.int .u64 100000000000000), .v (.int .u64 1000000000000000), .v (.int .u64 10000000000000000), .v (.int .u64 100000000000000000), .v (.int .u64 1000000000000000000), .v (.int .u64 10000000000000000000)]) :=
  VarOk.ints (t := 142) (e := 113) (n := "internal/strconv.uint64pow10") (k := .u64) (zs := [1, 10, 100, 1000, 10000, 100000, 1000000, 10000000, 100000000, 1000000000, 10000000000, 100000000000, 1000000000000, 10000000000000, 100000000000000, 1000000000000000, 10000000000000000, 100000000000000000, 1000000000000000000, 10000000000000000000]) h (by kernel_rfl) (by kernel_rfl) (by kernel_rfl) (by kernel_rfl) (by kernel_rfl) (by kernel_rfl)
theorem gl_okH {W : World} (hL : laidMetH Tryz.prog rowLaid W) : ∀ H : Hid, H.ro = roOf W → GlOk pg H := by
  have hL' : laidMet Tryz.prog plainLaid W ∧ handlesMet Tryz.prog [("errors.errorType", Rows.laid_errors_errorType)] W := hL
  obtain ⟨h, hE⟩ := hL'
  replace hE := handle_ok hE
  refine GlOk.of_vars ?_
  show ∀ x ∈ gl, VarOk W x.1 x.2
  unfold gl
  refine List.forall_mem_cons.2 ⟨v_raingauge_raingaugeref_Fine (h.filter fun x => x.1 == "raingauge/raingaugeref.Fine"), ?_⟩
  refine List.forall_mem_cons.2 ⟨v_raingauge_ask_marks (h.filter fun x => x.1 == "raingauge/ask.marks"), ?_⟩
  refine List.forall_mem_cons.2 ⟨v_raingauge_ask_ops (h.filter fun x => x.1 == "raingauge/ask.ops"), ?_⟩
  refine List.forall_mem_cons.2 ⟨v_raingauge_ask_overs (h.filter fun x => x.1 == "raingauge/ask.overs"), ?_⟩
  refine List.forall_mem_cons.2 ⟨v_raingauge_ask_alls (h.filter fun x => x.1 == "raingauge/ask.alls"), ?_⟩
  refine List.forall_mem_cons.2 ⟨v_strconv_ErrRange (h.filter fun x => x.1 == "strconv.ErrRange"), ?_⟩
  refine List.forall_mem_cons.2 ⟨v_strconv_ErrSyntax (h.filter fun x => x.1 == "strconv.ErrSyntax"), ?_⟩
  refine List.forall_mem_cons.2 ⟨v_internal_strconv_uint64pow10 (h.filter fun x => x.1 == "internal/strconv.uint64pow10"), ?_⟩
  refine List.forall_mem_cons.2 ⟨hE, ?_⟩
  exact fun x hx => by cases hx
noncomputable def wit (os : Os) : World := (World.doorLaid Tryz.prog 400 os).layVars Tryz.prog plainLaid
theorem wit_os (os : Os) : (wit os).os = os := World.layVars_os _ _ _
theorem wit_fits (os : Os) : (World.doorLaid Tryz.prog 400 os).layFits Tryz.prog plainLaid [] = true := by kernel_rfl
theorem wit_ifaces (os : Os) : (World.doorLaid Tryz.prog 400 os).layIfaces Tryz.prog plainLaid (wit os) = true := by kernel_rfl
theorem wit_handle (os : Os) (args : Array Value) : (rowLaid.filter fun x => x.2.handleName?.isSome).all (handleAtB Tryz.prog ((wit os).forCall (fun _ _ => 0) ⟨#[], args, []⟩).memory) = true := by kernel_rfl
theorem wit_shaped (os : Os) (args : Array Value) : ((wit os).forCall (fun _ _ => 0) ⟨#[], args, []⟩).Shaped Tryz.prog := World.shaped_of_ZipB (by kernel_rfl) (by kernel_rfl)
theorem wit_met (os : Os) (args : Array Value) : laidMetH Tryz.prog rowLaid ((wit os).forCall (fun _ _ => 0) ⟨#[], args, []⟩).memory := by
  have e1 : (plainLaid.filter fun x => (plainLaid.map (·.1)).contains x.1) = plainLaid := List.filter_eq_self.2 fun x hx => List.contains_iff_mem.2 (List.mem_map.2 ⟨x, hx, rfl⟩)
  have e2 : (plainLaid.filter fun x => !(plainLaid.map (·.1)).contains x.1) = [] := List.filter_eq_nil_iff.2 fun x hx => by rw [List.contains_iff_mem.2 (List.mem_map.2 ⟨x, hx, rfl⟩)]; simp
  have h : laidMet Tryz.prog plainLaid (wit os) := laidMet_layVars (w0 := World.doorLaid Tryz.prog 400 os) (plainLaid.map (·.1)) [] (by rw [e1]; rfl) (by rw [e1]; exact wit_fits os) (by rw [e1]; exact wit_ifaces os) (by rw [e2]; exact LaidIn.none)
  have h' : laidMet Tryz.prog plainLaid ((wit os).forCall (fun _ _ => 0) ⟨#[], args, []⟩).memory := h.of_heap (by simp [World.memory, World.forCall, Input.heap])
  exact laidMetH_of_parts h' (wit_handle os args)
end Go.Proofs.YtihakhdinkkdmaaGreatDoor
