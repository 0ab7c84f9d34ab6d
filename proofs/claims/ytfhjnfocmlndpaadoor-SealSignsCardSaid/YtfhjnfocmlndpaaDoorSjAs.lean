/- errors.As at an Errno, api.Tell, plain.Place and the laws' bare: their walks. -/
import Derived.Test.YtfhjnfocmlndpaaDoorProg
import Derived.Test.YtfhjnfocmlndpaaDoorSjMem
import Derived.LaidEql
import Derived.Stop.Asserts
import Derived.RowKitTokens
namespace Go.Proofs.YtfhjnfocmlndpaaDoor
open Go Go.RowKit Go.Proofs Go.Extern.Stop Go.Stop Go.Extern

/-- how many package-level variables there are: the block of the types' handles -/
noncomputable def nG : Nat := Tryd.prog.globals.size
/-- errors.errorType, as it is laid -/
def EAt (w : World) : Prop := w.cell? ⟨2, 0, none⟩ = some (.iface 265 (.agg #[.pointer (some ⟨nG, 35, none⟩)]))

theorem valueOfP (t : Addr) (w : World) : (ReflectliteValue.unpack (.iface 231 (.pointer (some t)))).run Tryd.prog w
    = .ok (.agg #[.pointer (some ⟨nG, 231, none⟩), .pointer (some ⟨w.heap.size, 0, none⟩), .int .u64 150]) (w.alloc (.cells #[.pointer (some t)] 231)) := by kernel_rfl
theorem typeP (a : Addr) (w : World) : (ReflectliteValue.methodAny (ReflectliteValue.valueError "reflectlite.Value.Type" 0) (fun t _ _ _ => ReflectliteType.toType t) #[.agg #[.pointer (some ⟨nG, 231, none⟩), .pointer (some a), .int .u64 150]]).run Tryd.prog w
    = .ok (.iface 265 (.agg #[.pointer (some ⟨nG, 231, none⟩)])) w := by kernel_rfl
theorem kindP (w : World) : ((ReflectliteType.abiMethod fun t => (fun a : Nat => Value.int IntKind.u8 (a : Int)) <$> Rtype.kind t) #[.pointer (some ⟨nG, 231, none⟩)]).run Tryd.prog w = .ok (.int .u8 22) w := by kernel_rfl
theorem kindE (w : World) : ((ReflectliteType.abiMethod fun t => (fun a : Nat => Value.int IntKind.u8 (a : Int)) <$> Rtype.kind t) #[.pointer (some ⟨nG, 31, none⟩)]).run Tryd.prog w = .ok (.int .u8 2) w := by kernel_rfl
theorem rlm (z : Sem Value) (f : TypeId → Addr → Nat → Nat → Sem Value) (v : Value) :
    ReflectliteValue.method z f #[v] = (do match ← ReflectliteValue.parts v with | none => z | some (t, a, fl) => f t a fl (fl % 32)) := rfl
theorem partsP (a : Addr) (w : World) : (ReflectliteValue.parts (.agg #[.pointer (some ⟨nG, 231, none⟩), .pointer (some a), .int .u64 150])).run Tryd.prog w = .ok (some (231, a, 150)) w := by kernel_rfl
theorem isNilP (a p : Addr) (W : World) (ha : W.cell? a = some (.pointer (some p))) :
    (ReflectliteValue.method (ReflectliteValue.valueError "reflectlite.Value.IsNil" 0) ReflectliteValue.isNil #[.agg #[.pointer (some ⟨nG, 231, none⟩), .pointer (some a), .int .u64 150]]).run Tryd.prog W = .ok (.bool false) W := by
  rw [rlm]
  simp only [Sem.run_bind, partsP, Result.andThen]
  simp [ReflectliteValue.isNil, loadVar, isAgg, underlying, Tryd.underlying231, ha, Result.andThen]
theorem elemP (w : World) : (ReflectliteType.method ReflectliteType.elem #[.agg #[.pointer (some ⟨nG, 231, none⟩)]]).run Tryd.prog w = .ok (.iface 265 (.agg #[.pointer (some ⟨nG, 31, none⟩)])) w := by kernel_rfl
theorem implE (w : World) : (ReflectliteType.relation "Implements" ReflectliteType.implements_ #[.agg #[.pointer (some ⟨nG, 31, none⟩)], .iface 265 (.agg #[.pointer (some ⟨nG, 35, none⟩)])]).run Tryd.prog w = .ok (.bool true) w := by kernel_rfl
theorem typeOfE (v : Value) (w : World) : (ReflectliteType.typeOf #[.iface 31 v]).run Tryd.prog w = .ok (.iface 265 (.agg #[.pointer (some ⟨nG, 31, none⟩)])) w := by kernel_rfl
theorem assignE (w : World) : (ReflectliteType.relation "AssignableTo" ReflectliteType.assignableTo #[.agg #[.pointer (some ⟨nG, 31, none⟩)], .iface 265 (.agg #[.pointer (some ⟨nG, 31, none⟩)])]).run Tryd.prog w = .ok (.bool true) w := by kernel_rfl
theorem valueOfE (k : Int) (w : World) : (ReflectliteValue.unpack (.iface 31 (.int .i64 k))).run Tryd.prog w
    = .ok (.agg #[.pointer (some ⟨nG, 31, none⟩), .pointer (some ⟨w.heap.size, 0, none⟩), .int .u64 130]) (w.alloc (.cells #[.int .i64 k] 31)) := by kernel_rfl
theorem elemOfP (w : World) : (Rtype.elem? 231).run Tryd.prog w = .ok (some 31) w := by kernel_rfl
theorem mkE (p : Addr) (w : World) : (ReflectliteValue.mk 31 p ReflectliteValue.flagAddr).run Tryd.prog w = .ok (.agg #[.pointer (some ⟨nG, 31, none⟩), .pointer (some p), .int .u64 386]) w := by kernel_rfl
theorem elemVP (a p : Addr) (W : World) (ha : W.cell? a = some (.pointer (some p))) :
    (ReflectliteValue.method (ReflectliteValue.valueError "reflectlite.Value.Elem" 0) ReflectliteValue.elem #[.agg #[.pointer (some ⟨nG, 231, none⟩), .pointer (some a), .int .u64 150]]).run Tryd.prog W
      = .ok (.agg #[.pointer (some ⟨nG, 31, none⟩), .pointer (some p), .int .u64 386]) W := by
  rw [rlm]
  simp only [Sem.run_bind, partsP, Result.andThen]
  simp [ReflectliteValue.elem, loadVar, isAgg, underlying, Tryd.underlying231, ha, Result.andThen, elemOfP, mkE]
theorem rls (v x : Value) : ReflectliteValue.set #[v, x] = (do
    let (some (dst, a, fl), some (src, b, _)) := (← ReflectliteValue.parts v, ← ReflectliteValue.parts x)
      | unsupported (.noEntry "extern/(internal/reflectlite.Value).Set.zeroValue")
    if fl / ReflectliteValue.flagAddr % 2 == 0 then unsupported (.noEntry "extern/(internal/reflectlite.Value).Set.unaddressable")
    let val ← loadVar src b
    if ← Rtype.directlyAssignable dst src then storeVar dst a val
    else if ← Rtype.implements dst src then
      if (← Rtype.kind src) == 20 then
        match val with
        | .nilIface => unsupported (.noEntry "extern/reflectlite: a nil value of one interface type handed on as a value of another")
        | _ => storeVar dst a val
      else storeVar dst a (.iface src val)
    else panicString ("reflectlite.Set: value of type " ++ (← Rtype.spelt src) ++ " is not assignable to type " ++ (← Rtype.spelt dst))
    pure (.tuple #[])) := rfl
theorem partsEa (a : Addr) (w : World) : (ReflectliteValue.parts (.agg #[.pointer (some ⟨nG, 31, none⟩), .pointer (some a), .int .u64 386])).run Tryd.prog w = .ok (some (31, a, 386)) w := by kernel_rfl
theorem partsE (a : Addr) (w : World) : (ReflectliteValue.parts (.agg #[.pointer (some ⟨nG, 31, none⟩), .pointer (some a), .int .u64 130])).run Tryd.prog w = .ok (some (31, a, 130)) w := by kernel_rfl
theorem directE (w : World) : (Rtype.directlyAssignable 31 31).run Tryd.prog w = .ok true w := by kernel_rfl
theorem setE (ta b : Addr) (k : Int) (old : Value) (W : World) (hb : W.cell? b = some (.int .i64 k)) (ht : W.cell? ta = some old) (hf : W.frozen? ta = false) :
    (ReflectliteValue.set #[.agg #[.pointer (some ⟨nG, 31, none⟩), .pointer (some ta), .int .u64 386], .agg #[.pointer (some ⟨nG, 31, none⟩), .pointer (some b), .int .u64 130]]).run Tryd.prog W
      = .ok (.tuple #[]) (W.setCell ta (.int .i64 k)) := by
  rw [rls]
  simp only [Sem.run_bind, partsEa, partsE, Result.andThen]
  simp [ReflectliteValue.flagAddr, loadVar, isAgg, underlying, Tryd.underlying31, hb, Result.andThen, directE, storeVar, Value.cells, storeCells, Addr.add]
  rw [run_store Tryd.prog W ta _ _ (by rfl)]
  simp [ht, hf]
theorem mKind (n : Nat) (h : Value) (w : World) : (Go.method (n + 4) 265 (.agg #[h]) "Kind").run Tryd.prog w = .ok (231, h) w := by kernel_rfl
theorem mElem (n : Nat) (h : Value) (w : World) : (Go.method (n + 4) 265 (.agg #[h]) "Elem").run Tryd.prog w = .ok (244, .agg #[h]) w := by kernel_rfl
theorem mImpl (n : Nat) (h : Value) (w : World) : (Go.method (n + 4) 265 (.agg #[h]) "Implements").run Tryd.prog w = .ok (245, .agg #[h]) w := by kernel_rfl
theorem mAssign (n : Nat) (h : Value) (w : World) : (Go.method (n + 4) 265 (.agg #[h]) "AssignableTo").run Tryd.prog w = .ok (242, .agg #[h]) w := by kernel_rfl
end Go.Proofs.YtfhjnfocmlndpaaDoor

namespace Go.Proofs.YtfhjnfocmlndpaaDoor
open Go Go.RowKit Go.Proofs Go.Extern.Stop Go.Stop Go.Extern

theorem EAt.lt {w : World} (h : EAt w) : 2 < w.heap.size := World.block_lt_of_cell? w _ h
theorem EAt.below {w w' : World} (h : EAt w) {B : Nat} (hb : Below B w w') (hB : 2 < B) : EAt w' := by
  unfold EAt at h ⊢
  rw [hb.cell (by show _ < B; exact hB)]; exact h
theorem EAt.mono {w w' : World} (h : EAt w) (hb : Below w.heap.size w w') : EAt w' := h.below hb h.lt

/-- the two Values' own copies, and the error's -/
noncomputable def asW (w : World) (t : Addr) (k : Int) : World :=
  (((w.alloc (.cells #[.pointer (some t)] 231)).alloc (.cells #[.pointer (some ⟨nG, 231, none⟩), .pointer (some ⟨w.heap.size, 0, none⟩), .int .u64 150] 251)).alloc (.cells #[.pointer (some ⟨nG, 231, none⟩), .pointer (some ⟨w.heap.size, 0, none⟩), .int .u64 150] 251)).alloc (.cells #[.int .i64 k] 31)
set_option maxRecDepth 100000 in
set_option maxHeartbeats 4000000 in
theorem as_errno (k : Int) (t : Addr) (old : Value) (w : World) (hg : EAt w) (ht0 : w.cell? t = some old) (hf0 : w.frozen? t = false) :
    Calls Tryd.prog 179 #[.iface 31 (.int .i64 k), .iface 231 (.pointer (some t))] w fun ev w' => ev = .returned (.bool true) ∧ w' = (asW w t k).setCell t (.int .i64 k) := by
  have h1 := @run_callFunc_extern Tryd.prog 198 _ (fun args => ReflectliteValue.unpack (args.getD 0 (.tuple #[]))) Tryd.func198 (by kernel_rfl) (by kernel_rfl) (by kernel_rfl) (by kernel_rfl)
  have h2 := @run_callFunc_extern Tryd.prog 199 _ (ReflectliteValue.methodAny (ReflectliteValue.valueError "reflectlite.Value.Type" 0) (fun t _ _ _ => ReflectliteType.toType t)) Tryd.func199 (by kernel_rfl) (by kernel_rfl) (by kernel_rfl) (by kernel_rfl)
  have h3 := @run_callFunc_extern Tryd.prog 200 _ (ReflectliteValue.method (ReflectliteValue.valueError "reflectlite.Value.IsNil" 0) ReflectliteValue.isNil) Tryd.func200 (by kernel_rfl) (by kernel_rfl) (by kernel_rfl) (by kernel_rfl)
  have h4 := @run_callFunc_extern Tryd.prog 231 _ (ReflectliteType.abiMethod fun t => do pure (.int .u8 (← Rtype.kind t))) Tryd.func231 (by kernel_rfl) (by kernel_rfl) (by kernel_rfl) (by kernel_rfl)
  have h5 := @run_callFunc_extern Tryd.prog 244 _ (ReflectliteType.method ReflectliteType.elem) Tryd.func244 (by kernel_rfl) (by kernel_rfl) (by kernel_rfl) (by kernel_rfl)
  have h6 := @run_callFunc_extern Tryd.prog 245 _ (ReflectliteType.relation "Implements" ReflectliteType.implements_) Tryd.func245 (by kernel_rfl) (by kernel_rfl) (by kernel_rfl) (by kernel_rfl)
  have h7 := @run_callFunc_extern Tryd.prog 211 _ ReflectliteType.typeOf Tryd.func211 (by kernel_rfl) (by kernel_rfl) (by kernel_rfl) (by kernel_rfl)
  have h8 := @run_callFunc_extern Tryd.prog 242 _ (ReflectliteType.relation "AssignableTo" ReflectliteType.assignableTo) Tryd.func242 (by kernel_rfl) (by kernel_rfl) (by kernel_rfl) (by kernel_rfl)
  have h9 := @run_callFunc_extern Tryd.prog 212 _ (ReflectliteValue.method (ReflectliteValue.valueError "reflectlite.Value.Elem" 0) ReflectliteValue.elem) Tryd.func212 (by kernel_rfl) (by kernel_rfl) (by kernel_rfl) (by kernel_rfl)
  have h10 := @run_callFunc_extern Tryd.prog 213 _ ReflectliteValue.set Tryd.func213 (by kernel_rfl) (by kernel_rfl) (by kernel_rfl) (by kernel_rfl)
  have b1 := typeOfE
  have b2 := mAssign
  have b3 := assignE
  have b4 := valueOfE
  have b5 := valueOfP
  have b6 := typeP
  have b7 := mKind
  have b8 := mElem
  have b9 := mImpl
  have b10 := kindP
  have b11 := kindE
  have b12 := elemP
  have b13 := implE
  have n8 := isNilP ⟨w.heap.size, 0, none⟩ t ((w.alloc (.cells #[.pointer (some t)] 231)).alloc (.cells #[.pointer (some ⟨nG, 231, none⟩), .pointer (some ⟨w.heap.size, 0, none⟩), .int .u64 150] 251)) (by simp)
  have hg2 : ((w.alloc (.cells #[.pointer (some t)] 231)).alloc (.cells #[.pointer (some ⟨nG, 231, none⟩), .pointer (some ⟨w.heap.size, 0, none⟩), .int .u64 150] 251)).cell? ⟨2, 0, none⟩ = some (.iface 265 (.agg #[.pointer (some ⟨nG, 35, none⟩)])) := by
    have hlt := hg.lt
    rw [World.cell?_alloc_lt _ _ ⟨2, 0, none⟩ (by simp <;> omega), World.cell?_alloc_lt _ _ ⟨2, 0, none⟩ hlt]; exact hg
  have htl : t.block < w.heap.size := by
    rcases Nat.lt_or_ge t.block w.heap.size with h | h
    · exact h
    · simp [World.cell?, Array.getElem?_eq_none h] at ht0
  have el := elemVP ⟨w.heap.size, 0, none⟩ t (((w.alloc (.cells #[.pointer (some t)] 231)).alloc (.cells #[.pointer (some ⟨nG, 231, none⟩), .pointer (some ⟨w.heap.size, 0, none⟩), .int .u64 150] 251)).alloc (.cells #[.pointer (some ⟨nG, 231, none⟩), .pointer (some ⟨w.heap.size, 0, none⟩), .int .u64 150] 251)) (by rw [World.cell?_alloc_lt _ _ ⟨w.heap.size, 0, none⟩ (by simp; omega)]; simp)
  have st := setE t ⟨w.heap.size + 1 + 1 + 1, 0, none⟩ k old (asW w t k)
    (by unfold asW; rw [World.cell?_alloc_at _ _ _ _ (by simp)]; rfl)
    (by unfold asW; rw [World.cell?_alloc_lt _ _ t (by simp; omega), World.cell?_alloc_lt _ _ t (by simp; omega), World.cell?_alloc_lt _ _ t (by simp; omega), World.cell?_alloc_lt _ _ t htl]; exact ht0)
    (by unfold asW; rw [World.frozen?_alloc_old _ _ t (by simp; omega), World.frozen?_alloc_old _ _ t (by simp; omega), World.frozen?_alloc_old _ _ t (by simp; omega), World.frozen?_alloc_old _ _ t (Nat.ne_of_lt htl)]; exact hf0)
  unfold asW at st
  clear hg
  go_enter Tryd.func179, Tryd.ntmps179
  go_wp2
  refine wp_loop_rounds 1 ?_
  rw [rounds_succ]
  go_wp2
  go_ret
  exact ⟨rfl, rfl⟩
end Go.Proofs.YtfhjnfocmlndpaaDoor
