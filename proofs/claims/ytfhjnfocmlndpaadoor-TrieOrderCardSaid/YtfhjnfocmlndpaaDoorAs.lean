/- errors.As at an Errno, api.Tell, plain.Place and the laws' bare: their walks. -/
import Derived.Test.YtfhjnfocmlndpaaDoorBare
namespace Go.Proofs.YtfhjnfocmlndpaaDoor
open Go Go.RowKit Go.Proofs Go.Extern.Stop Go.Stop Go.Extern

theorem EAt.lt {w : World} (h : EAt w) : 2 < w.heap.size := World.block_lt_of_cell? w _ h
theorem EAt.below {w w' : World} (h : EAt w) {B : Nat} (hb : Below B w w') (hB : 2 < B) : EAt w' := by
  unfold EAt at h ⊢
  rw [hb.cell (by show _ < B; exact hB)]; exact h
theorem EAt.mono {w w' : World} (h : EAt w) (hb : Below w.heap.size w w') : EAt w' := h.below hb h.lt

/-- the two Values' own copies, and the error's -/
noncomputable def asW (w : World) (t : Addr) (k : Int) : World :=
  (((w.alloc (.cells #[.pointer (some t)] 231)).alloc (.cells #[.pointer (some ⟨nG, 231, none⟩), .pointer (some ⟨w.heap.size, 0, none⟩), .int .u64 150] 251)).alloc (.cells #[.pointer (some ⟨nG, 231, none⟩), .pointer (some ⟨w.heap.size, 0, none⟩), .int .u64 150] 251)).alloc (.cells #[.int .i64 k] 31)
set_option maxRecDepth 100000 in
set_option maxHeartbeats 4000000 in
theorem as_errno (k : Int) (t : Addr) (old : Value) (w : World) (hg : EAt w) (ht0 : w.cell? t = some old) (hf0 : w.frozen? t = false) :
    Calls Tryd.prog 179 #[.iface 31 (.int .i64 k), .iface 231 (.pointer (some t))] w fun ev w' => ev = .returned (.bool true) ∧ w' = (asW w t k).setCell t (.int .i64 k) := by
  have h1 := @run_callFunc_extern Tryd.prog 198 _ (fun args => ReflectliteValue.unpack (args.getD 0 (.tuple #[]))) Tryd.func198 (by kernel_rfl) (by kernel_rfl) (by kernel_rfl) (by kernel_rfl)
  have h2 := @run_callFunc_extern Tryd.prog 199 _ (ReflectliteValue.methodAny (ReflectliteValue.valueError "reflectlite.Value.Type" 0) (fun t _ _ _ => ReflectliteType.toType t)) Tryd.func199 (by kernel_rfl) (by kernel_rfl) (by kernel_rfl) (by kernel_rfl)
  have h3 := @run_callFunc_extern Tryd.prog 200 _ (ReflectliteValue.method (ReflectliteValue.valueError "reflectlite.Value.IsNil" 0) ReflectliteValue.isNil) Tryd.func200 (by kernel_rfl) (by kernel_rfl) (by kernel_rfl) (by kernel_rfl)
  have h4 := @run_callFunc_extern Tryd.prog 231 _ (ReflectliteType.abiMethod fun t => do pure (.int .u8 (← Rtype.kind t))) Tryd.func231 (by kernel_rfl) (by kernel_rfl) (by kernel_rfl) (by kernel_rfl)
  have h5 := @run_callFunc_extern Tryd.prog 244 _ (ReflectliteType.method ReflectliteType.elem) Tryd.func244 (by kernel_rfl) (by kernel_rfl) (by kernel_rfl) (by kernel_rfl)
  have h6 := @run_callFunc_extern Tryd.prog 245 _ (ReflectliteType.relation "Implements" ReflectliteType.implements_) Tryd.func245 (by kernel_rfl) (by kernel_rfl) (by kernel_rfl) (by kernel_rfl)
  have h7 := @run_callFunc_extern Tryd.prog 211 _ ReflectliteType.typeOf Tryd.func211 (by kernel_rfl) (by kernel_rfl) (by kernel_rfl) (by kernel_rfl)
  have h8 := @run_callFunc_extern Tryd.prog 242 _ (ReflectliteType.relation "AssignableTo" ReflectliteType.assignableTo) Tryd.func242 (by kernel_rfl) (by kernel_rfl) (by kernel_rfl) (by kernel_rfl)
  have h9 := @run_callFunc_extern Tryd.prog 212 _ (ReflectliteValue.method (ReflectliteValue.valueError "reflectlite.Value.Elem" 0) ReflectliteValue.elem) Tryd.func212 (by kernel_rfl) (by kernel_rfl) (by kernel_rfl) (by kernel_rfl)
  have h10 := @run_callFunc_extern Tryd.prog 213 _ ReflectliteValue.set Tryd.func213 (by kernel_rfl) (by kernel_rfl) (by kernel_rfl) (by kernel_rfl)
  have b1 := typeOfE
  have b2 := mAssign
  have b3 := assignE
  have b4 := valueOfE
  have b5 := valueOfP
  have b6 := typeP
  have b7 := mKind
  have b8 := mElem
  have b9 := mImpl
  have b10 := kindP
  have b11 := kindE
  have b12 := elemP
  have b13 := implE
  have n8 := isNilP ⟨w.heap.size, 0, none⟩ t ((w.alloc (.cells #[.pointer (some t)] 231)).alloc (.cells #[.pointer (some ⟨nG, 231, none⟩), .pointer (some ⟨w.heap.size, 0, none⟩), .int .u64 150] 251)) (by simp)
  have hg2 : ((w.alloc (.cells #[.pointer (some t)] 231)).alloc (.cells #[.pointer (some ⟨nG, 231, none⟩), .pointer (some ⟨w.heap.size, 0, none⟩), .int .u64 150] 251)).cell? ⟨2, 0, none⟩ = some (.iface 265 (.agg #[.pointer (some ⟨nG, 35, none⟩)])) := by
    have hlt := hg.lt
    rw [World.cell?_alloc_lt _ _ ⟨2, 0, none⟩ (by simp <;> omega), World.cell?_alloc_lt _ _ ⟨2, 0, none⟩ hlt]; exact hg
  have htl : t.block < w.heap.size := by
    rcases Nat.lt_or_ge t.block w.heap.size with h | h
    · exact h
    · simp [World.cell?, Array.getElem?_eq_none h] at ht0
  have el := elemVP ⟨w.heap.size, 0, none⟩ t (((w.alloc (.cells #[.pointer (some t)] 231)).alloc (.cells #[.pointer (some ⟨nG, 231, none⟩), .pointer (some ⟨w.heap.size, 0, none⟩), .int .u64 150] 251)).alloc (.cells #[.pointer (some ⟨nG, 231, none⟩), .pointer (some ⟨w.heap.size, 0, none⟩), .int .u64 150] 251)) (by rw [World.cell?_alloc_lt _ _ ⟨w.heap.size, 0, none⟩ (by simp; omega)]; simp)
  have st := setE t ⟨w.heap.size + 1 + 1 + 1, 0, none⟩ k old (asW w t k)
    (by unfold asW; rw [World.cell?_alloc_at _ _ _ _ (by simp)]; rfl)
    (by unfold asW; rw [World.cell?_alloc_lt _ _ t (by simp; omega), World.cell?_alloc_lt _ _ t (by simp; omega), World.cell?_alloc_lt _ _ t (by simp; omega), World.cell?_alloc_lt _ _ t htl]; exact ht0)
    (by unfold asW; rw [World.frozen?_alloc_old _ _ t (by simp; omega), World.frozen?_alloc_old _ _ t (by simp; omega), World.frozen?_alloc_old _ _ t (by simp; omega), World.frozen?_alloc_old _ _ t (Nat.ne_of_lt htl)]; exact hf0)
  unfold asW at st
  clear hg
  go_enter Tryd.func179, Tryd.ntmps179
  go_wp2
  refine wp_loop_rounds 1 ?_
  rw [rounds_succ]
  go_wp2
  go_ret
  exact ⟨rfl, rfl⟩
end Go.Proofs.YtfhjnfocmlndpaaDoor
