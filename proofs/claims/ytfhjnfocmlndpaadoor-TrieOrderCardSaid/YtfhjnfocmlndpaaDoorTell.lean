/- api.Tell, plain.Place and the laws' bare, at nil and at any Errno. -/
import Derived.Test.YtfhjnfocmlndpaaDoorAs
namespace Go.Proofs.YtfhjnfocmlndpaaDoor
open Go Go.RowKit Go.Proofs

/-- the error v is nothing but the Errno k (nil: OK) -/
def ErrV (v : Value) (k : Int) : Prop := v = .nilIface ∧ k = 0 ∨ v = .iface 31 (.int .i64 k)
theorem tell_any (v : Value) (k : Int) (w : World) (hv : ErrV v k) (hg : EAt w) :
    Calls Tryd.prog 147 #[v] w fun e w' => e = .returned (.int .i64 k) ∧ Below w.heap.size w w' := by
  rcases hv with ⟨rfl, rfl⟩ | rfl
  · go_enter Tryd.func147, Tryd.ntmps147
    go_wp2_with fail
    go_ret
    exact ⟨rfl, Below.refl _ _⟩
  · have hb0 : Below w.heap.size w (w.alloc (.cells #[.int .i64 0] 31)) := (Below.refl _ _).alloc (Nat.le_refl _) _
    have hg1 := hg.mono hb0
    have hA := as_errno k ⟨w.heap.size, 0, none⟩ (.int .i64 0) (w.alloc (.cells #[.int .i64 0] 31)) hg1 (by simp) (by simp)
    have hbA : Below w.heap.size w ((asW (w.alloc (.cells #[.int .i64 0] 31)) ⟨w.heap.size, 0, none⟩ k).setCell ⟨w.heap.size, 0, none⟩ (.int .i64 k)) := by
      unfold asW
      refine below_set ?_ (Nat.le_refl _) _
      exact ((((hb0.alloc (by simp) _).alloc (by simp; omega) _).alloc (by simp; omega) _).alloc (by simp; omega) _)
    have hcell : ((asW (w.alloc (.cells #[.int .i64 0] 31)) ⟨w.heap.size, 0, none⟩ k).setCell ⟨w.heap.size, 0, none⟩ (.int .i64 k)).cell? ⟨w.heap.size, 0, none⟩ = some (.int .i64 k) := by
      have h1 : (w.alloc (.cells #[.int .i64 0] 31)).heap[w.heap.size]? = some (.cells #[.int .i64 0] 31 (0, 0)) := heap_alloc_new w _
      have h2 : (asW (w.alloc (.cells #[.int .i64 0] 31)) ⟨w.heap.size, 0, none⟩ k).heap[w.heap.size]? = some (.cells #[.int .i64 0] 31 (0, 0)) := by
        unfold asW
        rw [Below.heap_alloc _ _ _ (by simp; omega), Below.heap_alloc _ _ _ (by simp; omega), Below.heap_alloc _ _ _ (by simp; omega), Below.heap_alloc _ _ _ (by simp)]
        exact h1
      have h3 := setCell_heap _ w.heap.size 0 (.int .i64 k) _ _ _ h2
      rw [cell_of_row _ _ _ _ _ _ h3]
      rfl
    have HA := Lib.hid hA
    have HBA := Lib.hid hbA
    clear hA hbA hg hg1 hb0
    generalize (asW (w.alloc (.cells #[.int .i64 0] 31)) ⟨w.heap.size, 0, none⟩ k).setCell ⟨w.heap.size, 0, none⟩ (.int .i64 k) = w2 at *
    go_enter Tryd.func147, Tryd.ntmps147
    go_wp2_with (go_at_call 179; refine HA.out.mono ?_; rintro e w1 ⟨rfl, rfl⟩)
    go_ret
    exact ⟨rfl, HBA.out⟩

theorem noAt (v : Value) (w : World) : (Instr.typeAssert (.iface 31 v) 35 192 true).run Tryd.prog w = .ok (.tuple #[.pointer none, .bool false]) w := by kernel_rfl
theorem noUn (v : Value) (w : World) : (Instr.typeAssert (.iface 31 v) 35 196 true).run Tryd.prog w = .ok (.tuple #[.nilIface, .bool false]) w :=
  run_typeAssert_lacksB Tryd.underlying196 (by kernel_rfl) (by kernel_rfl) v 35 w
set_option maxRecDepth 100000 in
set_option maxHeartbeats 2000000 in
theorem place_any (v : Value) (k : Int) (w : World) (hv : ErrV v k) (hg : EAt w) :
    Calls Tryd.prog 102 #[v] w fun e w' => e = .returned (.tuple #[.int .i64 k, .int .i64 (-1)]) ∧ Below w.heap.size w w' := by
  have HT := Lib.hid (tell_any v k w hv hg)
  clear hg
  rcases hv with ⟨rfl, rfl⟩ | rfl
  · go_enter Tryd.func102, Tryd.ntmps102
    go_wp2_with (go_at_call 147; refine HT.out.mono ?_; rintro e w1 ⟨rfl, hB⟩)
    refine wp_loop_rounds 1 ?_
    rw [rounds_succ]
    go_wp2_with fail
    go_ret2
    exact ⟨rfl, hB⟩
  · have a1 := noAt
    have a2 := noUn
    go_enter Tryd.func102, Tryd.ntmps102
    go_wp2_with (go_at_call 147; refine HT.out.mono ?_; rintro e w1 ⟨rfl, hB⟩)
    refine wp_loop_rounds 1 ?_
    rw [rounds_succ]
    go_wp2_with fail
    go_ret2
    exact ⟨rfl, hB⟩

theorem bare_any (v : Value) (k e : Int) (w : World) (hv : ErrV v k) (hg : EAt w) :
    Calls Tryd.prog 26 #[v, .int .i64 e] w fun en w' => en = .returned (.bool (k == e)) ∧ Below w.heap.size w w' := by
  have HT := Lib.hid (place_any v k w hv hg)
  clear hg hv
  go_enter Tryd.func26, Tryd.ntmps26
  by_cases h : k = e
  · subst h
    go_wp2_with (go_at_call 102; refine HT.out.mono ?_; rintro e w1 ⟨rfl, hB⟩)
    go_ret
    exact ⟨by simp, hB⟩
  · have h1 : (k == e) = false := by simpa using h
    go_wp2_with (go_at_call 102; refine HT.out.mono ?_; rintro e w1 ⟨rfl, hB⟩)
    go_ret
    exact ⟨by rw [h1]; rfl, hB⟩
end Go.Proofs.YtfhjnfocmlndpaaDoor
