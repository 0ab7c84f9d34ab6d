/- What the rows' conditions lay is what the walks ask: SHA-256's constants, errors.errorType; lists of strings that came in. -/
import Derived.Test.YtfhjnfocmlndpaaDoorSjAs
import Derived.Test.YtfhjnfocmlndpaaDoorSjMark
import Derived.Test.YtfhjnfocmlndpaaDoorRows
import Derived.Test.YtfhjnfocmlndpaaDoorCards
import Derived.Test.YtfhjnfocmlndpaaDoorTie
import Derived.ProofKit
import Derived.SizedLaws
import Derived.SliceStrings
import Derived.LaidLaws
import Derived.LaidMore
import Derived.LaidHandle
import Derived.Lib.LaidTab
import Derived.MakeChecks
import Derived.JoinedOf
import Derived.ChangeVars
import Derived.SevenTiedAt
import Derived.Stop.Joined
import Derived.Stop.LaidErr
namespace Go.Proofs.YtfhjnfocmlndpaaDoor
open Go Go.RowKit Go.Proofs

/-- the error v is nothing but the Errno k (nil: OK) -/
def ErrV (v : Value) (k : Int) : Prop := v = .nilIface ∧ k = 0 ∨ v = .iface 31 (.int .i64 k)
theorem tell_any (v : Value) (k : Int) (w : World) (hv : ErrV v k) (hg : EAt w) :
    Calls Tryd.prog 147 #[v] w fun e w' => e = .returned (.int .i64 k) ∧ Below w.heap.size w w' := by
  rcases hv with ⟨rfl, rfl⟩ | rfl
  · go_enter Tryd.func147, Tryd.ntmps147
    go_wp2_with fail
    go_ret
    exact ⟨rfl, Below.refl _ _⟩
  · have hb0 : Below w.heap.size w (w.alloc (.cells #[.int .i64 0] 31)) := (Below.refl _ _).alloc (Nat.le_refl _) _
    have hg1 := hg.mono hb0
    have hA := as_errno k ⟨w.heap.size, 0, none⟩ (.int .i64 0) (w.alloc (.cells #[.int .i64 0] 31)) hg1 (by simp) (by simp)
    have hbA : Below w.heap.size w ((asW (w.alloc (.cells #[.int .i64 0] 31)) ⟨w.heap.size, 0, none⟩ k).setCell ⟨w.heap.size, 0, none⟩ (.int .i64 k)) := by
      unfold asW
      refine below_set ?_ (Nat.le_refl _) _
      exact ((((hb0.alloc (by simp) _).alloc (by simp; omega) _).alloc (by simp; omega) _).alloc (by simp; omega) _)
    have hcell : ((asW (w.alloc (.cells #[.int .i64 0] 31)) ⟨w.heap.size, 0, none⟩ k).setCell ⟨w.heap.size, 0, none⟩ (.int .i64 k)).cell? ⟨w.heap.size, 0, none⟩ = some (.int .i64 k) := by
      have h1 : (w.alloc (.cells #[.int .i64 0] 31)).heap[w.heap.size]? = some (.cells #[.int .i64 0] 31 (0, 0)) := heap_alloc_new w _
      have h2 : (asW (w.alloc (.cells #[.int .i64 0] 31)) ⟨w.heap.size, 0, none⟩ k).heap[w.heap.size]? = some (.cells #[.int .i64 0] 31 (0, 0)) := by
        unfold asW
        rw [Below.heap_alloc _ _ _ (by simp; omega), Below.heap_alloc _ _ _ (by simp; omega), Below.heap_alloc _ _ _ (by simp; omega), Below.heap_alloc _ _ _ (by simp)]
        exact h1
      have h3 := setCell_heap _ w.heap.size 0 (.int .i64 k) _ _ _ h2
      rw [cell_of_row _ _ _ _ _ _ h3]
      rfl
    have HA := Lib.hid hA
    have HBA := Lib.hid hbA
    clear hA hbA hg hg1 hb0
    generalize (asW (w.alloc (.cells #[.int .i64 0] 31)) ⟨w.heap.size, 0, none⟩ k).setCell ⟨w.heap.size, 0, none⟩ (.int .i64 k) = w2 at *
    go_enter Tryd.func147, Tryd.ntmps147
    go_wp2_with (go_at_call 179; refine HA.out.mono ?_; rintro e w1 ⟨rfl, rfl⟩)
    go_ret
    exact ⟨rfl, HBA.out⟩

theorem noAt (v : Value) (w : World) : (Instr.typeAssert (.iface 31 v) 35 192 true).run Tryd.prog w = .ok (.tuple #[.pointer none, .bool false]) w := by kernel_rfl
theorem noUn (v : Value) (w : World) : (Instr.typeAssert (.iface 31 v) 35 196 true).run Tryd.prog w = .ok (.tuple #[.nilIface, .bool false]) w :=
  run_typeAssert_lacksB Tryd.underlying196 (by kernel_rfl) (by kernel_rfl) v 35 w
set_option maxRecDepth 100000 in
set_option maxHeartbeats 2000000 in
theorem place_any (v : Value) (k : Int) (w : World) (hv : ErrV v k) (hg : EAt w) :
    Calls Tryd.prog 102 #[v] w fun e w' => e = .returned (.tuple #[.int .i64 k, .int .i64 (-1)]) ∧ Below w.heap.size w w' := by
  have HT := Lib.hid (tell_any v k w hv hg)
  clear hg
  rcases hv with ⟨rfl, rfl⟩ | rfl
  · go_enter Tryd.func102, Tryd.ntmps102
    go_wp2_with (go_at_call 147; refine HT.out.mono ?_; rintro e w1 ⟨rfl, hB⟩)
    refine wp_loop_rounds 1 ?_
    rw [rounds_succ]
    go_wp2_with fail
    go_ret2
    exact ⟨rfl, hB⟩
  · have a1 := noAt
    have a2 := noUn
    go_enter Tryd.func102, Tryd.ntmps102
    go_wp2_with (go_at_call 147; refine HT.out.mono ?_; rintro e w1 ⟨rfl, hB⟩)
    refine wp_loop_rounds 1 ?_
    rw [rounds_succ]
    go_wp2_with fail
    go_ret2
    exact ⟨rfl, hB⟩

theorem bare_any (v : Value) (k e : Int) (w : World) (hv : ErrV v k) (hg : EAt w) :
    Calls Tryd.prog 26 #[v, .int .i64 e] w fun en w' => en = .returned (.bool (k == e)) ∧ Below w.heap.size w w' := by
  have HT := Lib.hid (place_any v k w hv hg)
  clear hg hv
  go_enter Tryd.func26, Tryd.ntmps26
  by_cases h : k = e
  · subst h
    go_wp2_with (go_at_call 102; refine HT.out.mono ?_; rintro e w1 ⟨rfl, hB⟩)
    go_ret
    exact ⟨by simp, hB⟩
  · have h1 : (k == e) = false := by simpa using h
    go_wp2_with (go_at_call 102; refine HT.out.mono ?_; rintro e w1 ⟨rfl, hB⟩)
    go_ret
    exact ⟨by rw [h1]; rfl, hB⟩
end Go.Proofs.YtfhjnfocmlndpaaDoor

namespace Go.Proofs.YtfhjnfocmlndpaaDoor
open Go Go.ChangeShapes Go.WideShapes Go.ChangeAt Go.RowKit

theorem Tryd.own : ownKnob Tryd.prog.godebug = none := by kernel_rfl
theorem Tryd.laidOut : laidOutB Tryd.prog = true := by kernel_rfl
theorem cells_str : Tryd.prog.cellsOf 9 = 1 := by kernel_rfl

/-! ### what 'laid' gives -/
theorem gK : Tryd.prog.globalNamed "rollkeeper/sum.rounds" = some 0 := by kernel_rfl
theorem gKT : (Tryd.prog.globals[0]?).map (·.type) = some 138 := by kernel_rfl
theorem laidK : (Rows.laid_rollkeeper_sum_rounds : DataW Unit) = Lib.tabData .u32 (K0.map iv) := by kernel_rfl
theorem k_of_laid {W : World} {r : List (String × DataW Unit)} (h : laidMet Tryd.prog (("rollkeeper/sum.rounds", Rows.laid_rollkeeper_sum_rounds) :: r) W) : KAt W 0 := by
  rw [laidK] at h
  have ht := Lib.tabIs_of_head (n := 64) (e := 136) gK gKT (by kernel_rfl) (by kernel_rfl) (by kernel_rfl) (by kernel_rfl) h
  intro i hi
  rw [ht.cell gK i (by rw [List.length_map]; exact hi)]
  congr 2
  rw [List.getD_eq_getElem?_getD, List.getD_eq_getElem?_getD, List.getElem?_map]
  cases K0[i]? <;> rfl

/-! ### errors.errorType -/
theorem gE : Tryd.prog.globalNamed "errors.errorType" = some 2 := by kernel_rfl
theorem rtE : (Tryd.prog.cutTypes.find? (·.1 == "internal/reflectlite.rtype")).map (·.2) = some 265 := by kernel_rfl
theorem oneE : ((List.range Tryd.prog.types.size).filter fun t => Tryd.prog.rowNamed t [101, 114, 114, 111, 114]) = [35] := by kernel_rfl
theorem e_of_handles {W : World} (h : handlesMet Tryd.prog [("errors.errorType", Rows.laid_errors_errorType)] W) : EAt W := by
  obtain ⟨name, u, ty, e1, e2, e3, e4, e5⟩ := h _ (List.mem_singleton.2 rfl)
  have en : name = [101, 114, 114, 111, 114] := (Option.some.inj e1).symm
  subst en
  obtain rfl := Option.some.inj (rtE.symm.trans e2)
  have hm : ty ∈ (List.range Tryd.prog.types.size).filter fun t => Tryd.prog.rowNamed t [101, 114, 114, 111, 114] := List.mem_filter.2 ⟨List.mem_range.2 e3, e4⟩
  rw [oneE] at hm
  obtain rfl := List.mem_singleton.1 hm
  have hh : typeHandle Tryd.prog 35 = .pointer (some ⟨nG, 35, none⟩) := by kernel_rfl
  rw [hh] at e5
  simpa [EAt] using World.var?_cell gE e5 0
/-! ### a list of strings that came in -/
theorem open_texts {H : Type} {enc : TypeId × Value → H} {W : World} {a0 : Option Addr} {len cap fuel : Nat} {x : DataW H × List MemPlace}
    (hf : DataW.trod enc Tryd.prog W 0 (fun _ => true) true fuel 22 [.slice a0 len cap] = some x) :
    ∃ l : List ByteArray, l.length = len ∧ Reads W (.slice a0 len cap) len 1 (l.map Value.string) ∧ len ≤ maxLen := by
  rcases open_strings (by kernel_rfl) (by kernel_rfl) cells_str hf with ⟨hcs, hx⟩ | ⟨a, len', cap', ss, hcs, _, hl, hm, hz, hx, hcell, _⟩
  · simp at hcs
    obtain ⟨rfl, rfl, rfl⟩ := hcs
    exact ⟨[], rfl, ⟨rfl, .inl ⟨rfl, _, _, rfl⟩⟩, Nat.zero_le _⟩
  · simp at hcs
    obtain ⟨rfl, rfl, rfl⟩ := hcs
    simp only [if_true] at hz
    obtain ⟨b, off, spot⟩ := a
    have hll : (ss.take len).length = len := by simp; omega
    refine ⟨ss.take len, hll, ⟨by rw [List.length_map, hll, Nat.mul_one], ?_⟩, by omega⟩
    by_cases h0 : len = 0
    · subst h0
      exact .inl ⟨rfl, _, _, rfl⟩
    · have hspot : spot = none := by simpa [Addr.add] using World.cell?_spot (hcell 0 (by omega))
      subst hspot
      refine .inr ⟨b, off, cap, rfl, fun j u hu => ?_⟩
      have hj : j < len := by
        have := (List.getElem?_eq_some_iff.1 hu).1
        simp at this
        omega
      rw [List.getElem?_map, List.getElem?_take_of_lt hj, List.getElem?_eq_getElem (by omega)] at hu
      simp only [Option.map_some, Option.some.injEq] at hu
      have h1 := hcell j (by omega)
      rw [List.getD_eq_getElem?_getD, List.getElem?_eq_getElem (by omega)] at h1
      rw [← hu]
      refine Eq.trans ?_ h1
      rw [add_plain]


/-! ### numbers that came in -/
theorem i64_bounds {n : Int} (hn : (Lit.int .i64 n).wf = true) : -9223372036854775808 ≤ n ∧ n ≤ 9223372036854775807 := by
  have h1 : IntKind.i64.min = -9223372036854775808 := rfl
  have h2 : IntKind.i64.max = 9223372036854775807 := rfl
  simp only [Lit.wf, Bool.and_eq_true, decide_eq_true_eq] at hn
  omega
end Go.Proofs.YtfhjnfocmlndpaaDoor
