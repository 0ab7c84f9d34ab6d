/- What the rows' conditions lay is what the walks ask: SHA-256's constants, errors.errorType; lists of strings that came in. -/
import Derived.Test.YtfhjnfocmlndpaaDoorMark
import Derived.Test.YtfhjnfocmlndpaaDoorTell
import Derived.Test.YtfhjnfocmlndpaaDoorRows
import Derived.Test.YtfhjnfocmlndpaaDoorCards
import Derived.Test.YtfhjnfocmlndpaaDoorTie
import Derived.ProofKit
import Derived.SizedLaws
import Derived.SliceStrings
import Derived.LaidLaws
import Derived.LaidMore
import Derived.LaidHandle
import Derived.Lib.LaidTab
import Derived.MakeChecks
import Derived.JoinedOf
import Derived.ChangeVars
import Derived.SevenTiedAt
import Derived.Stop.Joined
import Derived.Stop.LaidErr
namespace Go.Proofs.YtfhjnfocmlndpaaDoor
open Go Go.ChangeShapes Go.WideShapes Go.ChangeAt Go.RowKit

theorem Tryd.own : ownKnob Tryd.prog.godebug = none := by kernel_rfl
theorem Tryd.laidOut : laidOutB Tryd.prog = true := by kernel_rfl
theorem cells_str : Tryd.prog.cellsOf 9 = 1 := by kernel_rfl

/-! ### what 'laid' gives -/
theorem gK : Tryd.prog.globalNamed "rollkeeper/sum.rounds" = some 0 := by kernel_rfl
theorem gKT : (Tryd.prog.globals[0]?).map (·.type) = some 138 := by kernel_rfl
theorem laidK : (Rows.laid_rollkeeper_sum_rounds : DataW Unit) = Lib.tabData .u32 (K0.map iv) := by kernel_rfl
theorem k_of_laid {W : World} {r : List (String × DataW Unit)} (h : laidMet Tryd.prog (("rollkeeper/sum.rounds", Rows.laid_rollkeeper_sum_rounds) :: r) W) : KAt W 0 := by
  rw [laidK] at h
  have ht := Lib.tabIs_of_head (n := 64) (e := 136) gK gKT (by kernel_rfl) (by kernel_rfl) (by kernel_rfl) (by kernel_rfl) h
  intro i hi
  rw [ht.cell gK i (by rw [List.length_map]; exact hi)]
  congr 2
  rw [List.getD_eq_getElem?_getD, List.getD_eq_getElem?_getD, List.getElem?_map]
  cases K0[i]? <;> rfl

/-! ### errors.errorType -/
theorem gE : Tryd.prog.globalNamed "errors.errorType" = some 2 := by kernel_rfl
theorem rtE : (Tryd.prog.cutTypes.find? (·.1 == "internal/reflectlite.rtype")).map (·.2) = some 265 := by kernel_rfl
theorem oneE : ((List.range Tryd.prog.types.size).filter fun t => Tryd.prog.rowNamed t [101, 114, 114, 111, 114]) = [35] := by kernel_rfl
theorem e_of_handles {W : World} (h : handlesMet Tryd.prog [("errors.errorType", Rows.laid_errors_errorType)] W) : EAt W := by
  obtain ⟨name, u, ty, e1, e2, e3, e4, e5⟩ := h _ (List.mem_singleton.2 rfl)
  have en : name = [101, 114, 114, 111, 114] := (Option.some.inj e1).symm
  subst en
  obtain rfl := Option.some.inj (rtE.symm.trans e2)
  have hm : ty ∈ (List.range Tryd.prog.types.size).filter fun t => Tryd.prog.rowNamed t [101, 114, 114, 111, 114] := List.mem_filter.2 ⟨List.mem_range.2 e3, e4⟩
  rw [oneE] at hm
  obtain rfl := List.mem_singleton.1 hm
  have hh : typeHandle Tryd.prog 35 = .pointer (some ⟨nG, 35, none⟩) := by kernel_rfl
  rw [hh] at e5
  simpa [EAt] using World.var?_cell gE e5 0
/-! ### a list of strings that came in -/
theorem open_texts {H : Type} {enc : TypeId × Value → H} {W : World} {a0 : Option Addr} {len cap fuel : Nat} {x : DataW H × List MemPlace}
    (hf : DataW.trod enc Tryd.prog W 0 (fun _ => true) true fuel 22 [.slice a0 len cap] = some x) :
    ∃ l : List ByteArray, l.length = len ∧ Reads W (.slice a0 len cap) len 1 (l.map Value.string) ∧ len ≤ maxLen := by
  rcases open_strings (by kernel_rfl) (by kernel_rfl) cells_str hf with ⟨hcs, hx⟩ | ⟨a, len', cap', ss, hcs, _, hl, hm, hz, hx, hcell, _⟩
  · simp at hcs
    obtain ⟨rfl, rfl, rfl⟩ := hcs
    exact ⟨[], rfl, ⟨rfl, .inl ⟨rfl, _, _, rfl⟩⟩, Nat.zero_le _⟩
  · simp at hcs
    obtain ⟨rfl, rfl, rfl⟩ := hcs
    simp only [if_true] at hz
    obtain ⟨b, off, spot⟩ := a
    have hll : (ss.take len).length = len := by simp; omega
    refine ⟨ss.take len, hll, ⟨by rw [List.length_map, hll, Nat.mul_one], ?_⟩, by omega⟩
    by_cases h0 : len = 0
    · subst h0
      exact .inl ⟨rfl, _, _, rfl⟩
    · have hspot : spot = none := by simpa [Addr.add] using World.cell?_spot (hcell 0 (by omega))
      subst hspot
      refine .inr ⟨b, off, cap, rfl, fun j u hu => ?_⟩
      have hj : j < len := by
        have := (List.getElem?_eq_some_iff.1 hu).1
        simp at this
        omega
      rw [List.getElem?_map, List.getElem?_take_of_lt hj, List.getElem?_eq_getElem (by omega)] at hu
      simp only [Option.map_some, Option.some.injEq] at hu
      have h1 := hcell j (by omega)
      rw [List.getD_eq_getElem?_getD, List.getElem?_eq_getElem (by omega)] at h1
      rw [← hu]
      refine Eq.trans ?_ h1
      rw [add_plain]


/-! ### numbers that came in -/
theorem i64_bounds {n : Int} (hn : (Lit.int .i64 n).wf = true) : -9223372036854775808 ≤ n ∧ n ≤ 9223372036854775807 := by
  have h1 : IntKind.i64.min = -9223372036854775808 := rfl
  have h2 : IntKind.i64.max = 9223372036854775807 := rfl
  simp only [Lit.wf, Bool.and_eq_true, decide_eq_true_eq] at hn
  omega
end Go.Proofs.YtfhjnfocmlndpaaDoor
