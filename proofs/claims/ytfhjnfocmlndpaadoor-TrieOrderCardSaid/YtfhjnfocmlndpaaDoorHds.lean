/- Lists of heads in memory. -/
import Derived.Test.YtfhjnfocmlndpaaDoorChain
namespace Go.Proofs.YtfhjnfocmlndpaaDoor
open Go Go.RowKit Go.Proofs

def hcells (l : List Hd) : List Value := l.flatMap Hd.cells
theorem hcells_get {l : List Hd} {k : Nat} {h : Hd} (hk : l[k]? = some h) : (hcells l)[3 * k]? = some (.int .i64 h.epoch) ∧ (hcells l)[3 * k + 1]? = some (.string h.root) ∧ (hcells l)[3 * k + 2]? = some (.string h.prev) := by
  induction l generalizing k with
  | nil => simp at hk
  | cons x l ih =>
    cases k with
    | zero =>
      simp only [List.getElem?_cons_zero, Option.some.injEq] at hk
      subst hk
      exact ⟨rfl, rfl, rfl⟩
    | succ k =>
      simp only [List.getElem?_cons_succ] at hk
      have := ih hk
      have e : hcells (x :: l) = [.int .i64 x.epoch, .string x.root, .string x.prev] ++ hcells l := rfl
      rw [e, show 3 * (k + 1) = 3 * k + 3 from by omega]
      refine ⟨?_, ?_, ?_⟩
      · rw [List.getElem?_append_right (by simp)]; simpa using this.1
      · rw [List.getElem?_append_right (by simp)]; simpa [show 3 * k + 3 + 1 - 3 = 3 * k + 1 from by omega] using this.2.1
      · rw [List.getElem?_append_right (by simp)]; simpa [show 3 * k + 3 + 2 - 3 = 3 * k + 2 from by omega] using this.2.2
/-- the slice v reads as the heads l -/
def HReads (w : World) (v : Value) (l : List Hd) : Prop := Reads w v l.length 3 (hcells l)
theorem HReads.mono {w w' : World} {v : Value} {l : List Hd} (h : HReads w v l) (hb : Below w.heap.size w w') : HReads w' v l := Reads.mono h hb
theorem HReads.shape {w : World} {v : Value} {l : List Hd} (h : HReads w v l) : ∃ a cap, v = .slice a l.length cap := by
  rcases h.2 with ⟨_, a, c, rfl⟩ | ⟨b, off, cap, rfl, _⟩
  · exact ⟨a, c, rfl⟩
  · exact ⟨_, cap, rfl⟩
theorem HReads.at {w : World} {a : Option Addr} {n cap : Nat} {l : List Hd} (h : HReads w (.slice a n cap) l) {k : Nat} {x : Hd} (hk : l[k]? = some x) :
    ∃ b off, a = some ⟨b, off, none⟩ ∧ w.cell? ⟨b, off + k * 3, none⟩ = some (.int .i64 x.epoch) ∧ w.cell? ⟨b, off + k * 3 + 1, none⟩ = some (.string x.root) ∧ w.cell? ⟨b, off + k * 3 + 2, none⟩ = some (.string x.prev) := by
  obtain ⟨h1, h2, h3⟩ := hcells_get hk
  rcases h.2 with ⟨h0, _⟩ | ⟨b, off, cap', he, hc⟩
  · rw [h0] at h1; simp at h1
  · simp only [Value.slice.injEq] at he
    refine ⟨b, off, he.1, ?_, ?_, ?_⟩
    · rw [show off + k * 3 = off + 3 * k from by omega]; exact hc _ _ h1
    · rw [show off + k * 3 + 1 = off + (3 * k + 1) from by omega]; exact hc _ _ h2
    · rw [show off + k * 3 + 2 = off + (3 * k + 2) from by omega]; exact hc _ _ h3
end Go.Proofs.YtfhjnfocmlndpaaDoor
