/- slices.Reverse over items of the call's own. -/
import Derived.Test.YtfhjnfocmlndpaaDoorTSetW
import Derived.Test.YtfhjnfocmlndpaaDoorShelfD
namespace Go.Proofs.YtfhjnfocmlndpaaDoor
open Go Go.RowKit Go.Proofs Go.Sort

theorem it_cells (x : It) : x.cells.length = 2 := rfl
instance itFirst : Inhabited It := ⟨⟨⟨#[]⟩, ⟨#[]⟩⟩⟩
theorem holdsK_of {w : World} {g : Nat} {l : List It} (hc : ∀ j u, (icells l)[j]? = some u → w.cell? ⟨g, j, none⟩ = some u) (hf : ∀ j, j < l.length * 2 → w.frozen? ⟨g, j, none⟩ = false) : HoldsK It.cells 2 w g 0 l.toArray := by
  intro j hj
  rw [size_flatK] at hj
  have hj' : j < l.length * 2 := by simpa using hj
  rw [Nat.zero_add]
  refine ⟨?_, hf j hj'⟩
  rw [get_flatK _ _ _ _ hj]
  have hlt : j / 2 < l.length := by omega
  have hget : l[j / 2]? = some l[j / 2] := List.getElem?_eq_getElem hlt
  have h2 : l.toArray[j / 2]! = l[j / 2] := by simp [hlt]
  rw [h2]
  obtain ⟨h3, h4⟩ := icells_get hget
  rcases (by omega : j % 2 = 0 ∨ j % 2 = 1) with h | h
  · rw [h]
    rw [show 2 * (j / 2) = j by omega] at h3
    exact hc j _ h3
  · rw [h]
    rw [show 2 * (j / 2) + 1 = j by omega] at h4
    exact hc j _ h4
theorem cells_of_holdsK {w : World} {g : Nat} {l : List It} (h : HoldsK It.cells 2 w g 0 l.toArray) : ∀ j u, (icells l)[j]? = some u → w.cell? ⟨g, j, none⟩ = some u := by
  intro j u hu
  have hj : j < l.length * 2 := by have := (List.getElem?_eq_some_iff.1 hu).1; rwa [icells_length] at this
  have h0 := (h j (by rw [size_flatK]; simpa using hj)).1
  rw [Nat.zero_add] at h0
  rw [h0, get_flatK _ _ _ _ (by simpa using hj)]
  have hlt : j / 2 < l.length := by omega
  have hget : l[j / 2]? = some l[j / 2] := List.getElem?_eq_getElem hlt
  have h2 : l.toArray[j / 2]! = l[j / 2] := by simp [hlt]
  rw [h2, ← hu]
  obtain ⟨h3, h4⟩ := icells_get hget
  rcases (by omega : j % 2 = 0 ∨ j % 2 = 1) with h | h
  · rw [h]
    rw [show 2 * (j / 2) = j by omega] at h3
    rw [h3]; rfl
  · rw [h]
    rw [show 2 * (j / 2) + 1 = j by omega] at h4
    rw [h4]; rfl
theorem below_putRowK {base : Nat} {w : World} {g n : Nat} (hb : base ≤ g) (hw : base ≤ w.heap.size) (d : Array It) : Below base w (putRowK It.cells 2 (Sort.ahead w n) g 0 d) := by
  refine ⟨rfl, rfl, rfl, ?_, fun k hk => ?_⟩
  · unfold putRowK
    rw [size_putRow]
    exact Nat.le_refl _
  · unfold putRowK putRow mapBlock
    simp only [Sort.heap_ahead, Array.getElem?_modify]
    rw [if_neg (by omega)]
def RevPost (base : Nat) (v : Value) (l : List It) (w : World) (e : Ending) (w' : World) : Prop := e = .returned (.tuple #[]) ∧ IReads w' v l.reverse ∧ Below base w w'
theorem trev_any (base : Nat) (v : Value) (l : List It) (w : World) (hown : Own w base 49 2 v l.length (icells l)) (hl : l.length ≤ 1000) (hbase : base ≤ w.heap.size) :
    Calls Tryd.prog 78 #[v] w (RevPost base v l w) := by
  rcases hown.shape with ⟨rfl, h0, _⟩ | ⟨g, cap, rfl, _, hbg, hg, hnc, hcm⟩
  · obtain rfl : l = [] := List.eq_nil_of_length_eq_zero h0
    refine Calls.mono (f := 78) (AnyQ.slices_Reverse_empty Tryd.laysRev none 0 w) ?_
    rintro e w' ⟨he, hw⟩
    exact ⟨he, IReads.nil _ _ _, by first | (rw [hw]; exact Below.refl _ _) | (rw [← hw]; exact Below.refl _ _)⟩
  · have hH : HoldsK It.cells 2 w g 0 l.toArray := holdsK_of (fun j u hu => hown.cell (g := g) rfl hu) (fun j hj => hown.free hj)
    have h := AnyQ.slices_Reverse Tryd.laysRev 2 Tryd.isAgg49 Tryd.sizeOf49 It.cells it_cells (fun x v hv => by
      simp only [It.cells, List.mem_cons, List.not_mem_nil, or_false] at hv
      rcases hv with rfl | rfl <;> rfl) g 0 cap l.toArray w hH (by simp; omega)
    refine Calls.mono (f := 78) h ?_
    rintro e w' ⟨he, n, rfl⟩
    refine ⟨he, ⟨⟨icells_length _, .inr ⟨g, 0, cap, by rw [List.length_reverse], ?_⟩⟩, fun _ _ _ h => by simp only [Value.slice.injEq] at h; omega⟩, below_putRowK hbg hbase _⟩
    intro j u hu
    rw [Nat.zero_add]
    refine cells_of_holdsK (l := l.reverse) ?_ j u hu
    have h2 := holdsK_putRowK It.cells 2 (Sort.ahead w n) g 0 l.toArray l.toArray.reverse (holdsK_ahead It.cells 2 _ _ _ _ _ hH) (by simp)
    simpa using h2
end Go.Proofs.YtfhjnfocmlndpaaDoor
