/- A list of items that came in. -/
import Derived.Test.YtfhjnfocmlndpaaDoorTItems
import Derived.Test.YtfhjnfocmlndpaaDoorOpenProof
import Derived.Deep.Slices
namespace Go.Proofs.YtfhjnfocmlndpaaDoor
open Go Go.ChangeShapes Go.WideShapes Go.ChangeAt Go.RowKit

instance : Inhabited It := ⟨⟨⟨#[]⟩, ⟨#[]⟩⟩⟩
set_option maxRecDepth 100000 in
theorem open_items {H : Type} {enc : TypeId × Value → H} {W : World} {v : Value} {fuel : Nat} {x : DataW H × List MemPlace}
    (hf : DataW.trod enc Tryd.prog W 0 (fun _ => true) true fuel 115 [v] = some x) :
    ∃ l : List It, IReads W v l := by
  rcases Deep.open_slice (e := 49) (by kernel_rfl) hf with ⟨hcs, _⟩ | ⟨a, len, cap, m, n, D, Pl, hcs, hb, hl, _, hmm, _, hx⟩
  · simp at hcs
    subst hcs
    exact ⟨[], IReads.nil _ _ _⟩
  · simp at hcs
    subst hcs
    obtain ⟨b, off, spot⟩ := a
    rw [cells_item] at hx
    have hlm : len ≤ m := by rw [hmm]; simpa using hl
    have each : ∀ i, i < len → ∃ y : It, (∀ j u, y.cells[j]? = some u → W.cell? ((⟨b, off, spot⟩ : Addr).add (i * 2 + j)) = some u) := by
      intro i hi
      obtain ⟨cs', h1, h2⟩ := hx i (by omega)
      obtain ⟨_, hlen, hcell⟩ := World.cells?_some h1
      obtain ⟨li, lc, hy, _⟩ := open_item h2
      refine ⟨⟨li, lc⟩, fun j u hu => ?_⟩
      have hj : j < 2 := by
        have := (List.getElem?_eq_some_iff.1 hu).1
        simpa [It.cells] using this
      have h3 := hcell j hj
      have hy2 : cs' = (It.mk li lc).cells := hy
      rw [hy2, hu] at h3
      rw [← h3, Deep.add_add]
    obtain ⟨f, hf2⟩ := Deep.choose_lt each
    have hspot : 0 < len → spot = none := fun h0 => by
      have := hf2 0 h0 0 _ rfl
      simpa [Addr.add] using World.cell?_spot this
    have hll : ((List.range len).map f).length = len := by simp
    refine ⟨(List.range len).map f, ⟨?_, ?_⟩, fun a n c h => by simp only [Value.slice.injEq] at h; omega⟩
    · rw [icells_length]
    · by_cases h0 : len = 0
      · subst h0
        exact .inl ⟨rfl, _, _, rfl⟩
      · obtain rfl := hspot (by omega)
        refine .inr ⟨b, off, cap, by rw [hll], fun j u hu => ?_⟩
        have hj : j < len * 2 := by
          have := (List.getElem?_eq_some_iff.1 hu).1
          rwa [icells_length, hll] at this
        obtain ⟨i, r, hi, hr, rfl⟩ : ∃ i r, i < len ∧ r < 2 ∧ j = 2 * i + r := ⟨j / 2, j % 2, by omega, by omega, by omega⟩
        have hget : ((List.range len).map f)[i]? = some (f i) := by simp [hi]
        obtain ⟨h1, h2⟩ := icells_get hget
        have hcell := hf2 i hi r u ?_
        · rw [add_plain] at hcell
          rw [show off + (2 * i + r) = off + (i * 2 + r) from by omega]
          exact hcell
        · have : r = 0 ∨ r = 1 := by omega
          rcases this with rfl | rfl
          · rw [Nat.add_zero, h1] at hu; exact hu
          · rw [h2] at hu; exact hu
end Go.Proofs.YtfhjnfocmlndpaaDoor
