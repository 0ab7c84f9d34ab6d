/- A list of heads that came in. -/
import Derived.Test.YtfhjnfocmlndpaaDoorHeads
import Derived.Test.YtfhjnfocmlndpaaDoorLaid
import Derived.Deep.Slices
namespace Go.Proofs.YtfhjnfocmlndpaaDoor
open Go Go.ChangeShapes Go.WideShapes Go.ChangeAt Go.RowKit

instance : Inhabited Hd := ⟨⟨0, ⟨#[]⟩, ⟨#[]⟩⟩⟩
theorem hcells_len (l : List Hd) : (hcells l).length = 3 * l.length := by
  induction l with
  | nil => rfl
  | cons x l ih => show (x.cells ++ hcells l).length = _; rw [List.length_append, ih]; simp [Hd.cells]; omega
theorem head_fields : ∃ f0 f1 f2, Tryd.prog.underlying 63 = some (.struct #[f0, f1, f2]) ∧ (f0.offset = 0 ∧ f0.type = 3) ∧ (f1.offset = 1 ∧ f1.type = 9) ∧ (f2.offset = 2 ∧ f2.type = 9) :=
  ⟨_, _, _, Tryd.underlying63, ⟨rfl, rfl⟩, ⟨rfl, rfl⟩, ⟨rfl, rfl⟩⟩
theorem cells_head : Tryd.prog.cellsOf 63 = 3 := by kernel_rfl
theorem cells_int : Tryd.prog.cellsOf 3 = 1 := by kernel_rfl
set_option maxRecDepth 100000 in
/-- one head, of its three cells -/
theorem open_head {H : Type} {enc : TypeId × Value → H} {W : World} {base : Nat} {spare : Nat → Bool} {held : Bool} {fuel : Nat} {cs : List Value} {x : DataW H × List MemPlace}
    (h : DataW.trod enc Tryd.prog W base spare held fuel 63 cs = some x) : ∃ y : Hd, cs = y.cells ∧ (-9223372036854775808 ≤ y.epoch ∧ y.epoch ≤ 9223372036854775807) := by
  obtain ⟨f0, f1, f2, hu, ⟨o0, t0⟩, ⟨o1, t1⟩, ⟨o2, t2⟩⟩ := head_fields
  obtain ⟨xs, k, hk, hxy, hlen, hxl, hf⟩ := DataW.trod_struct hu h
  rw [cells_head] at hlen
  match xs, hxl, cs, hlen with
  | [y0, y1, y2], _, [v0, v1, v2], _ =>
    have g0 := hf 0 f0 rfl
    have g1 := hf 1 f1 rfl
    have g2 := hf 2 f2 rfl
    rw [o0, t0, cells_int] at g0
    rw [o1, t1, cells_str] at g1
    rw [o2, t2, cells_str] at g2
    obtain ⟨n, e0, _, hn⟩ := DataW.trod_int (k := .i64) (by kernel_rfl) g0
    obtain ⟨s1, e1, _, _⟩ := DataW.trod_string (by kernel_rfl) g1
    obtain ⟨s2, e2, _, _⟩ := DataW.trod_string (by kernel_rfl) g2
    simp at e0 e1 e2
    subst e0 e1 e2
    exact ⟨⟨n, s1, s2⟩, rfl, i64_bounds hn⟩
theorem open_heads {H : Type} {enc : TypeId × Value → H} {W : World} {v : Value} {fuel : Nat} {x : DataW H × List MemPlace}
    (hf : DataW.trod enc Tryd.prog W 0 (fun _ => true) true fuel 101 [v] = some x) :
    ∃ l : List Hd, HReads W v l ∧ (∀ a n c, v = .slice a n c → n ≤ c) ∧ ∀ h ∈ l, (-9223372036854775808 ≤ h.epoch ∧ h.epoch ≤ 9223372036854775807) := by
  rcases Deep.open_slice (e := 63) (by kernel_rfl) hf with ⟨hcs, _⟩ | ⟨a, len, cap, m, n, D, Pl, hcs, hb, hl, _, hmm, _, hx⟩
  · simp at hcs
    subst hcs
    exact ⟨[], ⟨rfl, .inl ⟨rfl, _, _, rfl⟩⟩, fun a n c h => by simp only [Value.slice.injEq] at h; omega, fun h hm => by cases hm⟩
  · simp at hcs
    subst hcs
    obtain ⟨b, off, spot⟩ := a
    rw [cells_head] at hx
    have hlm : len ≤ m := by rw [hmm]; simpa using hl
    have each : ∀ i, i < len → ∃ y : Hd, (∀ j u, y.cells[j]? = some u → W.cell? ((⟨b, off, spot⟩ : Addr).add (i * 3 + j)) = some u) ∧ (-9223372036854775808 ≤ y.epoch ∧ y.epoch ≤ 9223372036854775807) := by
      intro i hi
      obtain ⟨cs', h1, h2⟩ := hx i (by omega)
      obtain ⟨_, hlen, hcell⟩ := World.cells?_some h1
      obtain ⟨y, hy, hr⟩ := open_head h2
      refine ⟨y, fun j u hu => ?_, hr⟩
      have hj : j < 3 := by
        have := (List.getElem?_eq_some_iff.1 hu).1
        simpa [Hd.cells] using this
      have h3 := hcell j hj
      rw [hy, hu] at h3
      rw [← h3, Deep.add_add]
    obtain ⟨f, hf2⟩ := Deep.choose_lt each
    have hspot : 0 < len → spot = none := fun h0 => by
      have := (hf2 0 h0).1 0 _ rfl
      simpa [Addr.add] using World.cell?_spot this
    refine ⟨(List.range len).map f, ?_, fun a n c h => by simp only [Value.slice.injEq] at h; omega, ?_⟩
    · have hll : ((List.range len).map f).length = len := by simp
      refine ⟨by rw [hcells_len, hll]; omega, ?_⟩
      by_cases h0 : len = 0
      · subst h0
        exact .inl ⟨rfl, _, _, rfl⟩
      · obtain rfl := hspot (by omega)
        refine .inr ⟨b, off, cap, by rw [hll], fun j u hu => ?_⟩
        have hj : j < 3 * len := by
          have := (List.getElem?_eq_some_iff.1 hu).1
          rwa [hcells_len, hll] at this
        obtain ⟨i, r, hi, hr, rfl⟩ : ∃ i r, i < len ∧ r < 3 ∧ j = 3 * i + r := ⟨j / 3, j % 3, by omega, by omega, by omega⟩
        have hget : ((List.range len).map f)[i]? = some (f i) := by simp [hi]
        obtain ⟨h1, h2, h3⟩ := hcells_get hget
        have hcell := (hf2 i hi).1 r u ?_
        · rw [add_plain] at hcell
          rw [show off + (3 * i + r) = off + (i * 3 + r) from by omega]
          exact hcell
        · have : r = 0 ∨ r = 1 ∨ r = 2 := by omega
          rcases this with rfl | rfl | rfl
          · rw [Nat.add_zero, h1] at hu; exact hu
          · rw [h2] at hu; exact hu
          · rw [h3] at hu; exact hu
    · intro h hm
      obtain ⟨i, hi, rfl⟩ := List.mem_map.1 hm
      exact (hf2 i (List.mem_range.1 hi)).2
end Go.Proofs.YtfhjnfocmlndpaaDoor
