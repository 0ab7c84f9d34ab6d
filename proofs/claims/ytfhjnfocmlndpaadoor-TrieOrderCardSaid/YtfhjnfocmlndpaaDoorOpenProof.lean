/- A proof that came in: a struct by value, of a list of strings and two strings. -/
import Derived.Test.YtfhjnfocmlndpaaDoorLaid
namespace Go.Proofs.YtfhjnfocmlndpaaDoor
open Go Go.ChangeShapes Go.WideShapes Go.ChangeAt Go.RowKit

theorem proof_fields : ∃ f0 f1, Tryd.prog.underlying 51 = some (.struct #[f0, f1]) ∧ (f0.offset = 0 ∧ f0.type = 22) ∧ (f1.offset = 1 ∧ f1.type = 49) :=
  ⟨_, _, Tryd.underlying51, ⟨rfl, rfl⟩, ⟨rfl, rfl⟩⟩
theorem item_fields : ∃ f0 f1, Tryd.prog.underlying 49 = some (.struct #[f0, f1]) ∧ (f0.offset = 0 ∧ f0.type = 9) ∧ (f1.offset = 1 ∧ f1.type = 9) :=
  ⟨_, _, Tryd.underlying49, ⟨rfl, rfl⟩, ⟨rfl, rfl⟩⟩
theorem cells_proof : Tryd.prog.cellsOf 51 = 3 := by kernel_rfl
theorem cells_item : Tryd.prog.cellsOf 49 = 2 := by kernel_rfl
theorem cells_strs : Tryd.prog.cellsOf 22 = 1 := by kernel_rfl
/-- an item, of its two cells -/
theorem open_item {H : Type} {enc : TypeId × Value → H} {W : World} {base : Nat} {spare : Nat → Bool} {held : Bool} {fuel : Nat} {cs : List Value} {x : DataW H × List MemPlace}
    (h : DataW.trod enc Tryd.prog W base spare held fuel 49 cs = some x) : ∃ li lc : ByteArray, cs = [.string li, .string lc] ∧ x.2 = [] := by
  obtain ⟨f0, f1, hu, ⟨o0, t0⟩, ⟨o1, t1⟩⟩ := item_fields
  obtain ⟨y0, y1, n, rfl, hlen, g0, g1⟩ := trod_struct2 hu h
  rw [cells_item] at hlen
  rw [o0, t0, cells_str] at g0
  rw [o1, t1, cells_str] at g1
  match cs, hlen with
  | [v0, v1], _ =>
    obtain ⟨s0, e0, r0, _⟩ := DataW.trod_string (by kernel_rfl) g0
    obtain ⟨s1, e1, r1, _⟩ := DataW.trod_string (by kernel_rfl) g1
    simp at e0 e1
    subst e0 e1
    exact ⟨s0, s1, rfl, by rw [r0, r1]; rfl⟩
/-- a proof, of its three cells -/
theorem open_proof {H : Type} {enc : TypeId × Value → H} {W : World} {fuel : Nat} {cs : Array Value} {x : DataW H × List MemPlace}
    (h : DataW.trod enc Tryd.prog W 0 (fun _ => true) true fuel 51 cs.toList = some x) :
    ∃ (pv : Value) (l : List ByteArray) (li lc : ByteArray), cs = #[pv, .string li, .string lc] ∧ Reads W pv l.length 1 (l.map Value.string) := by
  obtain ⟨f0, f1, hu, ⟨o0, t0⟩, ⟨o1, t1⟩⟩ := proof_fields
  obtain ⟨y0, y1, n, rfl, hlen, g0, g1⟩ := trod_struct2 hu h
  rw [cells_proof] at hlen
  rw [o0, t0, cells_strs] at g0
  rw [o1, t1, cells_item] at g1
  obtain ⟨v0, v1, v2, rfl⟩ : ∃ v0 v1 v2, cs = #[v0, v1, v2] := by
    obtain ⟨l⟩ := cs
    match l, hlen with
    | [v0, v1, v2], _ => exact ⟨v0, v1, v2, rfl⟩
  obtain ⟨li, lc, e1, -⟩ := open_item g1
  have g0' : DataW.trod enc Tryd.prog W 0 (fun _ => true) true n 22 [v0] = some y0 := g0
  have e1' : [v1, v2] = [Value.string li, Value.string lc] := e1
  simp only [List.cons.injEq, and_true] at e1'
  obtain ⟨rfl, rfl⟩ := e1'
  obtain ⟨a, len, cap, rfl⟩ : ∃ a len cap, v0 = .slice a len cap := by
    rcases open_strings (by kernel_rfl) (by kernel_rfl) cells_str g0' with ⟨hcs, _⟩ | ⟨a, len, cap, ss, hcs, _⟩
    · simp at hcs; exact ⟨_, _, _, hcs⟩
    · simp at hcs; exact ⟨_, _, _, hcs⟩
  obtain ⟨l, rfl, hR, _⟩ := open_texts g0'
  exact ⟨_, l, li, lc, rfl, hR⟩
end Go.Proofs.YtfhjnfocmlndpaaDoor
