/- A set of texts that the call has made: a map from texts to bools, in which none stands but true. -/
import Derived.Test.YtfhjnfocmlndpaaDoorTItems
import Derived.Maps.OwnSet
namespace Go.Proofs.YtfhjnfocmlndpaaDoor
open Go Go.RowKit Go.Proofs

theorem u_mapb : Tryd.prog.underlying 118 = some (.map 9 4) := by kernel_rfl
theorem u_bool : Tryd.prog.underlying 4 = some .bool := by kernel_rfl
theorem zero_bool (w : World) : (zeroValue 4).run Tryd.prog w = .ok (.bool false) w := Tryd.zeroValue4 w
def hasB (S : List ByteArray) (s : ByteArray) : Bool := S.any fun t => decide (t = s)
theorem hasB_iff {S : List ByteArray} {s : ByteArray} : hasB S s = true ↔ s ∈ S := by
  unfold hasB
  rw [List.any_eq_true]
  constructor
  · rintro ⟨t, ht, he⟩
    rw [← of_decide_eq_true he]; exact ht
  · exact fun h => ⟨s, h, decide_eq_true rfl⟩
/-- block b holds, of texts of at most 1000 bytes, those in S -/
def SetAt (w : World) (b n : Nat) (S : List ByteArray) : Prop :=
  ∃ D : DataW Unit, w.ownsMap Tryd.prog 9 (plainElem (H := Unit) Tryd.prog 4) b n D ∧ ∀ s : ByteArray, D.atKey (.string s.data.toList) (.lit (.bool false)) = .lit (.bool (hasB S s))
theorem SetAt.made (w : World) : SetAt (w.alloc (.map #[] 0)) w.heap.size 0 [] := ⟨.map [], World.ownsMap_made _ _ _ _, fun _ => rfl⟩
theorem SetAt.lt {w : World} {b n : Nat} {S : List ByteArray} (h : SetAt w b n S) : b < w.heap.size := by
  obtain ⟨D, h1, _⟩ := h
  exact h1.lt
theorem SetAt.kept {w w' : World} {b n : Nat} {S : List ByteArray} (h : SetAt w b n S) {row : Option Nat} (hg : w.grownBy w' row) (hne : some b ≠ row) : SetAt w' b n S := by
  obtain ⟨D, h1, h2⟩ := h
  exact ⟨D, h1.kept hg hne, h2⟩
theorem SetAt.drewN {w : World} {b n : Nat} {S : List ByteArray} (h : SetAt w b n S) (k : Nat) : SetAt (w.drewN k) b n S := h
theorem key_of (s : ByteArray) (hs : s.size ≤ 1000) : keyOf Tryd.prog 9 (.string s) = some (.string s.data.toList) :=
  WideMaps.keyOf_string_mk u_str (by unfold maxLen; omega)
theorem plain_bool_inv {v : Value} {d : DataW Unit} {ps : List MemPlace} (h : plainElem (H := Unit) Tryd.prog 4 v = some (d, ps)) : ∃ c, v = .bool c ∧ d = .lit (.bool c) := by
  unfold plainElem at h
  rw [u_bool] at h
  cases v <;> simp at h
  exact ⟨_, rfl, h.1.symm⟩
theorem SetAt.look {w : World} {b n : Nat} {S : List ByteArray} (h : SetAt w b n S) (s : ByteArray) (hs : s.size ≤ 1000) :
    (Instr.lookup 118 (.map (some b)) (.string s) false).run Tryd.prog w = .ok (.bool (hasB S s)) w := by
  obtain ⟨D, h1, h2⟩ := h
  obtain ⟨v, ps, hrun, hv⟩ := h1.lookup (Maps.string_keyed u_str) u_mapb (zero_bool w) (plainElem_bool u_bool false) (key_of s hs)
  obtain ⟨c, rfl, hc⟩ := plain_bool_inv hv
  rw [h2 s] at hc
  simp only [DataW.lit.injEq, Lit.bool.injEq] at hc
  rw [hrun, hc]
theorem bytes_key {s t : ByteArray} (h : s ≠ t) : Lit.string s.data.toList ≠ Lit.string t.data.toList := fun e => h (by
  simp only [Lit.string.injEq] at e
  exact ByteArray.ext (Array.ext' e))
theorem wpList_set_add (w : World) {ops : Array Oper} {rest : List Oper} {o : Oper} {a : Act} {Q : Exit → Act → World → Prop}
    (hg : o.guard = none) (m x v : Operand) (hop : o.op = Op.mapUpdate 118 m x v)
    (b n : Nat) (S : List ByteArray) (hm : a.eval m = .map (some b)) (hown : SetAt w b n S) (hn : n ≤ 1000) (s : ByteArray) (hx : a.eval x = .string s) (hv : a.eval v = .bool true) (hs : s.size ≤ 1000)
    (hK : ∀ w', SetAt w' b (n + 1) (s :: S) → w.grownBy w' (some b) → wpList Tryd.prog ops Q rest (a.put o.dst undef) w') :
    wpList Tryd.prog ops Q (o :: rest) a w := by
  obtain ⟨D, h1, h2⟩ := hown
  refine wpList_mapUpdate_own w hg m x v _ hop _ _ (Maps.string_keyed u_str) u_mapb _ b n D hm h1 (by unfold maxLen; omega) _ _ _ hx hv (key_of s hs) _ [] (plainElem_bool u_bool true) ?_
  intro w' g1 g2
  refine hK w' ⟨_, g1, fun t => ?_⟩ g2
  by_cases h : t = s
  · subst h
    rw [Maps.atKey_put_same h1.isMap (k := .string t.data.toList) (show WideAt.IsKeyLit (.string t.data.toList) from trivial), show hasB (t :: S) t = true from hasB_iff.2 (by simp)]
  · rw [Maps.atKey_put_other (bytes_key h), h2 t]
    have h3 : hasB (s :: S) t = hasB S t := by
      unfold hasB
      rw [List.any_cons, decide_eq_false (fun e => h e.symm), Bool.false_or]
    rw [h3]
end Go.Proofs.YtfhjnfocmlndpaaDoor
