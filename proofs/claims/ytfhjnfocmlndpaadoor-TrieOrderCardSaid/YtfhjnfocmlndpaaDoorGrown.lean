/- A region that draws its order, whose operations read what lay there when it began, or call what turns nothing of that: walked once; and one whose last operations stand in one forced order behind such ones. -/
import Derived.Test.YtfhjnfocmlndpaaDoorQuiet
import Derived.Test.YtfhjnfocmlndpaaDoorMem
namespace Go.Proofs.YtfhjnfocmlndpaaDoor
open Go Go.RowKit Go.Proofs

/-- the worlds in which nothing of w has turned -/
def Grown (w : World) : Type := { W : World // Below w.heap.size w W }
instance (w : World) : Nonempty (Grown w) := ⟨⟨w, Below.refl _ _⟩⟩
theorem Grown.below {w : World} (x : Grown w) : Below w.heap.size w x.val := x.property
theorem Grown.step {w w' : World} (x : Grown w) (hb : Below x.val.heap.size x.val w') : ∃ y : Grown w, w' = y.val := ⟨⟨w', x.below.trans (hb.mono x.below.size)⟩, rfl⟩
theorem Grown.call {w : World} {P : Program} {f : FuncId} {args : Array Value} {v : Value} (x : Grown w) (h : Calls P f args x.val fun e w' => e = .returned v ∧ Below x.val.heap.size x.val w') :
    Calls P f args x.val fun e w' => e = .returned v ∧ ∃ y : Grown w, w' = y.val := h.mono fun _ _ ⟨he, hb⟩ => ⟨he, x.step hb⟩
theorem Grown.same {w : World} {P : Program} {f : FuncId} {args : Array Value} {v : Value} (x : Grown w) (h : Calls P f args x.val fun e w' => e = .returned v ∧ w' = x.val) :
    Calls P f args x.val fun e w' => e = .returned v ∧ ∃ y : Grown w, w' = y.val := h.mono fun _ _ ⟨he, hb⟩ => ⟨he, x, hb⟩
theorem Grown.cell {w : World} {a : Addr} {v : Value} (h : w.cell? a = some v) (x : Grown w) : x.val.cell? a = some v := by
  rw [x.below.cell (World.block_lt_of_cell? w a h)]; exact h
section
variable {P : Program}
theorem wp_region_grown {id : Nat} {Q : Exit → Act → World → Prop} {a : Act} {w : World} {l : List Oper} (hm : P.follows .mixedOrders = true) (hB : Region.lexB .any l.toArray = true)
    (h : wpQuiet P l.toArray (fun w' => ∃ x : Grown w, w' = x.val) (fun a' => ∀ x : Grown w, Q .normal a' x.val) l a) : (Code.region id l.toArray true).wp P Q a w :=
  wp_region_quiet (C := fun w' => ∃ x : Grown w, w' = x.val) hm hB ⟨⟨{ w with drawn := w.drawn + 1 }, belowN (Below.refl _ _) 1⟩, rfl⟩ (by
    have e : (fun a' => ∀ w', (∃ x : Grown w, w' = x.val) → Q .normal a' w') = fun a' => ∀ x : Grown w, Q .normal a' x.val := by
      funext a'
      exact propext ⟨fun h x => h _ ⟨x, rfl⟩, fun h w' ⟨x, hx⟩ => hx ▸ h x⟩
    rw [e]; simpa using h)
theorem wp_region_grown_tail {id : Nat} {Q : Exit → Act → World → Prop} {a : Act} {w : World} {l : List Oper} (n : Nat) (hm : P.follows .mixedOrders = true) (hB : Region.lexTailB .any l.toArray n = true)
    (h : wpQuiet P l.toArray (fun w' => ∃ x : Grown w, w' = x.val) (fun a' => ∀ x : Grown w, wpList P l.toArray Q (l.drop n) a' x.val) (l.take n) a) : (Code.region id l.toArray true).wp P Q a w := by
  simp only [Region.lexTailB, Bool.and_eq_true, decide_eq_true_eq] at hB
  obtain ⟨⟨⟨⟨hsel, hn⟩, hs⟩, hc⟩, hlex⟩ := hB
  have hn' : n < l.length := by simpa using hn
  have htl : (l.take n).length = n := by simp; omega
  have hdl : (l.drop n).length = l.toArray.size - n := by simp
  have inv0 : HeadInv .any l.toArray n (Array.replicate l.toArray.size false) :=
    ⟨by simp, fun j oj _ hl => (by rw [getD_replicate_false] at hl; cases hl), fun t _ ht => getD_in (by simpa using ht) (getD_replicate_false _ _)⟩
  have H := wpAnyLQ_lex (md := .any) (g := l.toArray.size - n) hsel hs hc hn (l.take n) 0 _ a (fun j hj => by
    have hj' : j < n := by rw [htl] at hj; exact hj
    simp [hj']) (by simpa using htl) inv0 (by rw [htl]; exact hlex) h
  refine wp_region_any hm ?_
  have := wpAny_of_headQ (Q' := Q) (g := l.toArray.size - n) (C := fun w' => ∃ x : Grown w, w' = x.val) (fun listed a' w' hw' hL => by
    obtain ⟨x, rfl⟩ := hw'
    have := wpAny_of_seq (md := .any) (Q' := Q) (l.drop n) n listed a' x.val (fun j => by simp [List.getElem?_drop]) (by rw [hdl]; exact hL.1) (hL.2 x)
    rwa [hdl] at this) _ _ _ { w with drawn := w.drawn + 1 } ⟨⟨{ w with drawn := w.drawn + 1 }, belowN (Below.refl _ _) 1⟩, rfl⟩ H
  rw [htl, show n + (l.toArray.size - n) = l.toArray.size by omega] at this
  exact this
end
end Go.Proofs.YtfhjnfocmlndpaaDoor
