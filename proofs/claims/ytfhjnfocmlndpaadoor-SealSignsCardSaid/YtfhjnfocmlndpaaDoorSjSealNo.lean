/- seal.New at a seed that is none. -/
import Derived.Test.YtfhjnfocmlndpaaDoorSjSealP
import Derived.Test.YtfhjnfocmlndpaaDoorSjPRight
import Derived.Test.YtfhjnfocmlndpaaDoorSjChunk
import Derived.Test.YtfhjnfocmlndpaaDoorSjTakeP
namespace Go.Proofs.YtfhjnfocmlndpaaDoor
open Go Go.RowKit Go.Proofs Go.Shelf
attribute [local go_sem] Oper.semAt_some

/-! ### the rows -/
def leafR (seed : ByteArray) (n : Nat) : List ByteArray := (List.range n).map fun k : Nat => keyT (k : Int) (pubS seed (k : Int))
def pairR (l : List ByteArray) (j : Nat) : ByteArray := upM (l[2 * j]?.getD ⟨#[]⟩) (l[2 * j + 1]?.getD ⟨#[]⟩)
def upR (l : List ByteArray) : List ByteArray := (List.range (l.length / 2)).map (pairR l)
def rowR (seed : ByteArray) : Nat → List ByteArray
  | 0 => leafR seed 8
  | i + 1 => upR (rowR seed i)
theorem leafR_succ (seed : ByteArray) (n : Nat) : leafR seed (n + 1) = leafR seed n ++ [keyT n (pubS seed n)] := by simp [leafR, List.range_succ]
theorem rowR_length (seed : ByteArray) : (rowR seed 0).length = 8 ∧ (rowR seed 1).length = 4 ∧ (rowR seed 2).length = 2 ∧ (rowR seed 3).length = 1 := by
  have h0 : (rowR seed 0).length = 8 := by simp [rowR, leafR]
  have h1 : (rowR seed 1).length = 4 := by simp [rowR, leafR, upR]
  have h2 : (rowR seed 2).length = 2 := by simp [rowR, leafR, upR]
  exact ⟨h0, h1, h2, by simp [rowR, leafR, upR]⟩
theorem upR_size (l : List ByteArray) : ∀ x ∈ upR l, x.size = 16 := by
  intro x hx
  unfold upR at hx
  rw [List.mem_map] at hx
  obtain ⟨j, _, rfl⟩ := hx
  exact upM_size _ _
theorem rowR_size (seed : ByteArray) : ∀ i, ∀ x ∈ rowR seed i, x.size = 16
  | 0 => fun x hx => by
    unfold rowR leafR at hx
    rw [List.mem_map] at hx
    obtain ⟨j, _, rfl⟩ := hx
    exact keyT_size _ _
  | i + 1 => upR_size _
theorem i_texts : (Tryd.prog.info? 22).map (fun i => (i.zero, i.size, i.bytes)) = some (some (.slice none 0 0), 1, 24) := by kernel_rfl
theorem u_textss : Tryd.prog.underlying 44 = some (.slice 22) := by kernel_rfl

/-- the program's box at row B, as seal.New leaves it -/
def BoxP (w : World) (B : Nat) (seed : ByteArray) : Prop :=
  w.cell? ⟨B, 0, none⟩ = some (.string seed) ∧ ∃ g cap, 4 ≤ cap ∧ w.cell? ⟨B, 1, none⟩ = some (.slice (some ⟨g, 0, none⟩) 4 cap) ∧ ∀ i, i < 4 → ∃ v, w.cell? ⟨g, i, none⟩ = some v ∧ Reads w v (rowR seed i).length 1 ((rowR seed i).map Value.string)
def BoxPost (seed : ByteArray) (w : World) (e : Ending) (w' : World) : Prop := ∃ B, e = .returned (.tuple #[.pointer (some ⟨B, 0, none⟩), .nilIface]) ∧ BoxP w' B seed ∧ Below w.heap.size w w'
/-- a cell that nothing froze -/
structure CellO (w : World) (b o : Nat) (v : Value) : Prop where
  c : w.cell? ⟨b, o, none⟩ = some v
  f : w.frozen? ⟨b, o, none⟩ = false
theorem CellO.lt {w : World} {b o : Nat} {v : Value} (h : CellO w b o v) : b < w.heap.size := World.block_lt_of_cell? w ⟨b, o, none⟩ h.c
theorem CellO.grown {w w' : World} {b o : Nat} {v : Value} (h : CellO w b o v) {row : Option Nat} (hg : w.grownBy w' row) (hne : row ≠ some b) : CellO w' b o v := by
  have hb : w'.heap[b]? = w.heap[b]? := hg.block b h.lt (fun e => hne e.symm)
  exact ⟨by rw [World.cell?_of_block (a := ⟨b, o, none⟩) hb]; exact h.c, by have := h.f; unfold World.frozen? at this ⊢; rw [hb]; exact this⟩
theorem CellO.mono {w w' : World} {b o : Nat} {v : Value} (h : CellO w b o v) {N : Nat} (hb : Below N w w') (hN : b < N) : CellO w' b o v :=
  ⟨by rw [hb.cell (by exact hN)]; exact h.c, by have := h.f; unfold World.frozen? at this ⊢; rw [hb.block b hN]; exact this⟩
theorem CellO.other {w : World} {b o b' o' : Nat} {v : Value} (h : CellO w b o v) (u : Value) (hne : b ≠ b' ∨ o ≠ o') : CellO (w.setCell ⟨b', o', none⟩ u) b o v :=
  ⟨by rw [World.cell?_setCell_other _ _ _ _ (by intro e; simp only [Addr.mk.injEq] at e; omega)]; exact h.c, by rw [World.frozen?_setCell]; exact h.f⟩
theorem CellO.same {w : World} {b o : Nat} {v : Value} (h : CellO w b o v) (u : Value) : CellO (w.setCell ⟨b, o, none⟩ u) b o u :=
  ⟨World.cell?_setCell_same _ _ _ h.c, by rw [World.frozen?_setCell]; exact h.f⟩
theorem CellO.new0 (w : World) (v u : Value) (T : TypeId) : CellO (w.alloc (.cells #[v, u] T)) w.heap.size 0 v ∧ CellO (w.alloc (.cells #[v, u] T)) w.heap.size 1 u :=
  ⟨⟨by rw [cell_of_row _ _ _ _ _ _ (heap_alloc_new _ _)]; rfl, by have h := heap_alloc_new w (.cells #[v, u] T); unfold World.frozen?; rw [h]; rfl⟩,
   ⟨by rw [cell_of_row _ _ _ _ _ _ (heap_alloc_new _ _)]; rfl, by have h := heap_alloc_new w (.cells #[v, u] T); unfold World.frozen?; rw [h]; rfl⟩⟩
theorem CellO.new1 (w : World) (v : Value) (T : TypeId) : CellO (w.alloc (.cells #[v] T)) w.heap.size 0 v :=
  ⟨by rw [cell_of_row _ _ _ _ _ _ (heap_alloc_new _ _)]; rfl, by have h := heap_alloc_new w (.cells #[v] T); unfold World.frozen?; rw [h]; rfl⟩
theorem own_stays {w w' : World} {base : Nat} {e : TypeId} {size : Nat} {v : Value} {n : Nat} {xs : List Value} (h : Own w base e size v n xs) {row : Option Nat} (hg : w.grownBy w' row) (hr : ∀ r, row = some r → ∃ o : Obj, w.heap[r]? = some o ∧ o.isCells = false) : Own w' base e size v n xs := by
  refine h.kept hg ?_
  rcases h.2 with ⟨rfl, _⟩ | ⟨g, cap, cur, fr, rfl, _, hh, _⟩
  · exact .inl rfl
  · refine .inr fun e => ?_
    obtain ⟨o, ho, hc⟩ := hr g e.symm
    rw [hh] at ho
    cases ho
    cases hc
theorem own_cells {w : World} {base : Nat} {e : TypeId} {size : Nat} {v : Value} {n : Nat} {xs : List Value} (h : Own w base e size v n xs) : ∀ r (o : Obj), v.ownBlock = some r → w.heap[r]? = some o → o.isCells = true := by
  intro r o hr ho
  rcases h.2 with ⟨rfl, _⟩ | ⟨g, cap, cur, fr, rfl, _, hh, _⟩
  · cases hr
  · cases hr
    rw [hh] at ho
    cases ho
    rfl
theorem keeps_grown {w w' : World} {row : Option Nat} (hg : w.grownBy w' row) (hr : ∀ r (o : Obj), row = some r → w.heap[r]? = some o → o.isCells = true) : KeepsOthers w w' :=
  ⟨hg.size, fun k o hk ho => (hg.block k (Array.getElem?_eq_some_iff.1 hk).1 (fun e => by rw [hr k o e.symm hk] at ho; cases ho)).trans hk⟩
def finOf (m : Nat) (h0 : 0 < m) (j : Nat) : {j : Nat // j < m} := if h : j < m then ⟨j, h⟩ else ⟨0, h0⟩
theorem finOf_is {m : Nat} (h0 : 0 < m) {j : Nat} (h : j < m) : (finOf m h0 j).val = j := by unfold finOf; rw [dif_pos h]
theorem upto_pairs {R : List ByteArray} {m : Nat} (h0 : 0 < m) (hR : R.length = 2 * m) : (upto (finOf m h0) m).map (fun x => pairR R x.val) = upR R := by
  unfold upto upR
  rw [List.map_map, hR, Nat.mul_div_cancel_left _ (by decide)]
  apply List.map_congr_left
  intro j hj
  simp only [Function.comp, finOf_is h0 (List.mem_range.1 hj)]
/-- what holds in the rounds of the range over the pairs of a row -/
def RowIn (Wb : World) (N Bu Bs Bn : Nat) (R : List ByteArray) (sv : Value) {m : Nat} (pre : List {j : Nat // j < m}) (W : World) : Prop :=
  (∃ uv, CellO W Bu 0 uv ∧ Own W N 9 1 uv pre.length (strV (pre.map fun x => pairR R x.val)) ∧ uv.ownBlock ≠ some Bu ∧ uv.ownBlock ≠ some Bs ∧ uv.ownBlock ≠ some Bn) ∧ W.cell? ⟨Bs, 0, none⟩ = some sv ∧ W.cell? ⟨Bn, 0, none⟩ = some (.int .i64 2)
theorem rowIn_from (Wb : World) (N Bu Bs Bn : Nat) (R : List ByteArray) (sv : Value) (m B : Nat) : OwnFrom B (RowIn Wb N Bu Bs Bn R sv (m := m)) :=
  Own.from (fun s A C row hs hg hr => by
    obtain ⟨⟨uv, h1, h2, h3⟩, h4, h5⟩ := hs
    exact ⟨⟨uv, ⟨cell_kept h1.c hg hr, (frozen_kept h1.c hg hr).trans h1.f⟩, own_stays h2 hg hr, h3⟩, cell_kept h4 hg hr, cell_kept h5 hg hr⟩) B
theorem own_weaken {w : World} {base base' : Nat} {e : TypeId} {size : Nat} {v : Value} {n : Nat} {xs : List Value} (h : Own w base e size v n xs) (hb : base' ≤ base) : Own w base' e size v n xs := by
  refine ⟨h.1, h.2.imp id ?_⟩
  rintro ⟨g, cap, cur, fr, h1, h2, h3⟩
  exact ⟨g, cap, cur, fr, h1, Nat.le_trans hb h2, h3⟩
/-- the box while seal.New fills it: rv holds i rows -/
structure BoxSt (w W : World) (B : Nat) (seed : ByteArray) (rv : Value) (i : Nat) (vals : List Value) : Prop where
  cs : CellO W B 0 (.string seed)
  cr : CellO W B 1 rv
  own : Own W w.heap.size 22 1 rv i vals
  ne : rv.ownBlock ≠ some B
  hB : w.heap.size ≤ B
  below : Below w.heap.size w W
theorem BoxSt.mono {w W W' : World} {B : Nat} {seed : ByteArray} {rv : Value} {i : Nat} {vals : List Value} (h : BoxSt w W B seed rv i vals) (hb : Below W.heap.size W W') : BoxSt w W' B seed rv i vals :=
  ⟨h.cs.mono hb h.cs.lt, h.cr.mono hb h.cr.lt, h.own.below hb (fun j hj => (h.own.lt j hj).2), h.ne, h.hB, h.below.trans (hb.mono h.below.size)⟩
theorem BoxSt.push {w W Wa : World} {B : Nat} {seed : ByteArray} {rv rv' v : Value} {i : Nat} {vals : List Value} (h : BoxSt w W B seed rv i vals) (hG : W.grownBy Wa rv.ownBlock) (hO : Own Wa w.heap.size 22 1 rv' (i + 1) (vals ++ [v]))
    (hob : ∀ k, rv'.ownBlock = some k → rv.ownBlock = some k ∨ W.heap.size ≤ k) : BoxSt w (Wa.setCell ⟨B, 1, none⟩ rv') B seed rv' (i + 1) (vals ++ [v]) := by
  have hlt := h.cs.lt
  have hne : rv'.ownBlock ≠ some B := fun e => by
    rcases hob B e with h1 | h1
    · exact h.ne h1
    · omega
  exact ⟨(h.cs.grown hG h.ne).other _ (.inr (by decide)), (h.cr.grown hG h.ne).same _, hO.kept (grownBy_setCell Wa B 1 rv') (.inr hne), hne, h.hB, below_set (h.below.grown hG h.below.size (fun j hj => (h.own.lt j hj).1)) h.hB _⟩
/-- a row of marks that stays while the box is filled -/
structure RowSt (w W : World) (B : Nat) (rv v : Value) (R : List ByteArray) : Prop where
  own : Own W w.heap.size 9 1 v R.length (strV R)
  nB : v.ownBlock ≠ some B
  nr : v.ownBlock = none ∨ v.ownBlock ≠ rv.ownBlock
theorem RowSt.mono {w W W' : World} {B : Nat} {rv v : Value} {R : List ByteArray} (h : RowSt w W B rv v R) (hb : Below W.heap.size W W') : RowSt w W' B rv v R :=
  ⟨h.own.below hb (fun j hj => (h.own.lt j hj).2), h.nB, h.nr⟩
theorem RowSt.push {w W Wa : World} {B : Nat} {rv rv' v : Value} {R : List ByteArray} (h : RowSt w W B rv v R) (hG : W.grownBy Wa rv.ownBlock) (hob : ∀ k, rv'.ownBlock = some k → rv.ownBlock = some k ∨ W.heap.size ≤ k) : RowSt w (Wa.setCell ⟨B, 1, none⟩ rv') B rv' v R := by
  refine ⟨(h.own.kept hG h.nr).kept (grownBy_setCell Wa B 1 rv') (.inr h.nB), h.nB, ?_⟩
  cases hv : v.ownBlock with
  | none => exact .inl rfl
  | some k =>
    refine .inr fun e => ?_
    rcases hob k e.symm with h1 | h1
    · rcases h.nr with h2 | h2
      · rw [hv] at h2; cases h2
      · exact h2 (hv.trans h1.symm)
    · have := (h.own.lt k hv).2
      omega
theorem BoxSt.put {w W : World} {B : Nat} {seed : ByteArray} {rv : Value} {i : Nat} {vals : List Value} (h : BoxSt w W B seed rv i vals) {D : Nat} (hD : W.heap[D]? = some (.deferred (some []))) (hw : w.heap.size ≤ D) (o : Obj) : BoxSt w (W.putObj D o) B seed rv i vals := by
  have hg := grownBy_putObj' W D o
  have hr : ∀ r, some D = some r → ∃ o : Obj, W.heap[r]? = some o ∧ o.isCells = false := fun r e => by cases e; exact ⟨_, hD, rfl⟩
  exact ⟨⟨cell_kept h.cs.c hg hr, (frozen_kept h.cs.c hg hr).trans h.cs.f⟩, ⟨cell_kept h.cr.c hg hr, (frozen_kept h.cr.c hg hr).trans h.cr.f⟩, own_stays h.own hg hr, h.ne, h.hB, h.below.grown hg h.below.size (fun k e => by cases e; exact hw)⟩
theorem RowSt.put {w W : World} {B : Nat} {rv v : Value} {R : List ByteArray} (h : RowSt w W B rv v R) {D : Nat} (hD : W.heap[D]? = some (.deferred (some []))) (o : Obj) : RowSt w (W.putObj D o) B rv v R := by
  have hg := grownBy_putObj' W D o
  have hr : ∀ r, some D = some r → ∃ o : Obj, W.heap[r]? = some o ∧ o.isCells = false := fun r e => by cases e; exact ⟨_, hD, rfl⟩
  exact ⟨own_stays h.own hg hr, h.nB, h.nr⟩
theorem BoxP.of {w W : World} {B g k : Nat} {seed : ByteArray} {v0 v1 v2 v3 : Value} (hS : BoxSt w W B seed (.slice (some ⟨g, 0, none⟩) 4 k) 4 [v0, v1, v2, v3])
    (h0 : RowSt w W B (.slice (some ⟨g, 0, none⟩) 4 k) v0 (rowR seed 0)) (h1 : RowSt w W B (.slice (some ⟨g, 0, none⟩) 4 k) v1 (rowR seed 1)) (h2 : RowSt w W B (.slice (some ⟨g, 0, none⟩) 4 k) v2 (rowR seed 2)) (h3 : RowSt w W B (.slice (some ⟨g, 0, none⟩) 4 k) v3 (rowR seed 3)) : BoxP W B seed := by
  obtain ⟨g', k', he, -, -, hcap, -⟩ := hS.own.some_ (by decide)
  simp only [Value.slice.injEq, true_and] at he
  refine ⟨hS.cs.c, g, k, by rw [he.2]; exact hcap, hS.cr.c, fun i hi => ?_⟩
  rcases (by omega : i = 0 ∨ i = 1 ∨ i = 2 ∨ i = 3) with rfl | rfl | rfl | rfl
  · exact ⟨v0, hS.own.cell (g := g) rfl rfl, Reads.of_own h0.own⟩
  · exact ⟨v1, hS.own.cell (g := g) rfl rfl, Reads.of_own h1.own⟩
  · exact ⟨v2, hS.own.cell (g := g) rfl rfl, Reads.of_own h2.own⟩
  · exact ⟨v3, hS.own.cell (g := g) rfl rfl, Reads.of_own h3.own⟩
end Go.Proofs.YtfhjnfocmlndpaaDoor

namespace Go.Proofs.YtfhjnfocmlndpaaDoor
open Go Go.RowKit Go.Proofs Go.Shelf

set_option maxRecDepth 100000 in
set_option maxHeartbeats 2000000 in
theorem new_no (seed : ByteArray) (w : World) (h16 : seed.size ≠ 16) : Calls Tryd.prog 52 #[.string seed] w fun e w' => e = .returned (.tuple #[.pointer none, .iface 31 (.int .i64 1)]) ∧ Below w.heap.size w w' := by
  have HP := Lib.hid (fun W => public_no seed 0 W h16)
  clear h16
  go_enter Tryd.func52, Tryd.ntmps52
  go_wp2_with fail
  refine wp_loop_rounds 1 ?_
  rw [rounds_succ]
  go_wp2_with (go_at_call 25; refine (HP.out _).mono ?_; rintro e w1 ⟨rfl, hw⟩)
  go_ret2
  exact ⟨rfl, by first | (rw [hw]; exact Below.refl _ _) | (rw [← hw]; exact Below.refl _ _)⟩
end Go.Proofs.YtfhjnfocmlndpaaDoor
