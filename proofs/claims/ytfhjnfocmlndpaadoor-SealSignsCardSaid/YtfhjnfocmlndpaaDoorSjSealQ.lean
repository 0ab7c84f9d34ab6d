/- What a seal's path is, plain; how the two boxes are read; what holds while the path is filled. -/
import Derived.Test.YtfhjnfocmlndpaaDoorSjSealNo
import Derived.Test.YtfhjnfocmlndpaaDoorSjNext
namespace Go.Proofs.YtfhjnfocmlndpaaDoor
open Go Go.RowKit Go.Proofs Go.Shelf

/-- the reference's box at row B, as NewBox leaves it: fifteen marks, row behind row -/
def nodesR (seed : ByteArray) : List ByteArray := rowR seed 0 ++ (rowR seed 1 ++ (rowR seed 2 ++ rowR seed 3))
theorem nodesR_length (seed : ByteArray) : (nodesR seed).length = 15 := by
  obtain ⟨h0, h1, h2, h3⟩ := rowR_length seed
  unfold nodesR
  rw [List.length_append, List.length_append, List.length_append]
  omega
def BoxR (w : World) (B : Nat) (seed : ByteArray) : Prop :=
  w.cell? ⟨B, 0, none⟩ = some (.string seed) ∧ ∃ v, w.cell? ⟨B, 1, none⟩ = some v ∧ Reads w v 15 1 ((nodesR seed).map Value.string)
theorem nodesR_top (seed : ByteArray) : (nodesR seed)[14]? = (rowR seed 3)[0]? := by
  obtain ⟨h0, h1, h2, h3⟩ := rowR_length seed
  unfold nodesR
  rw [List.getElem?_append_right (by omega), List.getElem?_append_right (by omega), List.getElem?_append_right (by omega)]
  congr 1
  omega
set_option maxRecDepth 100000 in
set_option maxHeartbeats 2000000 in
theorem rboxPublic_any (B : Nat) (seed : ByteArray) (w : World) (h : BoxR w B seed) : Calls Tryd.prog 54 #[.pointer (some ⟨B, 0, none⟩)] w fun e w' => e = .returned (.string ((rowR seed 3)[0]?.getD ⟨#[]⟩)) ∧ w' = w := by
  obtain ⟨h0, v, h3, hR⟩ := h
  rw [← nodesR_length seed] at hR
  obtain ⟨a, c, rfl, hat⟩ := hR.shape
  obtain ⟨p, hp⟩ : ∃ p, (nodesR seed)[14]? = some p := ⟨_, List.getElem?_eq_getElem (by rw [nodesR_length]; decide)⟩
  have ht : Hid ((rowR seed 3)[0]?.getD ⟨#[]⟩ = p) := by unfold Hid; rw [← nodesR_top, hp]; rfl
  obtain ⟨b, off, rfl, h4⟩ := hat 14 p hp
  rw [nodesR_length] at h3
  rw [ht.out]
  clear hR hp hat h0
  go_enter Tryd.func54, Tryd.ntmps54
  go_wp2_with fail
  go_ret
  exact ⟨rfl, rfl⟩
end Go.Proofs.YtfhjnfocmlndpaaDoor

namespace Go.Proofs.YtfhjnfocmlndpaaDoor
open Go Go.RowKit Go.Proofs Go.Shelf

/-- the public mark of a seed's box -/
def topR (seed : ByteArray) : ByteArray := (rowR seed 3)[0]?.getD ⟨#[]⟩
set_option maxRecDepth 100000 in
set_option maxHeartbeats 2000000 in
theorem boxPublic_any (B : Nat) (seed : ByteArray) (w : World) (h : BoxP w B seed) : Calls Tryd.prog 53 #[.pointer (some ⟨B, 0, none⟩)] w fun e w' => e = .returned (.string (topR seed)) ∧ Below w.heap.size w w' := by
  obtain ⟨h0, g, cap, -, h1, h2⟩ := h
  obtain ⟨v, h3, hR⟩ := h2 3 (by decide)
  obtain ⟨-, -, -, hl⟩ := rowR_length seed
  obtain ⟨a, c, rfl, hat⟩ := hR.shape
  obtain ⟨p, hp⟩ : ∃ p, (rowR seed 3)[0]? = some p := ⟨_, List.getElem?_eq_getElem (by omega)⟩
  have ht : Hid (topR seed = p) := by unfold Hid topR; rw [hp]; rfl
  obtain ⟨b, off, rfl, h4⟩ := hat 0 p hp
  rw [hl] at h3
  rw [Nat.add_zero] at h4
  rw [ht.out]
  clear hR hp hat h2 hl h0
  have e1 : (g : Nat) < w.heap.size := World.block_lt_of_cell? w ⟨g, 3, none⟩ h3
  go_enter Tryd.func53, Tryd.ntmps53
  go_wp2_with fail
  go_quiet (fail)
  go_wp2_with fail
  go_ret
  exact ⟨rfl, belowN (Below.refl _ _) _⟩
end Go.Proofs.YtfhjnfocmlndpaaDoor

namespace Go.Proofs.YtfhjnfocmlndpaaDoor
open Go Go.RowKit Go.Proofs Go.Shelf

def sibN (k : Nat) : Nat := if k % 2 = 0 then k + 1 else k - 1
def sibR (seed : ByteArray) (i k : Nat) : ByteArray := (rowR seed i)[sibN k]?.getD ⟨#[]⟩
def pathR (seed : ByteArray) (k : Nat) : List ByteArray := [sibR seed 0 k, sibR seed 1 (k / 2), sibR seed 2 (k / 4)]
theorem pathR_is {seed p0 p1 p2 : ByteArray} {k s0 s1 s2 : Nat} (e0 : sibN k = s0) (e1 : sibN (k / 2) = s1) (e2 : sibN (k / 4) = s2) (h0 : (rowR seed 0)[s0]? = some p0) (h1 : (rowR seed 1)[s1]? = some p1) (h2 : (rowR seed 2)[s2]? = some p2) : pathR seed k = [p0, p1, p2] := by
  unfold pathR sibR
  rw [e0, e1, e2, h0, h1, h2]
  rfl
def SgPost (seed m : ByteArray) (k : Nat) (w : World) (e : Ending) (w' : World) : Prop :=
  ∃ sv pv, e = .returned (.tuple #[.agg #[.int .i64 (k : Int), sv, pv], .nilIface]) ∧ Reads w' sv 35 1 (strV (signL seed k m 35)) ∧ Reads w' pv 3 1 (strV (pathR seed k)) ∧ Below w.heap.size w w'
theorem BoxP.mono {w W : World} {B : Nat} {seed : ByteArray} (h : BoxP w B seed) (hW : Below w.heap.size w W) : BoxP W B seed := by
  obtain ⟨hs, g, cap, hcap, hr, hat⟩ := h
  have t : ∀ (b i : Nat) (v : Value), w.cell? ⟨b, i, none⟩ = some v → W.cell? ⟨b, i, none⟩ = some v := fun b i v hc => (hW.cell (p := ⟨b, i, none⟩) (World.block_lt_of_cell? w _ hc)).trans hc
  refine ⟨t _ _ _ hs, g, cap, hcap, t _ _ _ hr, fun i hi => ?_⟩
  obtain ⟨v, hv, hR⟩ := hat i hi
  exact ⟨v, t _ _ _ hv, hR.mono hW⟩
theorem BoxR.mono {w W : World} {B : Nat} {seed : ByteArray} (h : BoxR w B seed) (hW : Below w.heap.size w W) : BoxR W B seed := by
  obtain ⟨hs, v, hv, hR⟩ := h
  have t : ∀ (b i : Nat) (v : Value), w.cell? ⟨b, i, none⟩ = some v → W.cell? ⟨b, i, none⟩ = some v := fun b i v hc => (hW.cell (p := ⟨b, i, none⟩) (World.block_lt_of_cell? w _ hc)).trans hc
  exact ⟨t _ _ _ hs, v, t _ _ _ hv, hR.mono hW⟩
/-- the program's box as Sign reads it, in any later world -/
theorem BoxP.reads {w : World} {B : Nat} {seed : ByteArray} (h : BoxP w B seed) {s0 s1 s2 : Nat} {p0 p1 p2 : ByteArray} (h0 : (rowR seed 0)[s0]? = some p0) (h1 : (rowR seed 1)[s1]? = some p1) (h2 : (rowR seed 2)[s2]? = some p2) :
    ∃ (g cap : Nat) (a0 o0 c0 a1 o1 c1 a2 o2 c2 : Nat), 4 ≤ cap ∧ Hid (∀ W, Below w.heap.size w W → W.cell? ⟨B, 0, none⟩ = some (.string seed) ∧ W.cell? ⟨B, 1, none⟩ = some (.slice (some ⟨g, 0, none⟩) 4 cap) ∧
      W.cell? ⟨g, 0, none⟩ = some (.slice (some ⟨a0, o0, none⟩) 8 c0) ∧ W.cell? ⟨g, 1, none⟩ = some (.slice (some ⟨a1, o1, none⟩) 4 c1) ∧ W.cell? ⟨g, 2, none⟩ = some (.slice (some ⟨a2, o2, none⟩) 2 c2) ∧
      W.cell? ⟨a0, o0 + s0, none⟩ = some (.string p0) ∧ W.cell? ⟨a1, o1 + s1, none⟩ = some (.string p1) ∧ W.cell? ⟨a2, o2 + s2, none⟩ = some (.string p2)) := by
  obtain ⟨hs, g, cap, hcap, hr, hat⟩ := h
  obtain ⟨l0, l1, l2, -⟩ := rowR_length seed
  obtain ⟨v0, hv0, hR0⟩ := hat 0 (by decide)
  obtain ⟨v1, hv1, hR1⟩ := hat 1 (by decide)
  obtain ⟨v2, hv2, hR2⟩ := hat 2 (by decide)
  obtain ⟨x0, c0, rfl, q0⟩ := hR0.shape
  obtain ⟨x1, c1, rfl, q1⟩ := hR1.shape
  obtain ⟨x2, c2, rfl, q2⟩ := hR2.shape
  obtain ⟨a0, o0, rfl, y0⟩ := q0 s0 p0 h0
  obtain ⟨a1, o1, rfl, y1⟩ := q1 s1 p1 h1
  obtain ⟨a2, o2, rfl, y2⟩ := q2 s2 p2 h2
  rw [l0] at hv0
  rw [l1] at hv1
  rw [l2] at hv2
  refine ⟨g, cap, a0, o0, c0, a1, o1, c1, a2, o2, c2, hcap, fun W hW => ?_⟩
  have t : ∀ (b i : Nat) (v : Value), w.cell? ⟨b, i, none⟩ = some v → W.cell? ⟨b, i, none⟩ = some v := fun b i v hc => (hW.cell (p := ⟨b, i, none⟩) (World.block_lt_of_cell? w _ hc)).trans hc
  exact ⟨t _ _ _ hs, t _ _ _ hr, t _ _ _ hv0, t _ _ _ hv1, t _ _ _ hv2, t _ _ _ y0, t _ _ _ y1, t _ _ _ y2⟩
/-- the reference's box as SealSign reads it -/
theorem BoxR.reads {w : World} {B : Nat} {seed : ByteArray} (h : BoxR w B seed) {s0 s1 s2 : Nat} {p0 p1 p2 : ByteArray} (h0 : (rowR seed 0)[s0]? = some p0) (h1 : (rowR seed 1)[s1]? = some p1) (h2 : (rowR seed 2)[s2]? = some p2) :
    ∃ (a o c : Nat), Hid (∀ W, Below w.heap.size w W → W.cell? ⟨B, 0, none⟩ = some (.string seed) ∧ W.cell? ⟨B, 1, none⟩ = some (.slice (some ⟨a, o, none⟩) 15 c) ∧
      W.cell? ⟨a, o + s0, none⟩ = some (.string p0) ∧ W.cell? ⟨a, o + (8 + s1), none⟩ = some (.string p1) ∧ W.cell? ⟨a, o + (12 + s2), none⟩ = some (.string p2)) := by
  obtain ⟨hs, v, hv, hR⟩ := h
  obtain ⟨l0, l1, l2, -⟩ := rowR_length seed
  have b0 : s0 < 8 := by rw [← l0]; exact (List.getElem?_eq_some_iff.1 h0).1
  have b1 : s1 < 4 := by rw [← l1]; exact (List.getElem?_eq_some_iff.1 h1).1
  have b2 : s2 < 2 := by rw [← l2]; exact (List.getElem?_eq_some_iff.1 h2).1
  have n0 : (nodesR seed)[s0]? = some p0 := by unfold nodesR; rw [List.getElem?_append_left (by omega)]; exact h0
  have n1 : (nodesR seed)[8 + s1]? = some p1 := by
    unfold nodesR
    rw [List.getElem?_append_right (by omega), List.getElem?_append_left (by omega), l0, Nat.add_sub_cancel_left]
    exact h1
  have n2 : (nodesR seed)[12 + s2]? = some p2 := by
    unfold nodesR
    rw [List.getElem?_append_right (by omega), List.getElem?_append_right (by omega), List.getElem?_append_left (by omega), l0, l1, show 12 + s2 - 8 - 4 = s2 by omega]
    exact h2
  rw [← nodesR_length seed] at hR
  obtain ⟨x, c, rfl, q⟩ := hR.shape
  rw [nodesR_length] at hv
  obtain ⟨a, o, rfl, y0⟩ := q _ _ n0
  obtain ⟨a', o', e, y1⟩ := q _ _ n1
  obtain ⟨rfl, rfl⟩ : a = a' ∧ o = o' := by simpa using e
  obtain ⟨a', o', e, y2⟩ := q _ _ n2
  obtain ⟨rfl, rfl⟩ : a = a' ∧ o = o' := by simpa using e
  refine ⟨a, o, c, fun W hW => ?_⟩
  have t : ∀ (b i : Nat) (v : Value), w.cell? ⟨b, i, none⟩ = some v → W.cell? ⟨b, i, none⟩ = some v := fun b i v hc => (hW.cell (p := ⟨b, i, none⟩) (World.block_lt_of_cell? w _ hc)).trans hc
  exact ⟨t _ _ _ hs, t _ _ _ hv, t _ _ _ y0, t _ _ _ y1, t _ _ _ y2⟩

theorem Row3.grow {w w' : World} {b : Nat} {x y z : Value} (h : Row3 w b x y z) {row : Option Nat} (hg : w.grownBy w' row) (hne : row ≠ some b) : Row3 w' b x y z := by
  have hlt : b < w.heap.size := World.block_lt_of_cell? w ⟨b, 0, none⟩ h.c0
  have hb : w'.heap[b]? = w.heap[b]? := hg.block b hlt (fun e => hne e.symm)
  have hf : ∀ i, w'.frozen? ⟨b, i, none⟩ = w.frozen? ⟨b, i, none⟩ := fun i => by unfold World.frozen?; rw [hb]
  have hc : ∀ i, w'.cell? ⟨b, i, none⟩ = w.cell? ⟨b, i, none⟩ := fun i => World.cell?_of_block (a := ⟨b, i, none⟩) hb
  exact ⟨by rw [hc]; exact h.c0, by rw [hc]; exact h.c1, by rw [hc]; exact h.c2, by rw [hf]; exact h.f0, by rw [hf]; exact h.f1, by rw [hf]; exact h.f2⟩
/-- while the path is filled: the result's row R, the seal's row T (behind R), the path that is there -/
structure SgSt (w w1 W : World) (T : Nat) (c : Int) (sv pv : Value) (xs : List ByteArray) : Prop where
  res : Row3 W w.heap.size (.int .i64 0) (.slice none 0 0) (.slice none 0 0)
  row : Row3 W T (.int .i64 c) sv pv
  own : Own W (T + 1) 9 1 pv xs.length (strV xs)
  hT : T = w1.heap.size
  low : w.heap.size < T
  base : Below w.heap.size w w1
  below : Below w1.heap.size w1 W
theorem SgSt.ne {w w1 W : World} {T : Nat} {c : Int} {sv pv : Value} {xs : List ByteArray} (h : SgSt w w1 W T c sv pv xs) {b : Nat} (hb : b ≤ T) : pv.ownBlock ≠ some b := fun e => by have := (h.own.lt _ e).1; omega
theorem SgSt.size {w w1 W : World} {T : Nat} {c : Int} {sv pv : Value} {xs : List ByteArray} (h : SgSt w w1 W T c sv pv xs) : T + 1 ≤ W.heap.size := World.block_lt_of_cell? W ⟨T, 0, none⟩ h.row.c0
theorem SgSt.belowW {w w1 W : World} {T : Nat} {c : Int} {sv pv : Value} {xs : List ByteArray} (h : SgSt w w1 W T c sv pv xs) : Below w.heap.size w W := h.base.trans (h.below.mono h.base.size)
theorem SgSt.drewN {w w1 W : World} {T : Nat} {c : Int} {sv pv : Value} {xs : List ByteArray} (h : SgSt w w1 W T c sv pv xs) (k : Nat) : SgSt w w1 (W.drewN k) T c sv pv xs :=
  ⟨h.res.mono (belowN (Below.refl _ _) k), h.row.mono (belowN (Below.refl _ _) k), h.own.drewN k, h.hT, h.low, h.base, belowN h.below k⟩
theorem SgSt.drew {w w1 W : World} {T : Nat} {c : Int} {sv pv : Value} {xs : List ByteArray} (h : SgSt w w1 W T c sv pv xs) : SgSt w w1 W.drew T c sv pv xs :=
  ⟨h.res.mono (Below.refl _ _).drew, h.row.mono (Below.refl _ _).drew, h.own.drew, h.hT, h.low, h.base, h.below.drew⟩
theorem SgSt.push {w w1 W Wa : World} {T : Nat} {c : Int} {sv pv pv' : Value} {xs : List ByteArray} {p : ByteArray} (h : SgSt w w1 W T c sv pv xs) (hg : W.grownBy Wa pv.ownBlock) (hO : Own Wa (T + 1) 9 1 pv' (xs.length + 1) (strV xs ++ [.string p])) :
    SgSt w w1 (Wa.setCell ⟨T, 2, none⟩ pv') T c sv pv' (xs ++ [p]) := by
  have hl := h.low
  have hT := h.hT
  have hne : pv'.ownBlock = none ∨ pv'.ownBlock ≠ some T := by
    cases hv : pv'.ownBlock with
    | none => exact .inl rfl
    | some k => exact .inr fun e => by have := (hO.lt k hv).1; have e2 := Option.some.inj e; omega
  refine ⟨(h.res.grow hg (h.ne (by omega))).other (by omega) _ _, (h.row.grow hg (h.ne (Nat.le_refl _))).set2 _, ?_, h.hT, h.low, h.base, below_set (h.below.grown hg h.below.size (fun j hj => by have := (h.own.lt j hj).1; omega)) (by omega) _⟩
  rw [List.length_append, strV_snoc]
  exact hO.kept (grownBy_setCell _ _ _ _) hne
/-- the result's row is set: what was owned behind it stays -/
theorem SgSt.three_sets {w w1 W : World} {T : Nat} {c : Int} {sv pv : Value} {xs : List ByteArray} (h : SgSt w w1 W T c sv pv xs) (x y z : Value) : Reads (((W.setCell ⟨w.heap.size, 0, none⟩ x).setCell ⟨w.heap.size, 1, none⟩ y).setCell ⟨w.heap.size, 2, none⟩ z) pv xs.length 1 (strV xs) := by
  have hne := h.ne (Nat.le_of_lt h.low)
  exact Reads.of_own (((h.own.kept (grownBy_setCell _ _ _ _) (.inr hne)).kept (grownBy_setCell _ _ _ _) (.inr hne)).kept (grownBy_setCell _ _ _ _) (.inr hne))
theorem Own.three_sets {w1 W : World} {b n R : Nat} {xs : List Value} {v : Value} {e : TypeId} (h : Own w1 b e 1 v n xs) (hW : Below w1.heap.size w1 W) (hR : R < b) (x y z : Value) : Reads (((W.setCell ⟨R, 0, none⟩ x).setCell ⟨R, 1, none⟩ y).setCell ⟨R, 2, none⟩ z) v n 1 xs := by
  have h2 := h.below hW (fun j hj => (h.lt j hj).2)
  have hne : v.ownBlock ≠ some R := fun e => by have := (h.lt R e).1; omega
  exact Reads.of_own (((h2.kept (grownBy_setCell _ _ _ _) (.inr hne)).kept (grownBy_setCell _ _ _ _) (.inr hne)).kept (grownBy_setCell _ _ _ _) (.inr hne))
end Go.Proofs.YtfhjnfocmlndpaaDoor
