/- What is proved of an index, plain: it leads to the root, and tells what lies there. -/
import Derived.Test.YtfhjnfocmlndpaaDoorPVerify
import Derived.Test.YtfhjnfocmlndpaaDoorNode
namespace Go.Proofs.YtfhjnfocmlndpaaDoor
open Go Go.RowKit Go.Proofs

theorem leadTo_is {ix : ByteArray} {path : List ByteArray} {li lc : ByteArray} (h1 : path.length ≤ 128) (h2 : ∀ p ∈ path, p.size = 16) : ∀ k, k ≤ path.length → leadTo ix path li lc k = leadR ix (path.drop (path.length - k)) (path.length - k) (startS path li lc)
  | 0, _ => by
    rw [Nat.sub_zero, List.drop_length]
    rfl
  | k + 1, hk => by
    have ih := leadTo_is (ix := ix) (li := li) (lc := lc) h1 h2 k (by omega)
    have hs := sideOf_is h1 h2 (j := k) (by omega)
    have e : leadTo ix path li lc (k + 1) = stepP ix (leadTo ix path li lc k) (sideOf path k) := by
      unfold leadTo
      rw [upto_succ, List.foldl_append]
      rfl
    have hlt : path.length - (k + 1) < path.length := by omega
    rw [e, ih, List.drop_eq_getElem_cons hlt, leadR, show path.length - (k + 1) + 1 = path.length - k by omega]
    unfold stepP
    rw [hs]
    unfold fromEnd
    dsimp only
    rw [show path.length - 1 - k = path.length - (k + 1) by omega, List.getElem?_eq_getElem hlt]
    rfl
/-- the item at a proof's end: none is of two empty texts -/
def leafI (l : List It) : It := match l with
  | [] => ⟨⟨#[]⟩, ⟨#[]⟩⟩
  | x :: _ => x
theorem start_is {path : List ByteArray} {rest : List It} (h1 : rest.length ≤ 1) (h2 : ∀ x ∈ rest, x.ix.size = 16) : startS path (leafI rest).ix (leafI rest).cm = nodeS rest path.length := by
  match rest, h1 with
  | [], _ => rw [nodeS_nil]; rfl
  | [x], _ =>
    have := h2 x (by simp)
    rw [nodeS_one]
    unfold startS leafI
    dsimp only
    rw [if_neg (by omega)]
theorem right_prove {l : List It} {ix : ByteArray} (h : rightI l = true) (hx : ix.size = 16) : rightP ix (proveP l ix) (leafI (proveL l ix)).ix (leafI (proveL l ix)).cm := by
  have hl := prove_led ix h
  have hr := (rightI_iff l).1 h
  refine ⟨hx, by have := hl.deep; omega, hl.size, ?_⟩
  have hto := hl.to (fun _ _ _ hj => absurd hj (Nat.not_lt_zero _))
  have hsub := hl.sub
  have hfew := hl.few
  rw [Nat.zero_add] at hto
  generalize proveL l ix = rest at *
  match rest, hfew with
  | [], _ => exact .inl ⟨rfl, rfl⟩
  | [x], _ =>
    have hm := hr.2.1 x (hsub.subset (by simp))
    refine .inr ⟨hm.1, ?_, hm.2⟩
    have hd := hl.deep
    rw [Nat.zero_add] at hd
    rcases Nat.lt_or_ge (cmn ix x.ix) (proveP l ix).length with h3 | h3
    · have h4 := (cmn_is ix x.ix).2.2 (by omega)
      exact absurd (hto x (by simp) _ h3).symm h4
    · exact h3
theorem root_prove {l : List It} {ix : ByteArray} (h : rightI l = true) (hx : ix.size = 16) : prootS ix (proveP l ix) (leafI (proveL l ix)).ix (leafI (proveL l ix)).cm = nodeS l 0 ∧ prootK ix (proveP l ix) (leafI (proveL l ix)).ix (leafI (proveL l ix)).cm = 0 := by
  have hr := right_prove h hx
  have hl := prove_led ix h
  unfold prootS prootK
  rw [if_pos hr, if_pos hr]
  refine ⟨?_, rfl⟩
  have hd := hl.deep
  rw [Nat.zero_add] at hd
  have := leadTo_is (ix := ix) (path := proveP l ix) (li := (leafI (proveL l ix)).ix) (lc := (leafI (proveL l ix)).cm) hd hl.size _ (Nat.le_refl _)
  unfold leadS
  rw [this, Nat.sub_self, List.drop_zero, start_is hl.few (fun x hx => ((rightI_iff l).1 h).2.1 x (hl.sub.subset hx) |>.1)]
  exact prove_root ix h
/-- there just when an item of the index is, and then its commit -/
theorem verify_prove {l : List It} {ix : ByteArray} (h : rightI l = true) (hx : ix.size = 16) :
    pverK (nodeS l 0) ix (proveP l ix) (leafI (proveL l ix)).ix (leafI (proveL l ix)).cm = 0 ∧
    (∀ x ∈ l, x.ix = ix → pverB (nodeS l 0) ix (proveP l ix) (leafI (proveL l ix)).ix (leafI (proveL l ix)).cm = true ∧ pverS (nodeS l 0) ix (proveP l ix) (leafI (proveL l ix)).ix (leafI (proveL l ix)).cm = x.cm) ∧
    ((∀ x ∈ l, x.ix ≠ ix) → pverB (nodeS l 0) ix (proveP l ix) (leafI (proveL l ix)).ix (leafI (proveL l ix)).cm = false ∧ pverS (nodeS l 0) ix (proveP l ix) (leafI (proveL l ix)).ix (leafI (proveL l ix)).cm = ⟨#[]⟩) := by
  obtain ⟨h1, h2⟩ := root_prove h hx
  have hl := prove_led ix h
  have hfew := hl.few
  have hmem := hl.mem
  have hsub := hl.sub
  unfold pverK pverB pverS
  rw [h1, h2]
  refine ⟨by simp, fun x hxl he => ?_, fun hno => ?_⟩
  · have hm := hmem x hxl he
    generalize proveL l ix = rest at *
    match rest, hfew, hm with
    | [y], _, hm =>
      rw [List.mem_singleton] at hm
      subst hm
      simp [leafI, he]
  · have hne : (leafI (proveL l ix)).ix ≠ ix := by
      generalize proveL l ix = rest at *
      match rest, hfew with
      | [], _ => intro e; rw [← e] at hx; revert hx; exact of_decide_eq_false (by decide)
      | [y], _ => exact hno y (hsub.subset (by simp))
    simp [hne]
/-- no proof is longer than it must be -/
theorem prove_far {l : List It} {ix : ByteArray} (h : rightI l = true) (hp : proveP l ix ≠ []) : ∃ y ∈ l, y.ix ≠ ix ∧ (proveP l ix).length ≤ cmn ix y.ix + 1 := by
  have hl := prove_led ix h
  obtain ⟨y, hy, hne, hb⟩ := hl.far (fun _ _ _ hj => absurd hj (Nat.not_lt_zero _)) hp
  refine ⟨y, hy, hne, ?_⟩
  rw [Nat.zero_add] at hb
  have hd := hl.deep
  rw [Nat.zero_add] at hd
  rcases Nat.lt_or_ge (cmn ix y.ix + 1) (proveP l ix).length with h3 | h3
  · have h4 := (cmn_is ix y.ix).2.2 (by omega)
    exact absurd (hb _ (by omega)).symm h4
  · exact h3
end Go.Proofs.YtfhjnfocmlndpaaDoor
