/- The root of items, and what leads to an index, in plain Lean: it leads to the root; to which item; how long it is. -/
import Derived.Test.YtfhjnfocmlndpaaDoorSjItems
namespace Go.Proofs.YtfhjnfocmlndpaaDoor
open Go

def emptyS (d : Nat) : ByteArray := markS 101 [numS d]
def leafS (li lc : ByteArray) (d : Nat) : ByteArray := markS 108 [numS d, li, lc]
def joinS (a b : ByteArray) : ByteArray := markS 110 [a, b]
theorem nodeE_size (d : Nat) : (emptyS d).size = 16 := markS_size _ _
theorem nodeL_size (li lc : ByteArray) (d : Nat) : (leafS li lc d).size = 16 := markS_size _ _
theorem nodeJ_size (a b : ByteArray) : (joinS a b).size = 16 := markS_size _ _

/-- the mark of items that are alike ahead of a depth; f: how many steps it may take -/
def nodeF : Nat → List It → Nat → ByteArray
  | _, [], d => emptyS d
  | _, [x], d => leafS x.ix x.cm d
  | 0, _, _ => ⟨#[]⟩
  | f + 1, x :: y :: l, d => joinS (nodeF f (loI (x :: y :: l) d) (d + 1)) (nodeF f (hiI (x :: y :: l) d) (d + 1))
def nodeS (l : List It) (d : Nat) : ByteArray := nodeF (128 - d) l d
theorem nodeS_nil (d : Nat) : nodeS [] d = emptyS d := by unfold nodeS nodeF; rfl
theorem nodeS_one (x : It) (d : Nat) : nodeS [x] d = leafS x.ix x.cm d := by unfold nodeS; cases 128 - d <;> rfl
theorem nodeS_two {l : List It} {d : Nat} (h : 2 ≤ l.length) (hd : d < 128) : nodeS l d = joinS (nodeS (loI l d) (d + 1)) (nodeS (hiI l d) (d + 1)) := by
  match l, h with
  | x :: y :: l, _ =>
    unfold nodeS
    rw [show 128 - d = (128 - (d + 1)) + 1 by omega]
    rfl
theorem nodeS_size {l : List It} {d : Nat} (h : l.length ≤ 1 ∨ d < 128) : (nodeS l d).size = 16 := by
  match l, h with
  | [], _ => rw [nodeS_nil]; exact nodeE_size _
  | [x], _ => rw [nodeS_one]; exact nodeL_size _ _ _
  | x :: y :: l, h =>
    rw [nodeS_two (by simp) (by rcases h with h | h; simp at h; exact h)]
    exact nodeJ_size _ _
theorem Alike.node_size {l : List It} {d : Nat} (h : Alike l d) : (nodeS l d).size = 16 := nodeS_size (by
  rcases Nat.lt_or_ge l.length 2 with h2 | h2
  · exact .inl (by omega)
  · exact .inr (h.lt h2))

/-! ### what leads to an index -/
def ownI (l : List It) (ix : ByteArray) (d : Nat) : List It := if bitAt ix d = 1 then hiI l d else loI l d
def othI (l : List It) (ix : ByteArray) (d : Nat) : List It := if bitAt ix d = 1 then loI l d else hiI l d
def provP : Nat → List It → ByteArray → Nat → List ByteArray
  | 0, _, _, _ => []
  | f + 1, l, ix, d => if 2 ≤ l.length then nodeS (othI l ix d) (d + 1) :: provP f (ownI l ix d) ix (d + 1) else []
def provL : Nat → List It → ByteArray → Nat → List It
  | 0, l, _, _ => l
  | f + 1, l, ix, d => if 2 ≤ l.length then provL f (ownI l ix d) ix (d + 1) else l
theorem provP_two {l : List It} {ix : ByteArray} {d : Nat} (h : 2 ≤ l.length) (hd : d < 128) : provP (128 - d) l ix d = nodeS (othI l ix d) (d + 1) :: provP (128 - (d + 1)) (ownI l ix d) ix (d + 1) := by
  rw [show 128 - d = (128 - (d + 1)) + 1 by omega, provP, if_pos h]
theorem provL_two {l : List It} {ix : ByteArray} {d : Nat} (h : 2 ≤ l.length) (hd : d < 128) : provL (128 - d) l ix d = provL (128 - (d + 1)) (ownI l ix d) ix (d + 1) := by
  conv => lhs; rw [show 128 - d = (128 - (d + 1)) + 1 by omega, provL, if_pos h]
theorem provP_one {l : List It} {ix : ByteArray} {d f : Nat} (h : ¬ 2 ≤ l.length) : provP f l ix d = [] := by
  cases f with
  | zero => rfl
  | succ f => rw [provP, if_neg h]
theorem provL_one {l : List It} {ix : ByteArray} {d f : Nat} (h : ¬ 2 ≤ l.length) : provL f l ix d = l := by
  cases f with
  | zero => rfl
  | succ f => rw [provL, if_neg h]
theorem Alike.own {l : List It} {d : Nat} (h : Alike l d) (ix : ByteArray) : Alike (ownI l ix d) (d + 1) := by unfold ownI; split; exact h.hi; exact h.lo
theorem Alike.oth {l : List It} {d : Nat} (h : Alike l d) (ix : ByteArray) : Alike (othI l ix d) (d + 1) := by unfold othI; split; exact h.lo; exact h.hi
theorem ownI_sub (l : List It) (ix : ByteArray) (d : Nat) : (ownI l ix d).Sublist l := by unfold ownI; split; exact List.dropWhile_sublist _; exact List.takeWhile_sublist _
/-- alike with an index, ahead of a depth -/
def To (ix : ByteArray) (l : List It) (d : Nat) : Prop := ∀ x ∈ l, ∀ j, j < d → bitAt x.ix j = bitAt ix j
theorem To.own {ix : ByteArray} {l : List It} {d : Nat} (h : To ix l d) (ha : Alike l d) : To ix (ownI l ix d) (d + 1) := fun x hx j hj => by
  rcases Nat.lt_or_ge j d with h1 | h1
  · exact h x ((ownI_sub l ix d).subset hx) j h1
  · rw [show j = d by omega]
    unfold ownI at hx
    split at hx
    · rename_i h2; rw [h2]; exact hiI_bit ha x hx
    · rename_i h2
      have h3 := bitAt_lt ix d
      rw [loI_bit x hx]
      omega
theorem own_mem {ix : ByteArray} {l : List It} {d : Nat} (ha : Alike l d) {x : It} (hx : x ∈ l) (he : x.ix = ix) : x ∈ ownI l ix d := by
  subst he
  have h := lo_hi l d
  rw [← h, List.mem_append] at hx
  unfold ownI
  rcases hx with hx | hx
  · rw [if_neg (by rw [loI_bit x hx]; decide)]; exact hx
  · rw [if_pos (hiI_bit ha x hx)]; exact hx
theorem sides {ix : ByteArray} {l : List It} {d : Nat} (a b : ByteArray → ByteArray → ByteArray) (N : List It → ByteArray) : (if bitAt ix d = 1 then a (N (othI l ix d)) (N (ownI l ix d)) else b (N (ownI l ix d)) (N (othI l ix d))) = if bitAt ix d = 1 then a (N (loI l d)) (N (hiI l d)) else b (N (loI l d)) (N (hiI l d)) := by
  unfold ownI othI; split <;> rfl
/-- all the way down: where it ends -/
structure Led (l : List It) (ix : ByteArray) (d : Nat) (path : List ByteArray) (rest : List It) : Prop where
  few : rest.length ≤ 1
  deep : d + path.length ≤ 128
  size : ∀ p ∈ path, p.size = 16
  alike : Alike rest (d + path.length)
  to : To ix l d → To ix rest (d + path.length)
  sub : rest.Sublist l
  mem : ∀ x ∈ l, x.ix = ix → x ∈ rest
  far : To ix l d → path ≠ [] → ∃ y ∈ l, y.ix ≠ ix ∧ ∀ j, j + 1 < d + path.length → bitAt y.ix j = bitAt ix j
theorem led_of {ix : ByteArray} : ∀ (n d : Nat) (l : List It), d + n = 128 → Alike l d → Led l ix d (provP (128 - d) l ix d) (provL (128 - d) l ix d) := by
  intro n
  induction n with
  | zero =>
    intro d l hd ha
    have h2 : ¬ 2 ≤ l.length := fun h => by have := ha.lt h; omega
    rw [provP_one h2, provL_one h2]
    exact ⟨by omega, by simp; omega, by simp, ha, fun h => h, List.Sublist.refl _, fun _ h _ => h, fun _ h => absurd rfl h⟩
  | succ n ih =>
    intro d l hd ha
    by_cases h2 : 2 ≤ l.length
    · have hlt := ha.lt h2
      rw [provP_two h2 hlt, provL_two h2 hlt]
      obtain ⟨i1, i2, i3, i4, i5, i6, i7, i8⟩ := ih (d + 1) (ownI l ix d) (by omega) (ha.own ix)
      generalize provP (128 - (d + 1)) (ownI l ix d) ix (d + 1) = P at *
      generalize provL (128 - (d + 1)) (ownI l ix d) ix (d + 1) = R at *
      have e : d + (nodeS (othI l ix d) (d + 1) :: P).length = d + 1 + P.length := by simp; omega
      refine ⟨i1, by rw [e]; exact i2, ?_, by rw [e]; exact i4, fun h => by rw [e]; exact i5 (h.own ha), i6.trans (ownI_sub _ _ _), fun x hx he => i7 x (own_mem ha hx he) he, fun h _ => ?_⟩
      · intro p hp
        rcases List.mem_cons.1 hp with rfl | hp
        · exact (ha.oth ix).node_size
        · exact i3 p hp
      · rw [e]
        by_cases hP : P = []
        · subst hP
          match l, h2 with
          | x :: y :: l, _ =>
            have hxy : ltB x.ix y.ix = true := (List.pairwise_cons.1 ha.rise).1 y (by simp)
            by_cases hx : x.ix = ix
            · exact ⟨y, by simp, fun hy => ltB_ne hxy (hx.trans hy.symm), fun j hj => h y (by simp) j (by simp at hj; omega)⟩
            · exact ⟨x, by simp, hx, fun j hj => h x (by simp) j (by simp at hj; omega)⟩
        · obtain ⟨y, hy, hne, hb⟩ := i8 (h.own ha) hP
          exact ⟨y, (ownI_sub l ix d).subset hy, hne, hb⟩
    · rw [provP_one h2, provL_one h2]
      exact ⟨by omega, by simp; omega, by simp, ha, fun h => h, List.Sublist.refl _, fun _ h _ => h, fun _ h => absurd rfl h⟩

/-! ### to which root a proof leads -/
def leadR (ix : ByteArray) : List ByteArray → Nat → ByteArray → ByteArray
  | [], _, s => s
  | p :: l, d, s => if bitAt ix d = 1 then joinS p (leadR ix l (d + 1) s) else joinS (leadR ix l (d + 1) s) p
theorem lead_node {ix : ByteArray} : ∀ (n d : Nat) (l : List It), d + n = 128 → Alike l d →
    leadR ix (provP (128 - d) l ix d) d (nodeS (provL (128 - d) l ix d) (d + (provP (128 - d) l ix d).length)) = nodeS l d := by
  intro n
  induction n with
  | zero =>
    intro d l hd ha
    have h2 : ¬ 2 ≤ l.length := fun h => by have := ha.lt h; omega
    rw [provP_one h2, provL_one h2]
    rfl
  | succ n ih =>
    intro d l hd ha
    by_cases h2 : 2 ≤ l.length
    · have hlt := ha.lt h2
      rw [provP_two h2 hlt, provL_two h2 hlt, leadR, List.length_cons, show d + ((provP (128 - (d + 1)) (ownI l ix d) ix (d + 1)).length + 1) = d + 1 + (provP (128 - (d + 1)) (ownI l ix d) ix (d + 1)).length by omega, ih (d + 1) (ownI l ix d) (by omega) (ha.own ix),
        sides (fun a b => joinS a b) (fun a b => joinS a b) (fun m => nodeS m (d + 1)), nodeS_two h2 hlt]
      split <;> rfl
    · rw [provP_one h2, provL_one h2]
      rfl
/-- all of a proof: the marks beside the way, and the item at its end -/
def proveP (l : List It) (ix : ByteArray) : List ByteArray := provP 128 l ix 0
def proveL (l : List It) (ix : ByteArray) : List It := provL 128 l ix 0
theorem prove_led {l : List It} (ix : ByteArray) (h : rightI l = true) : Led l ix 0 (proveP l ix) (proveL l ix) := led_of 128 0 l rfl (alike_of_right h)
theorem prove_root {l : List It} (ix : ByteArray) (h : rightI l = true) : leadR ix (proveP l ix) 0 (nodeS (proveL l ix) (proveP l ix).length) = nodeS l 0 := by
  have := lead_node (ix := ix) 128 0 l rfl (alike_of_right h)
  rw [Nat.zero_add] at this
  exact this
end Go.Proofs.YtfhjnfocmlndpaaDoor
