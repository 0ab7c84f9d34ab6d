/- An index's bits, in plain Lean: how far two are alike. -/
import Derived.WalkKit
namespace Go.Proofs.YtfhjnfocmlndpaaDoor

/-- bit k of s: the greatest of its first byte is 0 -/
def bitAt (s : ByteArray) (k : Nat) : Nat := (s.data.toList.getD (k / 8) 0).toNat / 2 ^ (7 - k % 8) % 2
theorem bitAt_lt (s : ByteArray) (k : Nat) : bitAt s k < 2 := Nat.mod_lt _ (by decide)
def CommonIs (a b : ByteArray) (n : Nat) : Prop := n ≤ 128 ∧ (∀ j, j < n → bitAt a j = bitAt b j) ∧ (n < 128 → bitAt a n ≠ bitAt b n)
theorem CommonIs.uniq {a b : ByteArray} {n m : Nat} (h : CommonIs a b n) (k : CommonIs a b m) : n = m := by
  rcases Nat.lt_trichotomy n m with h1 | h1 | h1
  · exact absurd (k.2.1 n h1) (h.2.2 (by have := k.1; omega))
  · exact h1
  · exact absurd (h.2.1 m h1) (k.2.2 (by have := h.1; omega))
theorem CommonIs.ex (a b : ByteArray) : ∃ n, CommonIs a b n := by
  have : ∀ k, k ≤ 128 → (∀ j, j < k → bitAt a j = bitAt b j) ∨ ∃ n, CommonIs a b n := by
    intro k
    induction k with
    | zero => intro _; exact .inl fun j h => absurd h (Nat.not_lt_zero _)
    | succ k ih =>
      intro hk
      rcases ih (by omega) with h | h
      · by_cases he : bitAt a k = bitAt b k
        · refine .inl fun j hj => ?_
          rcases Nat.lt_or_ge j k with h2 | h2
          · exact h j h2
          · rw [show j = k from by omega]; exact he
        · exact .inr ⟨k, by omega, h, fun _ => he⟩
      · exact .inr h
  rcases this 128 (Nat.le_refl _) with h | h
  · exact ⟨128, Nat.le_refl _, h, fun h => absurd h (by decide)⟩
  · exact h
open Classical in
/-- how many bits two begin with alike -/
noncomputable def cmn (a b : ByteArray) : Nat := Classical.choose (CommonIs.ex a b)
theorem cmn_is (a b : ByteArray) : CommonIs a b (cmn a b) := Classical.choose_spec (CommonIs.ex a b)
theorem cmn_eq {a b : ByteArray} {n : Nat} (h : CommonIs a b n) : cmn a b = n := (cmn_is a b).uniq h
theorem cmn_le (a b : ByteArray) : cmn a b ≤ 128 := (cmn_is a b).1
theorem byte_of_bits (x y : Nat) (hx : x < 256) (hy : y < 256) (h : ∀ j, j < 8 → x / 2 ^ (7 - j) % 2 = y / 2 ^ (7 - j) % 2) : x = y := by
  have h0 := h 0 (by decide)
  have h1 := h 1 (by decide)
  have h2 := h 2 (by decide)
  have h3 := h 3 (by decide)
  have h4 := h 4 (by decide)
  have h5 := h 5 (by decide)
  have h6 := h 6 (by decide)
  have h7 := h 7 (by decide)
  simp only [Nat.reduceSub, Nat.reducePow] at *
  omega
theorem eq_of_bits {a b : ByteArray} (ha : a.size = 16) (hb : b.size = 16) (h : ∀ j, j < 128 → bitAt a j = bitAt b j) : a = b := by
  apply ByteArray.ext
  apply Array.ext'
  apply List.ext_getElem
  · simp [ha, hb]
  · intro i h1 h2
    have hi : i < 16 := by simp at h1; omega
    apply UInt8.toNat_inj.1
    apply byte_of_bits _ _ (UInt8.toNat_lt _) (UInt8.toNat_lt _)
    intro j hj
    have := h (8 * i + j) (by omega)
    unfold bitAt at this
    rw [show (8 * i + j) / 8 = i from by omega, show (8 * i + j) % 8 = j from by omega] at this
    rw [List.getD_eq_getElem?_getD, List.getD_eq_getElem?_getD, List.getElem?_eq_getElem h1, List.getElem?_eq_getElem h2] at this
    exact this
theorem cmn_128 {a b : ByteArray} (ha : a.size = 16) (hb : b.size = 16) : cmn a b = 128 ↔ a = b := by
  constructor
  · intro h
    have := cmn_is a b
    rw [h] at this
    exact eq_of_bits ha hb this.2.1
  · rintro rfl
    exact cmn_eq ⟨Nat.le_refl _, fun _ _ => rfl, fun h => absurd h (by decide)⟩
theorem cmn_comm (a b : ByteArray) : cmn a b = cmn b a := by
  have := cmn_is b a
  exact cmn_eq ⟨this.1, fun j h => (this.2.1 j h).symm, fun h => (this.2.2 h).symm⟩
/-- of three, two are as far alike as the two others, or farther -/
theorem cmn_min (a b c : ByteArray) : min (cmn a b) (cmn b c) ≤ cmn a c := by
  have h1 := cmn_is a b
  have h2 := cmn_is b c
  have h3 := cmn_is a c
  rcases Nat.lt_or_ge (cmn a c) (min (cmn a b) (cmn b c)) with h | h
  · have h4 := h3.2.2 (by have := h1.1; omega)
    exact absurd ((h1.2.1 _ (by omega)).trans (h2.2.1 _ (by omega))) h4
  · exact h
theorem cmn_ne (a b c : ByteArray) (h : cmn a b ≠ cmn b c) : cmn a c = min (cmn a b) (cmn b c) := by
  have h1 := cmn_min a b c
  have h2 := cmn_min b a c
  have h3 := cmn_min a c b
  have e1 := cmn_comm a b
  have e2 := cmn_comm b c
  omega
end Go.Proofs.YtfhjnfocmlndpaaDoor
