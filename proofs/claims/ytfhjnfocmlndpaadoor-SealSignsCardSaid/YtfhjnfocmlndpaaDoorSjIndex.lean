/- index.Bit and index.Common. -/
import Derived.WalkKit
import Derived.Test.YtfhjnfocmlndpaaDoorSjChain
namespace Go.Proofs.YtfhjnfocmlndpaaDoor

/-- bit k of s: the greatest of its first byte is 0 -/
def bitAt (s : ByteArray) (k : Nat) : Nat := (s.data.toList.getD (k / 8) 0).toNat / 2 ^ (7 - k % 8) % 2
theorem bitAt_lt (s : ByteArray) (k : Nat) : bitAt s k < 2 := Nat.mod_lt _ (by decide)
def CommonIs (a b : ByteArray) (n : Nat) : Prop := n ≤ 128 ∧ (∀ j, j < n → bitAt a j = bitAt b j) ∧ (n < 128 → bitAt a n ≠ bitAt b n)
theorem CommonIs.uniq {a b : ByteArray} {n m : Nat} (h : CommonIs a b n) (k : CommonIs a b m) : n = m := by
  rcases Nat.lt_trichotomy n m with h1 | h1 | h1
  · exact absurd (k.2.1 n h1) (h.2.2 (by have := k.1; omega))
  · exact h1
  · exact absurd (h.2.1 m h1) (k.2.2 (by have := h.1; omega))
theorem CommonIs.ex (a b : ByteArray) : ∃ n, CommonIs a b n := by
  have : ∀ k, k ≤ 128 → (∀ j, j < k → bitAt a j = bitAt b j) ∨ ∃ n, CommonIs a b n := by
    intro k
    induction k with
    | zero => intro _; exact .inl fun j h => absurd h (Nat.not_lt_zero _)
    | succ k ih =>
      intro hk
      rcases ih (by omega) with h | h
      · by_cases he : bitAt a k = bitAt b k
        · refine .inl fun j hj => ?_
          rcases Nat.lt_or_ge j k with h2 | h2
          · exact h j h2
          · rw [show j = k from by omega]; exact he
        · exact .inr ⟨k, by omega, h, fun _ => he⟩
      · exact .inr h
  rcases this 128 (Nat.le_refl _) with h | h
  · exact ⟨128, Nat.le_refl _, h, fun h => absurd h (by decide)⟩
  · exact h
open Classical in
/-- how many bits two begin with alike -/
noncomputable def cmn (a b : ByteArray) : Nat := Classical.choose (CommonIs.ex a b)
theorem cmn_is (a b : ByteArray) : CommonIs a b (cmn a b) := Classical.choose_spec (CommonIs.ex a b)
theorem cmn_eq {a b : ByteArray} {n : Nat} (h : CommonIs a b n) : cmn a b = n := (cmn_is a b).uniq h
theorem cmn_le (a b : ByteArray) : cmn a b ≤ 128 := (cmn_is a b).1
theorem byte_of_bits (x y : Nat) (hx : x < 256) (hy : y < 256) (h : ∀ j, j < 8 → x / 2 ^ (7 - j) % 2 = y / 2 ^ (7 - j) % 2) : x = y := by
  have h0 := h 0 (by decide)
  have h1 := h 1 (by decide)
  have h2 := h 2 (by decide)
  have h3 := h 3 (by decide)
  have h4 := h 4 (by decide)
  have h5 := h 5 (by decide)
  have h6 := h 6 (by decide)
  have h7 := h 7 (by decide)
  simp only [Nat.reduceSub, Nat.reducePow] at *
  omega
theorem eq_of_bits {a b : ByteArray} (ha : a.size = 16) (hb : b.size = 16) (h : ∀ j, j < 128 → bitAt a j = bitAt b j) : a = b := by
  apply ByteArray.ext
  apply Array.ext'
  apply List.ext_getElem
  · simp [ha, hb]
  · intro i h1 h2
    have hi : i < 16 := by simp at h1; omega
    apply UInt8.toNat_inj.1
    apply byte_of_bits _ _ (UInt8.toNat_lt _) (UInt8.toNat_lt _)
    intro j hj
    have := h (8 * i + j) (by omega)
    unfold bitAt at this
    rw [show (8 * i + j) / 8 = i from by omega, show (8 * i + j) % 8 = j from by omega] at this
    rw [List.getD_eq_getElem?_getD, List.getD_eq_getElem?_getD, List.getElem?_eq_getElem h1, List.getElem?_eq_getElem h2] at this
    exact this
theorem cmn_128 {a b : ByteArray} (ha : a.size = 16) (hb : b.size = 16) : cmn a b = 128 ↔ a = b := by
  constructor
  · intro h
    have := cmn_is a b
    rw [h] at this
    exact eq_of_bits ha hb this.2.1
  · rintro rfl
    exact cmn_eq ⟨Nat.le_refl _, fun _ _ => rfl, fun h => absurd h (by decide)⟩
theorem cmn_comm (a b : ByteArray) : cmn a b = cmn b a := by
  have := cmn_is b a
  exact cmn_eq ⟨this.1, fun j h => (this.2.1 j h).symm, fun h => (this.2.2 h).symm⟩
/-- of three, two are as far alike as the two others, or farther -/
theorem cmn_min (a b c : ByteArray) : min (cmn a b) (cmn b c) ≤ cmn a c := by
  have h1 := cmn_is a b
  have h2 := cmn_is b c
  have h3 := cmn_is a c
  rcases Nat.lt_or_ge (cmn a c) (min (cmn a b) (cmn b c)) with h | h
  · have h4 := h3.2.2 (by have := h1.1; omega)
    exact absurd ((h1.2.1 _ (by omega)).trans (h2.2.1 _ (by omega))) h4
  · exact h
theorem cmn_ne (a b c : ByteArray) (h : cmn a b ≠ cmn b c) : cmn a c = min (cmn a b) (cmn b c) := by
  have h1 := cmn_min a b c
  have h2 := cmn_min b a c
  have h3 := cmn_min a c b
  have e1 := cmn_comm a b
  have e2 := cmn_comm b c
  omega
end Go.Proofs.YtfhjnfocmlndpaaDoor

namespace Go.Proofs.YtfhjnfocmlndpaaDoor
open Go Go.RowKit Go.Proofs

theorem and1_u8 (u : Nat) (h : u < 256) : bits .and .u8 (u : Int) 1 = ((u % 2 : Nat) : Int) := by
  have h1 : (BitVec.ofInt 8 (u : Int)).toNat = u := by
    rw [BitVec.ofInt_natCast, BitVec.toNat_ofNat]; exact Nat.mod_eq_of_lt h
  have h2 : (BitVec.ofInt 8 ((1 : Nat) : Int)).toNat = 1 := by
    rw [BitVec.ofInt_natCast, BitVec.toNat_ofNat]
  have h3 : u &&& 1 = u % 2 := by rw [show (1 : Nat) = 2 ^ 1 - 1 from rfl, Nat.and_two_pow_sub_one_eq_mod]
  show IntKind.u8.wrap ((BitVec.ofInt 8 (u : Int) &&& BitVec.ofInt 8 ((1 : Nat) : Int)).toNat : Int) = _
  rw [BitVec.toNat_and, h1, h2, h3, IntKind.wrap_u8]
  omega
set_option maxRecDepth 20000 in
theorem bit_ok (s : ByteArray) (k : Nat) (w : World) (hs : s.size = 16) (hk : k < 128) : Calls Tryd.prog 49 #[.string s, .int .i64 k] w fun e w' => e = .returned (.tuple #[.int .i64 (bitAt s k : Nat), .nilIface]) ∧ w' = w := by
  obtain ⟨q, hq⟩ : ∃ q, q = k / 8 := ⟨_, rfl⟩
  obtain ⟨r, hr⟩ : ∃ r, r = k % 8 := ⟨_, rfl⟩
  obtain ⟨d, hd⟩ : ∃ d, d = 7 - r := ⟨_, rfl⟩
  have hq16 : q < s.size := by omega
  have f1 : (k : Int) / 8 = q := by omega
  have f2 : (k : Int) % 8 = r := by omega
  have f3 : IntKind.i64.wrap ((7 : Int) - r) = d := by rw [IntWalk.i64_in _ (by omega)]; omega
  have f4 : ¬ (k : Int) < 0 := by omega
  have f5 : (k : Int) < 128 := by omega
  have f6 : (s.size : Int) = 16 := by omega
  have f7 : (q : Int) < s.size := by omega
  obtain ⟨c, hc⟩ : ∃ c, s[q] = c := ⟨_, rfl⟩
  have hbit : Hid (bitAt s k = c.toNat / 2 ^ d % 2) := by
    unfold Hid bitAt
    rw [← hq, ← hr, ← hd, List.getD_eq_getElem?_getD, List.getElem?_eq_getElem (by simpa using hq16)]
    rw [← hc]; rfl
  have hk2 : (k : Int) ≤ 127 := by omega
  have hd8 : d < 8 := by omega
  obtain ⟨x, hx⟩ : ∃ x, x = c.toNat / 2 ^ d := ⟨_, rfl⟩
  have hx2 : x < 256 := by rw [hx]; exact Nat.lt_of_le_of_lt (Nat.div_le_self _ _) c.toNat_lt
  have g1 : (c.toNat : Int) / 2 ^ d = (x : Int) := by rw [hx]; norm_cast
  rw [← hx] at hbit
  obtain ⟨b, hb⟩ : ∃ b, b = x % 2 := ⟨_, rfl⟩
  have g2 : bits .and .u8 (x : Int) 1 = (b : Int) := by rw [hb]; exact and1_u8 x hx2
  have g3 : wrap64 (b : Int) = (b : Int) := by unfold wrap64; omega
  rw [← hb] at hbit
  rw [hbit.out]
  clear hq hr hd hk hs hx hb hbit
  go_enter Tryd.func49, Tryd.ntmps49
  go_wp2_with fail
  go_ret2
  exact ⟨rfl, rfl⟩
/-- of what kind the error is that Bit tells -/
def bitK (s : ByteArray) (k : Int) : Int := if s.size ≠ 16 then 1 else if k < 0 ∨ 128 ≤ k then 2 else 0
def bitV (s : ByteArray) (k : Int) : Int := if bitK s k = 0 then (bitAt s k.toNat : Int) else 0
/-- a number and an error; the world as it was -/
def IntPost (n k : Int) (w : World) (e : Ending) (w' : World) : Prop := e = .returned (.tuple #[.int .i64 n, errV k]) ∧ w' = w
theorem bit_any (s : ByteArray) (k : Int) (w : World) : Calls Tryd.prog 49 #[.string s, .int .i64 k] w (IntPost (bitV s k) (bitK s k) w) := by
  by_cases hs : s.size = 16
  · by_cases hk : k < 0 ∨ 128 ≤ k
    · have hK : bitK s k = 2 := by unfold bitK; rw [if_neg (by simpa using hs), if_pos hk]
      have hV : bitV s k = 0 := by unfold bitV; rw [hK, if_neg (by decide)]
      rw [hK, hV]
      unfold IntPost
      have f6 : (s.size : Int) = 16 := by omega
      rcases hk with hk | hk
      · clear hs
        go_enter Tryd.func49, Tryd.ntmps49
        go_wp2_with fail
        go_ret2
        exact ⟨rfl, rfl⟩
      · have hk2 : ¬ k < 0 := by omega
        have hk3 : decide (k < 0) = false := decide_eq_false hk2
        clear hs
        go_enter Tryd.func49, Tryd.ntmps49
        go_wp2_with fail
        go_ret2
        exact ⟨rfl, rfl⟩
    · obtain ⟨n, rfl⟩ : ∃ n : Nat, k = n := ⟨k.toNat, by omega⟩
      have hK : bitK s n = 0 := by unfold bitK; rw [if_neg (by simpa using hs), if_neg hk]
      have hV : bitV s n = (bitAt s n : Nat) := by unfold bitV; rw [hK, if_pos rfl, Int.toNat_natCast]
      rw [hK, hV]
      unfold IntPost
      refine (bit_ok s n w hs (by omega)).mono ?_
      rintro e w' ⟨rfl, rfl⟩
      exact ⟨rfl, rfl⟩
  · have hK : bitK s k = 1 := by unfold bitK; rw [if_pos hs]
    have hV : bitV s k = 0 := by unfold bitV; rw [hK, if_neg (by decide)]
    rw [hK, hV]
    unfold IntPost
    clear hK hV
    have f6 : ((s.size : Int) == 16) = false := by rw [beq_eq_false_iff_ne]; omega
    have f7 : ((s.size : Int) != 16) = true := by rw [bne_iff_ne]; omega
    clear hs
    go_enter Tryd.func49, Tryd.ntmps49
    go_wp2_with fail
    go_ret2
    exact ⟨rfl, rfl⟩

/-! ### Common -/
def cmnK (a b : ByteArray) : Int := if a.size = 16 ∧ b.size = 16 then 0 else 1
noncomputable def cmnV (a b : ByteArray) : Int := if a.size = 16 ∧ b.size = 16 then (cmn a b : Int) else 0
theorem common_ok (a b : ByteArray) (w : World) (ha : a.size = 16) (hb : b.size = 16) : Calls Tryd.prog 48 #[.string a, .string b] w fun e w' => e = .returned (.tuple #[.int .i64 (cmn a b : Nat), .nilIface]) ∧ w' = w := by
  have fa : (a.size : Int) = 16 := by omega
  have fb : (b.size : Int) = 16 := by omega
  have HA := Lib.hid ha
  have HB := Lib.hid hb
  clear ha hb
  go_enter Tryd.func48, Tryd.ntmps48
  go_wp2_with fail
  go_loopw [20] (fun i wr => ∃ k : Nat, k ≤ 128 ∧ i = .int .i64 k ∧ wr = w ∧ ∀ j, j < k → bitAt a j = bitAt b j) (fun i _ => 128 - (intOf i).toNat)
  case atStart => exact ⟨0, Nat.zero_le _, rfl, rfl, fun j h => absurd h (Nat.not_lt_zero _)⟩
  case round =>
    obtain ⟨k, hk, rfl, rfl, hall⟩ := hrel
    have HAll := Lib.hid hall
    clear hall
    by_cases hlt : k < 128
    · have e2 : (k : Int) < 128 := by omega
      have hA := Lib.hid (bit_ok a k wr HA.out hlt)
      have hB := Lib.hid (bit_ok b k wr HB.out hlt)
      by_cases he : bitAt a k = bitAt b k
      · have He := Lib.hid he
        rw [← he] at hB
        clear he
        generalize bitAt a k = n at hA hB
        go_wp2_with (first
          | (go_at_call 49; with_reducible refine hA.out.mono ?_; rintro e w1 ⟨rfl, rfl⟩)
          | (go_at_call 49; with_reducible refine hB.out.mono ?_; rintro e w1 ⟨rfl, rfl⟩))
        go_roundw
        case rel =>
          refine ⟨k + 1, by omega, by go_num, by first | rfl | trivial, fun j hj => ?_⟩
          rcases Nat.lt_or_ge j k with h | h
          · exact HAll.out j h
          · rw [show j = k from by omega]; exact He.out
        case measure => simp [intOf]; omega
      · have hc := Lib.hid (cmn_eq (a := a) (b := b) ⟨hk, HAll.out, fun _ => he⟩)
        have hne : ((bitAt a k : Nat) : Int) ≠ (bitAt b k : Nat) := by omega
        generalize bitAt a k = n at hA hne
        generalize bitAt b k = m at hB hne
        have hne4 : ¬ n = m := by omega
        have hne5 : ¬ (n : Int) = m := by omega
        have hne2 : ((n : Int) != (m : Int)) = true := by simpa using hne
        have hne3 : ((n : Int) == (m : Int)) = false := by simpa using hne
        clear he hne
        go_wp2_with (first
          | (go_at_call 49; with_reducible refine hA.out.mono ?_; rintro e w1 ⟨rfl, rfl⟩)
          | (go_at_call 49; with_reducible refine hB.out.mono ?_; rintro e w1 ⟨rfl, rfl⟩))
        go_ret2
        exact ⟨by rw [hc.out]; rfl, rfl⟩
    · have hk8 : k = 128 := by omega
      subst hk8
      have hc := Lib.hid (cmn_eq (a := a) (b := b) ⟨hk, HAll.out, fun h => absurd h (by decide)⟩)
      clear hlt
      go_wp2_with fail
      go_ret2
      exact ⟨by rw [hc.out]; rfl, rfl⟩
theorem common_any (a b : ByteArray) (w : World) : Calls Tryd.prog 48 #[.string a, .string b] w (IntPost (cmnV a b) (cmnK a b) w) := by
  unfold IntPost cmnV cmnK
  by_cases h : a.size = 16 ∧ b.size = 16
  · rw [if_pos h, if_pos h]
    refine (common_ok a b w h.1 h.2).mono ?_
    rintro e w' ⟨rfl, rfl⟩
    exact ⟨rfl, rfl⟩
  · rw [if_neg h, if_neg h]
    by_cases ha : a.size = 16
    · have fa : (a.size : Int) = 16 := by omega
      have hb : b.size ≠ 16 := fun hb => h ⟨ha, hb⟩
      have f6 : ((b.size : Int) == 16) = false := by rw [beq_eq_false_iff_ne]; omega
      have f7 : ((b.size : Int) != 16) = true := by rw [bne_iff_ne]; omega
      clear h ha hb
      go_enter Tryd.func48, Tryd.ntmps48
      go_wp2_with fail
      go_ret2
      exact ⟨rfl, rfl⟩
    · have f6 : ((a.size : Int) == 16) = false := by rw [beq_eq_false_iff_ne]; omega
      have f7 : ((a.size : Int) != 16) = true := by rw [bne_iff_ne]; omega
      clear h ha
      go_enter Tryd.func48, Tryd.ntmps48
      go_wp2_with fail
      go_ret2
      exact ⟨rfl, rfl⟩
end Go.Proofs.YtfhjnfocmlndpaaDoor
