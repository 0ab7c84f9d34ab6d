/- How far two lists of heads are alike. -/
import Derived.Test.YtfhjnfocmlndpaaDoorHeads
namespace Go.Proofs.YtfhjnfocmlndpaaDoor
open Go Go.RowKit Go.Proofs

instance : DecidableEq Hd := fun a b => decidable_of_iff (a.epoch = b.epoch ∧ a.root = b.root ∧ a.prev = b.prev) ⟨fun ⟨h1, h2, h3⟩ => by cases a; cases b; simp_all, fun h => by rw [h]; exact ⟨rfl, rfl, rfl⟩⟩
def partsL : List Hd → List Hd → Nat
  | x :: a, y :: b => if x = y then partsL a b + 1 else 0
  | _, _ => 0
theorem partsL_end (a b : List Hd) (h : a = [] ∨ b = []) : partsL a b = 0 := by
  rcases h with rfl | rfl
  · cases b <;> rfl
  · cases a <;> rfl
theorem drop_at {α : Type} {l : List α} {k : Nat} {x : α} (h : l[k]? = some x) : l.drop k = x :: l.drop (k + 1) := by
  have hk := (List.getElem?_eq_some_iff.1 h).1
  rw [List.drop_eq_getElem_cons hk, (List.getElem?_eq_some_iff.1 h).2]
theorem bytes_of_toList {a b : ByteArray} (h : a.toList = b.toList) : a = b := by
  rw [ByteArray.toList_eq, ByteArray.toList_eq] at h
  exact ByteArray.ext (Array.ext' h)
theorem Hd.cmp (x y : Hd) : x = y ∨ (x ≠ y ∧ (¬ x.epoch = y.epoch ∨ (x.epoch = y.epoch ∧ ¬ x.root.toList = y.root.toList) ∨ (x.epoch = y.epoch ∧ x.root.toList = y.root.toList ∧ ¬ x.prev.toList = y.prev.toList))) := by
  by_cases h : x = y
  · exact .inl h
  · refine .inr ⟨h, ?_⟩
    by_cases h1 : x.epoch = y.epoch
    · by_cases h2 : x.root.toList = y.root.toList
      · refine .inr (.inr ⟨h1, h2, fun h3 => h ?_⟩)
        cases x; cases y
        simp only [Hd.mk.injEq]
        exact ⟨h1, bytes_of_toList h2, bytes_of_toList h3⟩
      · exact .inr (.inl ⟨h1, h2⟩)
    · exact .inl h1
set_option maxRecDepth 20000 in
set_option maxHeartbeats 4000000 in
theorem cparts_any (va vb : Value) (a b : List Hd) (w : World) (ha : HReads w va a) (hb : HReads w vb b) (hla : a.length ≤ 1000) (hlb : b.length ≤ 1000) :
    Calls Tryd.prog 70 #[va, vb] w fun e w' => e = .returned (.int .i64 (partsL a b : Nat)) ∧ Below w.heap.size w w' := by
  obtain ⟨aa, ca, rfl⟩ := ha.shape
  obtain ⟨ab, cb, rfl⟩ := hb.shape
  obtain ⟨n, hn⟩ : ∃ n, n = a.length := ⟨_, rfl⟩
  obtain ⟨m, hm⟩ : ∃ m, m = b.length := ⟨_, rfl⟩
  obtain ⟨N, hN⟩ : ∃ N, N = partsL a b := ⟨_, rfl⟩
  rw [← hn, ← hm, ← hN]
  have HA := Lib.hid (hn ▸ ha : HReads w (.slice aa n ca) a)
  have HB := Lib.hid (hm ▸ hb : HReads w (.slice ab m cb) b)
  have Hn := Lib.hid hn
  have Hm := Lib.hid hm
  have HN := Lib.hid hN
  have hn1 : n ≤ 1000 := by omega
  have hm1 : m ≤ 1000 := by omega
  clear ha hb hn hm hN hla hlb
  go_enter Tryd.func70, Tryd.ntmps70
  go_wp2_with fail
  go_loopw [5] (fun i wr => ∃ k q : Nat, k ≤ n ∧ k ≤ m ∧ i = .int .i64 k ∧ wr = w.drewN q ∧ N = k + partsL (a.drop k) (b.drop k)) (fun i _ => n - (intOf i).toNat)
  case atStart => exact ⟨0, 0, Nat.zero_le _, Nat.zero_le _, rfl, rfl, by rw [HN.out]; simp⟩
  case round =>
    obtain ⟨k, q, hkn, hkm, rfl, hw, hk⟩ := hrel
    have HW := Lib.hid hw
    have HKK := Lib.hid hk
    have HAr : Hid (HReads wr (.slice aa n ca) a) := by unfold Hid; rw [hw]; exact HA.out
    have HBr : Hid (HReads wr (.slice ab m cb) b) := by unfold Hid; rw [hw]; exact HB.out
    clear hw hk
    by_cases h1 : k < n
    · have e1 : (k : Int) < n := by omega
      by_cases h2 : k < m
      · have e2 : (k : Int) < m := by omega
        obtain ⟨x, hx⟩ : ∃ x, a[k]? = some x := ⟨_, List.getElem?_eq_getElem (by have := Hn.out; omega)⟩
        obtain ⟨y, hy⟩ : ∃ y, b[k]? = some y := ⟨_, List.getElem?_eq_getElem (by have := Hm.out; omega)⟩
        obtain ⟨b1, o1, rfl, c0, c1, c2⟩ := HAr.out.at hx
        obtain ⟨b2, o2, rfl, d0, d1, d2⟩ := HBr.out.at hy
        have hd := Lib.hid (show partsL (a.drop k) (b.drop k) = if x = y then partsL (a.drop (k + 1)) (b.drop (k + 1)) + 1 else 0 by rw [drop_at hx, drop_at hy]; rfl)
        clear hx hy
        rcases Hd.cmp x y with rfl | ⟨hne, hcases⟩
        · rw [if_pos rfl] at hd
          go_wp2_with fail
          go_quiet (fail)
          go_wp2_with fail
          go_roundw
          case rel => exact ⟨k + 1, q + nq, by omega, by omega, by go_num, by rw [HW.out, World.drewN_drewN], by rw [HKK.out, hd.out]; omega⟩
          case measure => simp [intOf]; omega
        · rw [if_neg hne] at hd
          have HNe := Lib.hid hne
          clear hne
          rcases hcases with f1 | ⟨f1, f2⟩ | ⟨f1, f2, f3⟩
          all_goals
            go_wp2_with fail
            go_quiet (fail)
            go_wp2_with fail
            go_ret
            exact ⟨by rw [HKK.out, hd.out]; rfl, by rw [HW.out]; exact belowN (belowN (Below.refl _ _) _) _⟩
      · have e2 : ¬ (k : Int) < m := by omega
        have hd2 : decide (k < m) = false := decide_eq_false h2
        have hfin : Hid (N = k) := by unfold Hid; rw [HKK.out, partsL_end _ _ (.inr (List.drop_of_length_le (by have := Hm.out; omega)))]; rfl
        go_wp2_with fail
        go_quiet (fail)
        go_wp2_with fail
        go_ret
        exact ⟨by rw [hfin.out]; rfl, by rw [HW.out]; exact belowN (belowN (Below.refl _ _) _) _⟩
    · have e1 : ¬ (k : Int) < n := by omega
      have hd2 : decide (k < n) = false := decide_eq_false h1
      have hfin : Hid (N = k) := by unfold Hid; rw [HKK.out, partsL_end _ _ (.inl (List.drop_of_length_le (by have := Hn.out; omega)))]; rfl
      go_wp2_with fail
      go_quiet (fail)
      go_wp2_with fail
      go_ret
      exact ⟨by rw [hfin.out]; rfl, by rw [HW.out]; exact belowN (belowN (Below.refl _ _) _) _⟩
end Go.Proofs.YtfhjnfocmlndpaaDoor
