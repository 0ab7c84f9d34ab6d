/- How far two lists of heads are alike. -/
import Derived.Test.YtfhjnfocmlndpaaDoorSjChain
import Derived.Test.YtfhjnfocmlndpaaDoorSjChainR
import Derived.Test.YtfhjnfocmlndpaaDoorSjLawOnce
namespace Go.Proofs.YtfhjnfocmlndpaaDoor
open Go Go.RowKit Go.Proofs

def hcells (l : List Hd) : List Value := l.flatMap Hd.cells
theorem hcells_get {l : List Hd} {k : Nat} {h : Hd} (hk : l[k]? = some h) : (hcells l)[3 * k]? = some (.int .i64 h.epoch) ∧ (hcells l)[3 * k + 1]? = some (.string h.root) ∧ (hcells l)[3 * k + 2]? = some (.string h.prev) := by
  induction l generalizing k with
  | nil => simp at hk
  | cons x l ih =>
    cases k with
    | zero =>
      simp only [List.getElem?_cons_zero, Option.some.injEq] at hk
      subst hk
      exact ⟨rfl, rfl, rfl⟩
    | succ k =>
      simp only [List.getElem?_cons_succ] at hk
      have := ih hk
      have e : hcells (x :: l) = [.int .i64 x.epoch, .string x.root, .string x.prev] ++ hcells l := rfl
      rw [e, show 3 * (k + 1) = 3 * k + 3 from by omega]
      refine ⟨?_, ?_, ?_⟩
      · rw [List.getElem?_append_right (by simp)]; simpa using this.1
      · rw [List.getElem?_append_right (by simp)]; simpa [show 3 * k + 3 + 1 - 3 = 3 * k + 1 from by omega] using this.2.1
      · rw [List.getElem?_append_right (by simp)]; simpa [show 3 * k + 3 + 2 - 3 = 3 * k + 2 from by omega] using this.2.2
/-- the slice v reads as the heads l -/
def HReads (w : World) (v : Value) (l : List Hd) : Prop := Reads w v l.length 3 (hcells l)
theorem HReads.mono {w w' : World} {v : Value} {l : List Hd} (h : HReads w v l) (hb : Below w.heap.size w w') : HReads w' v l := Reads.mono h hb
theorem HReads.shape {w : World} {v : Value} {l : List Hd} (h : HReads w v l) : ∃ a cap, v = .slice a l.length cap := by
  rcases h.2 with ⟨_, a, c, rfl⟩ | ⟨b, off, cap, rfl, _⟩
  · exact ⟨a, c, rfl⟩
  · exact ⟨_, cap, rfl⟩
theorem HReads.at {w : World} {a : Option Addr} {n cap : Nat} {l : List Hd} (h : HReads w (.slice a n cap) l) {k : Nat} {x : Hd} (hk : l[k]? = some x) :
    ∃ b off, a = some ⟨b, off, none⟩ ∧ w.cell? ⟨b, off + k * 3, none⟩ = some (.int .i64 x.epoch) ∧ w.cell? ⟨b, off + k * 3 + 1, none⟩ = some (.string x.root) ∧ w.cell? ⟨b, off + k * 3 + 2, none⟩ = some (.string x.prev) := by
  obtain ⟨h1, h2, h3⟩ := hcells_get hk
  rcases h.2 with ⟨h0, _⟩ | ⟨b, off, cap', he, hc⟩
  · rw [h0] at h1; simp at h1
  · simp only [Value.slice.injEq] at he
    refine ⟨b, off, he.1, ?_, ?_, ?_⟩
    · rw [show off + k * 3 = off + 3 * k from by omega]; exact hc _ _ h1
    · rw [show off + k * 3 + 1 = off + (3 * k + 1) from by omega]; exact hc _ _ h2
    · rw [show off + k * 3 + 2 = off + (3 * k + 2) from by omega]; exact hc _ _ h3
end Go.Proofs.YtfhjnfocmlndpaaDoor

namespace Go.Proofs.YtfhjnfocmlndpaaDoor
open Go Go.RowKit Go.Proofs

def HFew (l : List Hd) : Prop := l.length ≤ 12 ∧ ∀ h ∈ l, h.root.size ≤ 60 ∧ h.prev.size ≤ 60
def HeadsPost (l : List Hd) (w : World) (e : Ending) (w' : World) : Prop := ∃ b, e = .returned (.bool b) ∧ w' = w ∧ (b = true ↔ HFew l)
set_option maxRecDepth 20000 in
theorem heads_any (v : Value) (l : List Hd) (w : World) (hv : HReads w v l) : Calls Tryd.prog 60 #[v] w (HeadsPost l w) := by
  obtain ⟨a, cap, rfl⟩ := hv.shape
  obtain ⟨n, hn⟩ : ∃ n, n = l.length := ⟨_, rfl⟩
  rw [← hn] at hv ⊢
  have Hv := Lib.hid hv
  have Hn := Lib.hid hn
  clear hn hv
  by_cases h12 : 12 < n
  · have e1 : (12 : Int) < n := by omega
    go_enter Tryd.func60, Tryd.ntmps60
    go_wp2_with fail
    go_ret
    exact ⟨false, rfl, rfl, fun h => (by cases h), fun h => (by have := h.1; have := Hn.out; omega)⟩
  · have e1 : ¬ (12 : Int) < n := by omega
    go_enter Tryd.func60, Tryd.ntmps60
    go_wp2_with fail
    go_loopw [3] (fun i wr => ∃ k : Nat, k ≤ n ∧ i = .int .i64 k ∧ wr = w ∧ ∀ h ∈ l.take k, h.root.size ≤ 60 ∧ h.prev.size ≤ 60) (fun i _ => n - (intOf i).toNat)
    case atStart => exact ⟨0, Nat.zero_le _, rfl, rfl, by simp⟩
    case round =>
      obtain ⟨k, hk, rfl, rfl, hall⟩ := hrel
      have HA := Lib.hid hall
      clear hall
      by_cases hlt : k < n
      · have hkl : k < l.length := by have := Hn.out; omega
        obtain ⟨x, hx⟩ : ∃ x, l[k]? = some x := ⟨l[k], List.getElem?_eq_getElem hkl⟩
        obtain ⟨b, off, rfl, c0, c1, c2⟩ := Hv.out.at hx
        have HX := Lib.hid hx
        clear hx
        by_cases h1 : x.root.size ≤ 60
        · have H1 := Lib.hid (long_no x.root wr h1)
          by_cases h2 : x.prev.size ≤ 60
          · have H2 := Lib.hid (long_no x.prev wr h2)
            go_wp2_with (first
              | (go_at_call 23; with_reducible refine H1.out.mono ?_; rintro e w1 ⟨rfl, hw⟩; have hw2 := hw.symm; subst hw2)
              | (go_at_call 23; with_reducible refine H2.out.mono ?_; rintro e w1 ⟨rfl, hw⟩; have hw2 := hw.symm; subst hw2))
            go_roundw
            case rel =>
              refine ⟨k + 1, by omega, by go_num, by first | rfl | trivial, fun y hy => ?_⟩
              rw [List.take_succ_eq_append_getElem hkl, List.mem_append] at hy
              rcases hy with hy | hy
              · exact HA.out y hy
              · have h3 := HX.out
                rw [List.getElem?_eq_getElem hkl] at h3
                simp only [List.mem_singleton] at hy
                rw [hy, Option.some.inj h3]
                exact ⟨h1, h2⟩
            case measure => simp [intOf]; omega
          · have H2 := Lib.hid (long_yes x.prev wr h2)
            go_wp2_with (first
              | (go_at_call 23; with_reducible refine H1.out.mono ?_; rintro e w1 ⟨rfl, hw⟩; have hw2 := hw.symm; subst hw2)
              | (go_at_call 23; with_reducible refine H2.out.mono ?_; rintro e w1 ⟨rfl, hw⟩; have hw2 := hw.symm; subst hw2))
            go_ret
            exact ⟨false, rfl, rfl, fun h => (by cases h), fun h => absurd (h.2 x (List.mem_of_getElem? HX.out)).2 h2⟩
        · have H1 := Lib.hid (long_yes x.root wr h1)
          go_wp2_with (first
            | (go_at_call 23; with_reducible refine H1.out.mono ?_; rintro e w1 ⟨rfl, hw⟩; have hw2 := hw.symm; subst hw2))
          go_ret
          exact ⟨false, rfl, rfl, fun h => (by cases h), fun h => absurd (h.2 x (List.mem_of_getElem? HX.out)).1 h1⟩
      · have hd1 : decide (k < n) = false := decide_eq_false hlt
        have hfin := HA.out
        rw [List.take_of_length_le (by have := Hn.out; omega)] at hfin
        have HF := Lib.hid hfin
        clear hfin
        go_wp2_with fail
        go_ret
        exact ⟨true, rfl, rfl, fun _ => ⟨by have := Hn.out; omega, HF.out⟩, fun _ => rfl⟩
end Go.Proofs.YtfhjnfocmlndpaaDoor

namespace Go.Proofs.YtfhjnfocmlndpaaDoor
open Go Go.RowKit Go.Proofs

instance : DecidableEq Hd := fun a b => decidable_of_iff (a.epoch = b.epoch ∧ a.root = b.root ∧ a.prev = b.prev) ⟨fun ⟨h1, h2, h3⟩ => by cases a; cases b; simp_all, fun h => by rw [h]; exact ⟨rfl, rfl, rfl⟩⟩
def partsL : List Hd → List Hd → Nat
  | x :: a, y :: b => if x = y then partsL a b + 1 else 0
  | _, _ => 0
theorem partsL_end (a b : List Hd) (h : a = [] ∨ b = []) : partsL a b = 0 := by
  rcases h with rfl | rfl
  · cases b <;> rfl
  · cases a <;> rfl
theorem drop_at {α : Type} {l : List α} {k : Nat} {x : α} (h : l[k]? = some x) : l.drop k = x :: l.drop (k + 1) := by
  have hk := (List.getElem?_eq_some_iff.1 h).1
  rw [List.drop_eq_getElem_cons hk, (List.getElem?_eq_some_iff.1 h).2]
theorem bytes_of_toList {a b : ByteArray} (h : a.toList = b.toList) : a = b := by
  rw [ByteArray.toList_eq, ByteArray.toList_eq] at h
  exact ByteArray.ext (Array.ext' h)
theorem Hd.cmp (x y : Hd) : x = y ∨ (x ≠ y ∧ (¬ x.epoch = y.epoch ∨ (x.epoch = y.epoch ∧ ¬ x.root.toList = y.root.toList) ∨ (x.epoch = y.epoch ∧ x.root.toList = y.root.toList ∧ ¬ x.prev.toList = y.prev.toList))) := by
  by_cases h : x = y
  · exact .inl h
  · refine .inr ⟨h, ?_⟩
    by_cases h1 : x.epoch = y.epoch
    · by_cases h2 : x.root.toList = y.root.toList
      · refine .inr (.inr ⟨h1, h2, fun h3 => h ?_⟩)
        cases x; cases y
        simp only [Hd.mk.injEq]
        exact ⟨h1, bytes_of_toList h2, bytes_of_toList h3⟩
      · exact .inr (.inl ⟨h1, h2⟩)
    · exact .inl h1
set_option maxRecDepth 20000 in
set_option maxHeartbeats 4000000 in
theorem cparts_any (va vb : Value) (a b : List Hd) (w : World) (ha : HReads w va a) (hb : HReads w vb b) (hla : a.length ≤ 1000) (hlb : b.length ≤ 1000) :
    Calls Tryd.prog 70 #[va, vb] w fun e w' => e = .returned (.int .i64 (partsL a b : Nat)) ∧ Below w.heap.size w w' := by
  obtain ⟨aa, ca, rfl⟩ := ha.shape
  obtain ⟨ab, cb, rfl⟩ := hb.shape
  obtain ⟨n, hn⟩ : ∃ n, n = a.length := ⟨_, rfl⟩
  obtain ⟨m, hm⟩ : ∃ m, m = b.length := ⟨_, rfl⟩
  obtain ⟨N, hN⟩ : ∃ N, N = partsL a b := ⟨_, rfl⟩
  rw [← hn, ← hm, ← hN]
  have HA := Lib.hid (hn ▸ ha : HReads w (.slice aa n ca) a)
  have HB := Lib.hid (hm ▸ hb : HReads w (.slice ab m cb) b)
  have Hn := Lib.hid hn
  have Hm := Lib.hid hm
  have HN := Lib.hid hN
  have hn1 : n ≤ 1000 := by omega
  have hm1 : m ≤ 1000 := by omega
  clear ha hb hn hm hN hla hlb
  go_enter Tryd.func70, Tryd.ntmps70
  go_wp2_with fail
  go_loopw [5] (fun i wr => ∃ k q : Nat, k ≤ n ∧ k ≤ m ∧ i = .int .i64 k ∧ wr = w.drewN q ∧ N = k + partsL (a.drop k) (b.drop k)) (fun i _ => n - (intOf i).toNat)
  case atStart => exact ⟨0, 0, Nat.zero_le _, Nat.zero_le _, rfl, rfl, by rw [HN.out]; simp⟩
  case round =>
    obtain ⟨k, q, hkn, hkm, rfl, hw, hk⟩ := hrel
    have HW := Lib.hid hw
    have HKK := Lib.hid hk
    have HAr : Hid (HReads wr (.slice aa n ca) a) := by unfold Hid; rw [hw]; exact HA.out
    have HBr : Hid (HReads wr (.slice ab m cb) b) := by unfold Hid; rw [hw]; exact HB.out
    clear hw hk
    by_cases h1 : k < n
    · have e1 : (k : Int) < n := by omega
      by_cases h2 : k < m
      · have e2 : (k : Int) < m := by omega
        obtain ⟨x, hx⟩ : ∃ x, a[k]? = some x := ⟨_, List.getElem?_eq_getElem (by have := Hn.out; omega)⟩
        obtain ⟨y, hy⟩ : ∃ y, b[k]? = some y := ⟨_, List.getElem?_eq_getElem (by have := Hm.out; omega)⟩
        obtain ⟨b1, o1, rfl, c0, c1, c2⟩ := HAr.out.at hx
        obtain ⟨b2, o2, rfl, d0, d1, d2⟩ := HBr.out.at hy
        have hd := Lib.hid (show partsL (a.drop k) (b.drop k) = if x = y then partsL (a.drop (k + 1)) (b.drop (k + 1)) + 1 else 0 by rw [drop_at hx, drop_at hy]; rfl)
        clear hx hy
        rcases Hd.cmp x y with rfl | ⟨hne, hcases⟩
        · rw [if_pos rfl] at hd
          go_wp2_with fail
          go_quiet (fail)
          go_wp2_with fail
          go_roundw
          case rel => exact ⟨k + 1, q + nq, by omega, by omega, by go_num, by rw [HW.out, World.drewN_drewN], by rw [HKK.out, hd.out]; omega⟩
          case measure => simp [intOf]; omega
        · rw [if_neg hne] at hd
          have HNe := Lib.hid hne
          clear hne
          rcases hcases with f1 | ⟨f1, f2⟩ | ⟨f1, f2, f3⟩
          all_goals
            go_wp2_with fail
            go_quiet (fail)
            go_wp2_with fail
            go_ret
            exact ⟨by rw [HKK.out, hd.out]; rfl, by rw [HW.out]; exact belowN (belowN (Below.refl _ _) _) _⟩
      · have e2 : ¬ (k : Int) < m := by omega
        have hd2 : decide (k < m) = false := decide_eq_false h2
        have hfin : Hid (N = k) := by unfold Hid; rw [HKK.out, partsL_end _ _ (.inr (List.drop_of_length_le (by have := Hm.out; omega)))]; rfl
        go_wp2_with fail
        go_quiet (fail)
        go_wp2_with fail
        go_ret
        exact ⟨by rw [hfin.out]; rfl, by rw [HW.out]; exact belowN (belowN (Below.refl _ _) _) _⟩
    · have e1 : ¬ (k : Int) < n := by omega
      have hd2 : decide (k < n) = false := decide_eq_false h1
      have hfin : Hid (N = k) := by unfold Hid; rw [HKK.out, partsL_end _ _ (.inl (List.drop_of_length_le (by have := Hn.out; omega)))]; rfl
      go_wp2_with fail
      go_quiet (fail)
      go_wp2_with fail
      go_ret
      exact ⟨by rw [hfin.out]; rfl, by rw [HW.out]; exact belowN (belowN (Below.refl _ _) _) _⟩
end Go.Proofs.YtfhjnfocmlndpaaDoor
