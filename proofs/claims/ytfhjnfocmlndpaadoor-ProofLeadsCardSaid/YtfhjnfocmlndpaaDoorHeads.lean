/- Lists of heads: the laws' guard, Next, Whole, Parts, Has. -/
import Derived.Test.YtfhjnfocmlndpaaDoorChainR
import Derived.Test.YtfhjnfocmlndpaaDoorLawOnce
namespace Go.Proofs.YtfhjnfocmlndpaaDoor
open Go Go.RowKit Go.Proofs

def hcells (l : List Hd) : List Value := l.flatMap Hd.cells
theorem hcells_get {l : List Hd} {k : Nat} {h : Hd} (hk : l[k]? = some h) : (hcells l)[3 * k]? = some (.int .i64 h.epoch) ∧ (hcells l)[3 * k + 1]? = some (.string h.root) ∧ (hcells l)[3 * k + 2]? = some (.string h.prev) := by
  induction l generalizing k with
  | nil => simp at hk
  | cons x l ih =>
    cases k with
    | zero =>
      simp only [List.getElem?_cons_zero, Option.some.injEq] at hk
      subst hk
      exact ⟨rfl, rfl, rfl⟩
    | succ k =>
      simp only [List.getElem?_cons_succ] at hk
      have := ih hk
      have e : hcells (x :: l) = [.int .i64 x.epoch, .string x.root, .string x.prev] ++ hcells l := rfl
      rw [e, show 3 * (k + 1) = 3 * k + 3 from by omega]
      refine ⟨?_, ?_, ?_⟩
      · rw [List.getElem?_append_right (by simp)]; simpa using this.1
      · rw [List.getElem?_append_right (by simp)]; simpa [show 3 * k + 3 + 1 - 3 = 3 * k + 1 from by omega] using this.2.1
      · rw [List.getElem?_append_right (by simp)]; simpa [show 3 * k + 3 + 2 - 3 = 3 * k + 2 from by omega] using this.2.2
/-- the slice v reads as the heads l -/
def HReads (w : World) (v : Value) (l : List Hd) : Prop := Reads w v l.length 3 (hcells l)
theorem HReads.mono {w w' : World} {v : Value} {l : List Hd} (h : HReads w v l) (hb : Below w.heap.size w w') : HReads w' v l := Reads.mono h hb
theorem HReads.shape {w : World} {v : Value} {l : List Hd} (h : HReads w v l) : ∃ a cap, v = .slice a l.length cap := by
  rcases h.2 with ⟨_, a, c, rfl⟩ | ⟨b, off, cap, rfl, _⟩
  · exact ⟨a, c, rfl⟩
  · exact ⟨_, cap, rfl⟩
theorem HReads.at {w : World} {a : Option Addr} {n cap : Nat} {l : List Hd} (h : HReads w (.slice a n cap) l) {k : Nat} {x : Hd} (hk : l[k]? = some x) :
    ∃ b off, a = some ⟨b, off, none⟩ ∧ w.cell? ⟨b, off + k * 3, none⟩ = some (.int .i64 x.epoch) ∧ w.cell? ⟨b, off + k * 3 + 1, none⟩ = some (.string x.root) ∧ w.cell? ⟨b, off + k * 3 + 2, none⟩ = some (.string x.prev) := by
  obtain ⟨h1, h2, h3⟩ := hcells_get hk
  rcases h.2 with ⟨h0, _⟩ | ⟨b, off, cap', he, hc⟩
  · rw [h0] at h1; simp at h1
  · simp only [Value.slice.injEq] at he
    refine ⟨b, off, he.1, ?_, ?_, ?_⟩
    · rw [show off + k * 3 = off + 3 * k from by omega]; exact hc _ _ h1
    · rw [show off + k * 3 + 1 = off + (3 * k + 1) from by omega]; exact hc _ _ h2
    · rw [show off + k * 3 + 2 = off + (3 * k + 2) from by omega]; exact hc _ _ h3
def HFew (l : List Hd) : Prop := l.length ≤ 12 ∧ ∀ h ∈ l, h.root.size ≤ 60 ∧ h.prev.size ≤ 60
def HeadsPost (l : List Hd) (w : World) (e : Ending) (w' : World) : Prop := ∃ b, e = .returned (.bool b) ∧ w' = w ∧ (b = true ↔ HFew l)
set_option maxRecDepth 20000 in
theorem heads_any (v : Value) (l : List Hd) (w : World) (hv : HReads w v l) : Calls Tryd.prog 60 #[v] w (HeadsPost l w) := by
  obtain ⟨a, cap, rfl⟩ := hv.shape
  obtain ⟨n, hn⟩ : ∃ n, n = l.length := ⟨_, rfl⟩
  rw [← hn] at hv ⊢
  have Hv := Lib.hid hv
  have Hn := Lib.hid hn
  clear hn hv
  by_cases h12 : 12 < n
  · have e1 : (12 : Int) < n := by omega
    go_enter Tryd.func60, Tryd.ntmps60
    go_wp2_with fail
    go_ret
    exact ⟨false, rfl, rfl, fun h => (by cases h), fun h => (by have := h.1; have := Hn.out; omega)⟩
  · have e1 : ¬ (12 : Int) < n := by omega
    go_enter Tryd.func60, Tryd.ntmps60
    go_wp2_with fail
    go_loopw [3] (fun i wr => ∃ k : Nat, k ≤ n ∧ i = .int .i64 k ∧ wr = w ∧ ∀ h ∈ l.take k, h.root.size ≤ 60 ∧ h.prev.size ≤ 60) (fun i _ => n - (intOf i).toNat)
    case atStart => exact ⟨0, Nat.zero_le _, rfl, rfl, by simp⟩
    case round =>
      obtain ⟨k, hk, rfl, rfl, hall⟩ := hrel
      have HA := Lib.hid hall
      clear hall
      by_cases hlt : k < n
      · have hkl : k < l.length := by have := Hn.out; omega
        obtain ⟨x, hx⟩ : ∃ x, l[k]? = some x := ⟨l[k], List.getElem?_eq_getElem hkl⟩
        obtain ⟨b, off, rfl, c0, c1, c2⟩ := Hv.out.at hx
        have HX := Lib.hid hx
        clear hx
        by_cases h1 : x.root.size ≤ 60
        · have H1 := Lib.hid (long_no x.root wr h1)
          by_cases h2 : x.prev.size ≤ 60
          · have H2 := Lib.hid (long_no x.prev wr h2)
            go_wp2_with (first
              | (go_at_call 23; with_reducible refine H1.out.mono ?_; rintro e w1 ⟨rfl, hw⟩; have hw2 := hw.symm; subst hw2)
              | (go_at_call 23; with_reducible refine H2.out.mono ?_; rintro e w1 ⟨rfl, hw⟩; have hw2 := hw.symm; subst hw2))
            go_roundw
            case rel =>
              refine ⟨k + 1, by omega, by go_num, by first | rfl | trivial, fun y hy => ?_⟩
              rw [List.take_succ_eq_append_getElem hkl, List.mem_append] at hy
              rcases hy with hy | hy
              · exact HA.out y hy
              · have h3 := HX.out
                rw [List.getElem?_eq_getElem hkl] at h3
                simp only [List.mem_singleton] at hy
                rw [hy, Option.some.inj h3]
                exact ⟨h1, h2⟩
            case measure => simp [intOf]; omega
          · have H2 := Lib.hid (long_yes x.prev wr h2)
            go_wp2_with (first
              | (go_at_call 23; with_reducible refine H1.out.mono ?_; rintro e w1 ⟨rfl, hw⟩; have hw2 := hw.symm; subst hw2)
              | (go_at_call 23; with_reducible refine H2.out.mono ?_; rintro e w1 ⟨rfl, hw⟩; have hw2 := hw.symm; subst hw2))
            go_ret
            exact ⟨false, rfl, rfl, fun h => (by cases h), fun h => absurd (h.2 x (List.mem_of_getElem? HX.out)).2 h2⟩
        · have H1 := Lib.hid (long_yes x.root wr h1)
          go_wp2_with (first
            | (go_at_call 23; with_reducible refine H1.out.mono ?_; rintro e w1 ⟨rfl, hw⟩; have hw2 := hw.symm; subst hw2))
          go_ret
          exact ⟨false, rfl, rfl, fun h => (by cases h), fun h => absurd (h.2 x (List.mem_of_getElem? HX.out)).1 h1⟩
      · have hd1 : decide (k < n) = false := decide_eq_false hlt
        have hfin := HA.out
        rw [List.take_of_length_le (by have := Hn.out; omega)] at hfin
        have HF := Lib.hid hfin
        clear hfin
        go_wp2_with fail
        go_ret
        exact ⟨true, rfl, rfl, fun _ => ⟨by have := Hn.out; omega, HF.out⟩, fun _ => rfl⟩
end Go.Proofs.YtfhjnfocmlndpaaDoor
