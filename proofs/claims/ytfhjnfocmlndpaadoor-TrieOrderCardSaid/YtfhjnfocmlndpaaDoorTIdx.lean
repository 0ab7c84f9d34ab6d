/- slices.IndexFunc and ContainsFunc over items, at whatever predicate. -/
import Derived.Test.YtfhjnfocmlndpaaDoorTItems
namespace Go.Proofs.YtfhjnfocmlndpaaDoor
open Go Go.RowKit Go.Proofs

def idxI (p : It → Bool) (l : List It) : Int := match l.findIdx? p with
  | some k => k
  | none => -1
/-- what is asked of a predicate -/
def PredI (g : Nat) (lb : Array Value) (p : It → Bool) (l : List It) (w : World) : Prop :=
  ∀ x ∈ l, ∀ W, Below w.heap.size w W → Calls Tryd.prog g (#[x.val] ++ lb) W fun e w' => e = .returned (.bool (p x)) ∧ Below W.heap.size W w'
theorem idxI_at {p : It → Bool} {l : List It} {k : Nat} {x : It} (hx : l[k]? = some x) (hp : p x = true) (h : ∀ j y, j < k → l[j]? = some y → p y = false) : idxI p l = k := by
  have hk := (List.getElem?_eq_some_iff.1 hx).1
  have : l.findIdx? p = some k := by
    rw [List.findIdx?_eq_some_iff_getElem]
    refine ⟨hk, ?_, fun j hj => ?_⟩
    · rw [(List.getElem?_eq_some_iff.1 hx).2]; exact hp
    · rw [h j l[j] hj (List.getElem?_eq_getElem (by omega))]; decide
  unfold idxI
  rw [this]
theorem idxI_none {p : It → Bool} {l : List It} (h : ∀ j y, j < l.length → l[j]? = some y → p y = false) : idxI p l = -1 := by
  have : l.findIdx? p = none := by
    rw [List.findIdx?_eq_none_iff]
    intro x hx
    obtain ⟨j, hj, rfl⟩ := List.mem_iff_getElem.1 hx
    exact h j _ hj (List.getElem?_eq_getElem hj)
  unfold idxI
  rw [this]
theorem idxI_lt (p : It → Bool) (l : List It) : idxI p l = -1 ∨ ∃ (k : Nat) (x : It), idxI p l = (k : Int) ∧ l[k]? = some x ∧ p x = true := by
  unfold idxI
  cases h : l.findIdx? p with
  | none => exact .inl rfl
  | some k =>
    right
    rw [List.findIdx?_eq_some_iff_getElem] at h
    obtain ⟨hk, hp, _⟩ := h
    exact ⟨k, l[k], rfl, List.getElem?_eq_getElem hk, hp⟩
theorem idxI_neg {p : It → Bool} {l : List It} (h : idxI p l = -1) : ∀ x ∈ l, p x = false := by
  unfold idxI at h
  cases hf : l.findIdx? p with
  | none => exact fun x hx => List.findIdx?_eq_none_iff.1 hf x hx
  | some k => rw [hf] at h; simp only at h; omega
set_option maxRecDepth 20000 in
set_option maxHeartbeats 1000000 in
theorem iidx_gen (g : Nat) (lb : Array Value) (eg : ∀ args w, (callFunc g args).run Tryd.prog w = .ok (.enter g args) w) (p : It → Bool) (v : Value) (l : List It) (w : World) (hv : IReads w v l) (hl : l.length ≤ 1000) (hp : PredI g lb p l w) :
    Calls Tryd.prog 86 #[v, .func (Fn.func g) #[] lb] w fun e w' => e = .returned (.int .i64 (idxI p l)) ∧ Below w.heap.size w w' := by
  obtain ⟨a, cap, rfl, -⟩ := hv.shape
  obtain ⟨n, hn⟩ : ∃ n, n = l.length := ⟨_, rfl⟩
  obtain ⟨N, hN⟩ : ∃ N, N = idxI p l := ⟨_, rfl⟩
  rw [← hn, ← hN]
  have Hv := Lib.hid (hn ▸ hv : IReads w (.slice a n cap) l)
  have Hn := Lib.hid hn
  have HN := Lib.hid hN
  have Hp := Lib.hid hp
  have hn1000 : n ≤ 1000 := by omega
  clear hv hn hl hp hN
  go_enter Tryd.func86, Tryd.ntmps86
  go_wp2_with fail
  go_loopw [8] (fun i wr => ∃ k : Nat, k ≤ n ∧ i = .int .i64 k ∧ Below w.heap.size w wr ∧ ∀ j y, j < k → l[j]? = some y → p y = false) (fun i _ => n - (intOf i).toNat)
  case atStart => exact ⟨0, Nat.zero_le _, rfl, Below.refl _ _, fun j _ hj _ => absurd hj (Nat.not_lt_zero _)⟩
  case round =>
    obtain ⟨k, hk, rfl, hBw, hno⟩ := hrel
    have HBw := Lib.hid hBw
    have HNo := Lib.hid hno
    clear hBw hno
    by_cases hlt : k < n
    · have hkl : k < l.length := by have := Hn.out; omega
      obtain ⟨x, hx⟩ : ∃ x, l[k]? = some x := ⟨l[k], List.getElem?_eq_getElem hkl⟩
      obtain ⟨b, off, rfl, c0, c1⟩ := (Hv.out.mono HBw.out).at hx
      have HX := Lib.hid hx
      have hP := Lib.hid (Hp.out x (List.mem_of_getElem? hx) wr HBw.out)
      clear hx
      cases hpx : p x with
      | true =>
        rw [hpx] at hP
        unfold It.val at hP
        have hfin : Hid (N = k) := by unfold Hid; rw [HN.out]; exact idxI_at HX.out hpx HNo.out
        clear hpx
        go_wp2_with fail
        refine hP.out.mono ?_
        rintro e w1 ⟨rfl, hB1⟩
        go_wp2_with fail
        go_ret
        exact ⟨by rw [hfin.out]; rfl, HBw.out.trans (hB1.mono HBw.out.size)⟩
      | false =>
        rw [hpx] at hP
        unfold It.val at hP
        have HNe := Lib.hid hpx
        clear hpx
        go_wp2_with fail
        refine hP.out.mono ?_
        rintro e w1 ⟨rfl, hB1⟩
        go_wp2_with fail
        go_roundw
        case rel =>
          refine ⟨k + 1, by omega, by go_num, HBw.out.trans (hB1.mono HBw.out.size), fun j y hj hy => ?_⟩
          rcases Nat.lt_or_ge j k with h3 | h3
          · exact HNo.out j y h3 hy
          · rw [show j = k by omega, HX.out] at hy
            rw [← Option.some.inj hy]
            exact HNe.out
        case measure => simp [intOf]; omega
    · have hd1 : decide (k < n) = false := decide_eq_false hlt
      have hfin : Hid (N = -1) := by unfold Hid; rw [HN.out]; exact idxI_none (fun j y hj hy => HNo.out j y (by have := Hn.out; omega) hy)
      go_wp2_with fail
      go_ret
      exact ⟨by rw [hfin.out]; rfl, HBw.out⟩
set_option maxRecDepth 20000 in
theorem ihas_gen (g : Nat) (lb : Array Value) (eg : ∀ args w, (callFunc g args).run Tryd.prog w = .ok (.enter g args) w) (p : It → Bool) (v : Value) (l : List It) (w : World) (hv : IReads w v l) (hl : l.length ≤ 1000) (hp : PredI g lb p l w) :
    Calls Tryd.prog 81 #[v, .func (Fn.func g) #[] lb] w (BoolPost (l.any p) w) := by
  have HI := Lib.hid (iidx_gen g lb eg p v l w hv hl hp)
  unfold BoolPost
  have hcase := idxI_lt p l
  have hneg : Hid (idxI p l = -1 → l.any p = false) := fun h => List.any_eq_false.2 (fun x hx => by rw [idxI_neg h x hx]; decide)
  generalize idxI p l = N at *
  rcases hcase with rfl | ⟨k, x, rfl, hx, hpx⟩
  · rw [hneg.out rfl]
    clear hv hl hp eg
    go_enter Tryd.func81, Tryd.ntmps81
    go_wp2_with (go_at_call 86; refine HI.out.mono ?_; rintro e w1 ⟨rfl, hB1⟩)
    go_ret
    exact ⟨rfl, hB1⟩
  · rw [List.any_eq_true.2 ⟨x, List.mem_of_getElem? hx, hpx⟩]
    have h0 : (0 : Int) ≤ k := by omega
    clear hv hl hp eg hx hpx hneg
    go_enter Tryd.func81, Tryd.ntmps81
    go_wp2_with (go_at_call 86; refine HI.out.mono ?_; rintro e w1 ⟨rfl, hB1⟩)
    go_ret
    exact ⟨rfl, hB1⟩
end Go.Proofs.YtfhjnfocmlndpaaDoor
