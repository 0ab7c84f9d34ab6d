/- slices.Equal, Index, Contains and Reverse over items. -/
import Derived.Test.YtfhjnfocmlndpaaDoorTSetW
import Derived.Test.YtfhjnfocmlndpaaDoorShelfD
namespace Go.Proofs.YtfhjnfocmlndpaaDoor
open Go Go.RowKit Go.Proofs

theorem It.cmp (x y : It) : x = y ∨ (x ≠ y ∧ (¬ x.ix.toList = y.ix.toList ∨ (x.ix.toList = y.ix.toList ∧ ¬ x.cm.toList = y.cm.toList))) := by
  by_cases h : x = y
  · exact .inl h
  · refine .inr ⟨h, ?_⟩
    by_cases h1 : x.ix.toList = y.ix.toList
    · refine .inr ⟨h1, fun h2 => h ?_⟩
      cases x; cases y
      simp only [It.mk.injEq]
      exact ⟨ba_ext h1, ba_ext h2⟩
    · exact .inl h1
theorem list_ext_take {α : Type} {l m : List α} {n : Nat} (hl : n = l.length) (hm : n = m.length) (h : ∀ j, j < n → l[j]? = m[j]?) : l = m := by
  apply List.ext_getElem?
  intro j
  rcases Nat.lt_or_ge j n with h1 | h1
  · exact h j h1
  · rw [List.getElem?_eq_none (by omega), List.getElem?_eq_none (by omega)]
set_option maxRecDepth 20000 in
set_option maxHeartbeats 4000000 in
theorem tequal_any (va vb : Value) (l m : List It) (w : World) (ha : IReads w va l) (hb : IReads w vb m) (hl : l.length ≤ 1000) (hm : m.length ≤ 1000) :
    Calls Tryd.prog 80 #[va, vb] w (BoolPost (decide (l = m)) w) := by
  obtain ⟨a, ca, rfl, -⟩ := ha.shape
  obtain ⟨b, cb, rfl, -⟩ := hb.shape
  obtain ⟨n, hn⟩ : ∃ n, n = l.length := ⟨_, rfl⟩
  obtain ⟨q, hq⟩ : ∃ q, q = m.length := ⟨_, rfl⟩
  have HA := Lib.hid (hn ▸ ha : IReads w (.slice a n ca) l)
  have HB := Lib.hid (hq ▸ hb : IReads w (.slice b q cb) m)
  have Hn := Lib.hid hn
  have Hq := Lib.hid hq
  have hn1 : n ≤ 1000 := by omega
  have hq1 : q ≤ 1000 := by omega
  obtain ⟨R, hR⟩ : ∃ R, R = decide (l = m) := ⟨_, rfl⟩
  unfold BoolPost
  rw [← hn, ← hq, ← hR]
  have HR := Lib.hid hR
  clear ha hb hn hq hl hm hR
  by_cases hnq : n = q
  · subst hnq
    go_enter Tryd.func80, Tryd.ntmps80
    go_wp2_with fail
    go_loopw [13] (fun i wr => ∃ k p : Nat, k ≤ n ∧ i = .int .i64 k ∧ wr = w.drewN p ∧ ∀ j, j < k → l[j]? = m[j]?) (fun i _ => n - (intOf i).toNat)
    case atStart => exact ⟨0, 0, Nat.zero_le _, rfl, rfl, fun j hj => absurd hj (Nat.not_lt_zero _)⟩
    case round =>
      obtain ⟨k, p, hk, rfl, hw, hall⟩ := hrel
      have HW := Lib.hid hw
      have HAll := Lib.hid hall
      have HAr : Hid (IReads wr (.slice a n ca) l) := by unfold Hid; rw [hw]; exact HA.out.mono (belowN (Below.refl _ _) _)
      have HBr : Hid (IReads wr (.slice b n cb) m) := by unfold Hid; rw [hw]; exact HB.out.mono (belowN (Below.refl _ _) _)
      clear hw hall
      by_cases hlt : k < n
      · have e1 : (k : Int) < n := by omega
        have e0 : (0 : Int) ≤ k := by omega
        obtain ⟨x, hx⟩ : ∃ x, l[k]? = some x := ⟨_, List.getElem?_eq_getElem (by have := Hn.out; omega)⟩
        obtain ⟨y, hy⟩ : ∃ y, m[k]? = some y := ⟨_, List.getElem?_eq_getElem (by have := Hq.out; omega)⟩
        obtain ⟨b1, o1, rfl, c0, c1⟩ := HAr.out.at hx
        obtain ⟨b2, o2, rfl, d0, d1⟩ := HBr.out.at hy
        have HX := Lib.hid hx
        have HY := Lib.hid hy
        clear hx hy
        rcases It.cmp x y with rfl | ⟨hne, hcases⟩
        · go_wp2_with fail
          go_quiet (fail)
          go_wp2_with fail
          go_roundw
          case rel =>
            refine ⟨k + 1, p + nq, by omega, by go_num, by rw [HW.out, World.drewN_drewN], fun j hj => ?_⟩
            rcases Nat.lt_or_ge j k with h3 | h3
            · exact HAll.out j h3
            · rw [show j = k by omega, HX.out, HY.out]
          case measure => simp [intOf]; omega
        · have hf : R = false := by
            rw [HR.out]
            refine decide_eq_false (fun h => hne ?_)
            subst h
            have h3 := HX.out
            rw [HY.out] at h3
            exact (Option.some.inj h3).symm
          subst hf
          clear hne
          rcases hcases with f1 | ⟨f1, f2⟩
          all_goals
            go_wp2_with fail
            go_quiet (fail)
            go_wp2_with fail
            go_ret
            exact ⟨rfl, by rw [HW.out]; exact belowN (belowN (Below.refl _ _) _) _⟩
      · have e1 : ¬ (k : Int) < n := by omega
        have hd2 : decide (k < n) = false := decide_eq_false hlt
        have hf : R = true := by rw [HR.out]; exact decide_eq_true (list_ext_take Hn.out Hq.out (fun j hj => HAll.out j (by omega)))
        subst hf
        go_wp2_with fail
        go_ret
        exact ⟨rfl, by rw [HW.out]; exact belowN (Below.refl _ _) _⟩
  · have hf : R = false := by rw [HR.out]; exact decide_eq_false (fun h => hnq (by have h1 := Hn.out; have h2 := Hq.out; rw [h] at h1; omega))
    subst hf
    have e1 : ((n : Int) == q) = false := by rw [beq_eq_false_iff_ne]; omega
    have e2 : ((n : Int) != q) = true := by rw [bne_iff_ne]; omega
    have e3 : (n == q) = false := by rw [beq_eq_false_iff_ne]; exact hnq
    go_enter Tryd.func80, Tryd.ntmps80
    go_wp2_with fail
    go_ret
    exact ⟨rfl, Below.refl _ _⟩

def posO (x : It) (l : List It) : Int := match l.findIdx? (fun y => decide (x = y)) with
  | some k => k
  | none => -1
set_option maxRecDepth 20000 in
set_option maxHeartbeats 4000000 in
theorem tindex_any (v : Value) (l : List It) (x : It) (w : World) (hv : IReads w v l) (hl : l.length ≤ 1000) :
    Calls Tryd.prog 138 #[v, x.val] w fun e w' => (∃ n : Int, e = .returned (.int .i64 n) ∧ (0 ≤ n ↔ x ∈ l)) ∧ Below w.heap.size w w' := by
  obtain ⟨a, cap, rfl, -⟩ := hv.shape
  obtain ⟨n, hn⟩ : ∃ n, n = l.length := ⟨_, rfl⟩
  rw [← hn]
  have Hv := Lib.hid (hn ▸ hv : IReads w (.slice a n cap) l)
  have Hn := Lib.hid hn
  have hn1000 : n ≤ 1000 := by omega
  have hb : Below w.heap.size w (w.alloc (.cells #[.string x.ix, .string x.cm] 49)) := (Below.refl _ _).alloc (Nat.le_refl _) _
  have b0 : (w.alloc (.cells #[.string x.ix, .string x.cm] 49)).cell? ⟨w.heap.size, 0, none⟩ = some (.string x.ix) := by rw [cell_of_row _ _ _ _ _ _ (heap_alloc_new _ _)]; rfl
  have b1 : (w.alloc (.cells #[.string x.ix, .string x.cm] 49)).cell? ⟨w.heap.size, 1, none⟩ = some (.string x.cm) := by rw [cell_of_row _ _ _ _ _ _ (heap_alloc_new _ _)]; rfl
  obtain ⟨W0, hW0⟩ : ∃ W0, W0 = w.alloc (.cells #[.string x.ix, .string x.cm] 49) := ⟨_, rfl⟩
  have HW0 := Lib.hid hW0
  rw [← hW0] at hb b0 b1
  have Hv0 := Lib.hid (Hv.out.mono hb)
  have Hb := Lib.hid hb
  unfold It.val
  clear hv hn hl hW0 hb
  go_enter Tryd.func138, Tryd.ntmps138
  go_wp2_with fail
  rw [← HW0.out]
  go_loopw [8] (fun i wr => ∃ k p : Nat, k ≤ n ∧ i = .int .i64 k ∧ wr = W0.drewN p ∧ ∀ j y, j < k → l[j]? = some y → x ≠ y) (fun i _ => n - (intOf i).toNat)
  case atStart => exact ⟨0, 0, Nat.zero_le _, rfl, rfl, fun j _ hj => absurd hj (Nat.not_lt_zero _)⟩
  case round =>
    obtain ⟨k, p, hk, rfl, hw, hall⟩ := hrel
    have HW := Lib.hid hw
    have HAll := Lib.hid hall
    have HAr : Hid (IReads wr (.slice a n cap) l) := by unfold Hid; rw [hw]; exact Hv0.out.mono (belowN (Below.refl _ _) _)
    have q0 : wr.cell? ⟨w.heap.size, 0, none⟩ = some (.string x.ix) := by rw [hw]; exact b0
    have q1 : wr.cell? ⟨w.heap.size, 1, none⟩ = some (.string x.cm) := by rw [hw]; exact b1
    clear hw hall
    by_cases hlt : k < n
    · have e1 : (k : Int) < n := by omega
      have e0 : (0 : Int) ≤ k := by omega
      obtain ⟨y, hy⟩ : ∃ y, l[k]? = some y := ⟨_, List.getElem?_eq_getElem (by have := Hn.out; omega)⟩
      obtain ⟨b1, o1, rfl, c0, c1⟩ := HAr.out.at hy
      have HY := Lib.hid hy
      clear hy
      rcases It.cmp x y with rfl | ⟨hne, hcases⟩
      · go_wp2_with fail
        go_quiet (fail)
        go_wp2_with fail
        go_ret
        exact ⟨⟨k, rfl, fun _ => List.mem_of_getElem? HY.out, fun _ => by omega⟩, by rw [HW.out]; exact belowN (belowN Hb.out _) _⟩
      · have HNe := Lib.hid hne
        clear hne
        rcases hcases with f1 | ⟨f1, f2⟩
        all_goals
          go_wp2_with fail
          go_quiet (fail)
          go_wp2_with fail
          go_roundw
          case rel =>
            refine ⟨k + 1, p + nq, by omega, by go_num, by rw [HW.out, World.drewN_drewN], fun j z hj hz => ?_⟩
            rcases Nat.lt_or_ge j k with h3 | h3
            · exact HAll.out j z h3 hz
            · rw [show j = k by omega, HY.out] at hz
              rw [← Option.some.inj hz]
              exact HNe.out
          case measure => simp [intOf]; omega
    · have e1 : ¬ (k : Int) < n := by omega
      have hd2 : decide (k < n) = false := decide_eq_false hlt
      go_wp2_with fail
      go_ret
      refine ⟨⟨-1, rfl, fun h => by omega, fun h => ?_⟩, by rw [HW.out]; exact belowN Hb.out _⟩
      obtain ⟨j, hj, he⟩ := List.mem_iff_getElem.1 h
      exact absurd he.symm (HAll.out j _ (by have := Hn.out; omega) (List.getElem?_eq_getElem hj))
set_option maxRecDepth 20000 in
theorem tcontains_any (v : Value) (l : List It) (x : It) (w : World) (hv : IReads w v l) (hl : l.length ≤ 1000) :
    Calls Tryd.prog 83 #[v, x.val] w (BoolPost (decide (x ∈ l)) w) := by
  have hb : Below w.heap.size w (w.alloc (.cells #[.string x.ix, .string x.cm] 49)) := (Below.refl _ _).alloc (Nat.le_refl _) _
  have HI := Lib.hid (tindex_any v l x _ (hv.mono hb) hl)
  unfold BoolPost
  unfold It.val at HI ⊢
  by_cases h : x ∈ l
  · rw [decide_eq_true h]
    have Hm := Lib.hid h
    clear hv hl h
    go_enter Tryd.func83, Tryd.ntmps83
    go_wp2_with (go_at_call 138; refine HI.out.mono ?_; rintro e w1 ⟨⟨n, rfl, hn⟩, hB1⟩; have h0 := hn.2 Hm.out; clear hn)
    go_ret
    exact ⟨rfl, hb.trans (hB1.mono hb.size)⟩
  · rw [decide_eq_false h]
    have Hm := Lib.hid h
    clear hv hl h
    go_enter Tryd.func83, Tryd.ntmps83
    go_wp2_with (go_at_call 138; refine HI.out.mono ?_; rintro e w1 ⟨⟨n, rfl, hn⟩, hB1⟩; have h0 : ¬ 0 ≤ n := fun h => Hm.out (hn.1 h); have h00 : decide (0 ≤ n) = false := decide_eq_false h0; clear hn)
    go_ret
    exact ⟨rfl, hb.trans (hB1.mono hb.size)⟩
end Go.Proofs.YtfhjnfocmlndpaaDoor
