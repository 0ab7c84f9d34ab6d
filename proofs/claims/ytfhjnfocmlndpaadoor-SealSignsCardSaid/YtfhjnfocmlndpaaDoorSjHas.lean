/- chain.Has of a head that is there; the reference's Parts. -/
import Derived.Test.YtfhjnfocmlndpaaDoorSjParts
import Derived.Test.YtfhjnfocmlndpaaDoorSjRNext
namespace Go.Proofs.YtfhjnfocmlndpaaDoor
open Go Go.RowKit Go.Proofs

set_option maxRecDepth 20000 in
set_option maxHeartbeats 1000000 in
theorem hpred_any (x h : Hd) (B : Nat) (w : World) (hB : Row3 w B (.int .i64 h.epoch) (.string h.root) (.string h.prev)) :
    Calls Tryd.prog 133 #[x.val, .pointer (some ⟨B, 0, none⟩)] w fun e w' => e = .returned (.bool (decide (x = h))) ∧ Below w.heap.size w w' := by
  obtain ⟨c0, c1, c2, -, -, -⟩ := hB.alloc (.cells #[.int .i64 x.epoch, .string x.root, .string x.prev] 63)
  have hb : Below w.heap.size w (w.alloc (.cells #[.int .i64 x.epoch, .string x.root, .string x.prev] 63)) := (Below.refl _ _).alloc (Nat.le_refl _) _
  obtain ⟨D, hD⟩ : ∃ D, D = decide (x = h) := ⟨_, rfl⟩
  rw [← hD]
  have hlt := hB.lt
  have hlt2 : B ≠ w.heap.size := Nat.ne_of_lt hlt
  obtain ⟨d0, d1, d2, -, -, -⟩ := hB
  unfold Hd.val
  rcases Hd.cmp x h with rfl | ⟨hne, hcases⟩
  · obtain rfl : D = true := by rw [hD, decide_eq_true rfl]
    clear hD
    go_enter Tryd.func133, Tryd.ntmps133
    go_wp2_with fail
    go_ret
    exact ⟨rfl, hb⟩
  · obtain rfl : D = false := by rw [hD, decide_eq_false hne]
    clear hD hne
    rcases hcases with f1 | ⟨f1, f2⟩ | ⟨f1, f2, f3⟩
    all_goals
      go_enter Tryd.func133, Tryd.ntmps133
      go_wp2_with fail
      go_ret
      exact ⟨rfl, (Below.refl _ _).alloc (Nat.le_refl _) _⟩
def HIdxPost (w : World) (e : Ending) (w' : World) : Prop := ∃ j : Nat, e = .returned (.int .i64 j) ∧ Below w.heap.size w w'
set_option maxRecDepth 20000 in
set_option maxHeartbeats 1000000 in
theorem hidx_any (v : Value) (l : List Hd) (h : Hd) (B : Nat) (w : World) (hv : HReads w v l) (hl : l.length ≤ 1000) (hB : Row3 w B (.int .i64 h.epoch) (.string h.root) (.string h.prev)) (hm : h ∈ l) :
    Calls Tryd.prog 157 #[v, .func (Fn.func 133) #[] #[.pointer (some ⟨B, 0, none⟩)]] w (HIdxPost w) := by
  obtain ⟨a, cap, rfl⟩ := hv.shape
  obtain ⟨n, hn⟩ : ∃ n, n = l.length := ⟨_, rfl⟩
  rw [← hn]
  have Hv := Lib.hid (hn ▸ hv : HReads w (.slice a n cap) l)
  have Hn := Lib.hid hn
  have HB := Lib.hid hB
  have Hm := Lib.hid hm
  have hn1000 : n ≤ 1000 := by omega
  clear hv hn hl hB hm
  go_enter Tryd.func157, Tryd.ntmps157
  go_wp2_with fail
  go_loopw [8] (fun i wr => ∃ k : Nat, k ≤ n ∧ i = .int .i64 k ∧ Below w.heap.size w wr ∧ h ∉ l.take k) (fun i _ => n - (intOf i).toNat)
  case atStart => exact ⟨0, Nat.zero_le _, rfl, Below.refl _ _, by simp⟩
  case round =>
    obtain ⟨k, hk, rfl, hBw, hno⟩ := hrel
    have HBw := Lib.hid hBw
    have HNo := Lib.hid hno
    clear hBw hno
    by_cases hlt : k < n
    · have hkl : k < l.length := by have := Hn.out; omega
      obtain ⟨x, hx⟩ : ∃ x, l[k]? = some x := ⟨l[k], List.getElem?_eq_getElem hkl⟩
      obtain ⟨b, off, rfl, c0, c1, c2⟩ := (Hv.out.mono HBw.out).at hx
      have HX := Lib.hid hx
      have hP := Lib.hid (hpred_any x h B wr (HB.out.mono HBw.out))
      clear hx
      by_cases hxh : x = h
      · rw [decide_eq_true hxh] at hP
        unfold Hd.val at hP
        clear hxh
        go_wp2_with (go_at_call 133; refine hP.out.mono ?_; rintro e w1 ⟨rfl, hB1⟩)
        go_ret
        exact ⟨k, rfl, HBw.out.trans (hB1.mono HBw.out.size)⟩
      · rw [decide_eq_false hxh] at hP
        unfold Hd.val at hP
        have HNe := Lib.hid hxh
        clear hxh
        go_wp2_with (go_at_call 133; refine hP.out.mono ?_; rintro e w1 ⟨rfl, hB1⟩)
        go_roundw
        case rel =>
          refine ⟨k + 1, by omega, by go_num, HBw.out.trans (hB1.mono HBw.out.size), fun hm => ?_⟩
          rw [List.take_succ_eq_append_getElem hkl, List.mem_append] at hm
          rcases hm with hm | hm
          · exact HNo.out hm
          · have h3 := HX.out
            rw [List.getElem?_eq_getElem hkl] at h3
            simp only [List.mem_singleton] at hm
            rw [Option.some.inj h3] at hm
            exact HNe.out hm.symm
        case measure => simp [intOf]; omega
    · exfalso
      have := HNo.out
      rw [List.take_of_length_le (by have := Hn.out; omega)] at this
      exact this Hm.out
theorem chas_any (v : Value) (l : List Hd) (h : Hd) (w : World) (hv : HReads w v l) (hl : l.length ≤ 1000) (hm : h ∈ l) :
    Calls Tryd.prog 65 #[v, h.val] w fun e w' => e = .returned (.bool true) ∧ Below w.heap.size w w' := by
  have hb : Below w.heap.size w (w.alloc (.cells #[.int .i64 h.epoch, .string h.root, .string h.prev] 63)) := (Below.refl _ _).alloc (Nat.le_refl _) _
  have hI := Lib.hid (hidx_any v l h w.heap.size _ (hv.mono hb) hl (Row3.of_row (T := 63) (heap_alloc_new w _)) hm)
  clear hv
  have hC : Hid (Calls Tryd.prog 132 #[v, .func (Fn.func 133) #[] #[.pointer (some ⟨w.heap.size, 0, none⟩)]] (w.alloc (.cells #[.int .i64 h.epoch, .string h.root, .string h.prev] 63)) fun e w' => e = .returned (.bool true) ∧ Below w.heap.size w w') := by
    unfold Hid
    generalize w.alloc (.cells #[.int .i64 h.epoch, .string h.root, .string h.prev] 63) = W at *
    go_enter Tryd.func132, Tryd.ntmps132
    go_wp2_with (go_at_call 157; refine hI.out.mono ?_; rintro e w1 ⟨j, rfl, hB1⟩; have hj : (0 : Int) ≤ j := Int.natCast_nonneg j)
    go_ret
    exact ⟨rfl, hb.trans (hB1.mono hb.size)⟩
  unfold Hd.val
  clear hI hb
  go_enter Tryd.func65, Tryd.ntmps65
  go_wp2_with (go_at_call 132; refine hC.out.mono ?_; rintro e w1 ⟨rfl, hB1⟩)
  go_ret
  exact ⟨rfl, hB1⟩

set_option maxRecDepth 20000 in
set_option maxHeartbeats 4000000 in
theorem rparts_any (va vb : Value) (a b : List Hd) (w : World) (ha : HReads w va a) (hb : HReads w vb b) (hla : a.length ≤ 1000) (hlb : b.length ≤ 1000) :
    Calls Tryd.prog 71 #[va, vb] w fun e w' => e = .returned (.int .i64 (partsL a b : Nat)) ∧ Below w.heap.size w w' := by
  obtain ⟨aa, ca, rfl⟩ := ha.shape
  obtain ⟨ab, cb, rfl⟩ := hb.shape
  obtain ⟨n, hn⟩ : ∃ n, n = a.length := ⟨_, rfl⟩
  obtain ⟨m, hm⟩ : ∃ m, m = b.length := ⟨_, rfl⟩
  obtain ⟨N, hN⟩ : ∃ N, N = partsL a b := ⟨_, rfl⟩
  rw [← hn, ← hm, ← hN]
  have HA := Lib.hid (hn ▸ ha : HReads w (.slice aa n ca) a)
  have HB := Lib.hid (hm ▸ hb : HReads w (.slice ab m cb) b)
  have Hn := Lib.hid hn
  have Hm := Lib.hid hm
  have HN := Lib.hid hN
  have hn1 : n ≤ 1000 := by omega
  have hm1 : m ≤ 1000 := by omega
  clear ha hb hn hm hN hla hlb
  go_enter Tryd.func71, Tryd.ntmps71
  go_wp2_with fail
  go_loopw [9] (fun i wr => ∃ k : Nat, k ≤ n ∧ i = .int .i64 k ∧ Below w.heap.size w wr ∧ N = k + partsL (a.drop k) (b.drop k)) (fun i _ => n - (intOf i).toNat)
  case atStart => exact ⟨0, Nat.zero_le _, rfl, Below.refl _ _, by rw [HN.out]; simp⟩
  case round =>
    obtain ⟨k, hkn, rfl, hw, hk⟩ := hrel
    have HW := Lib.hid hw
    have HKK := Lib.hid hk
    clear hw hk
    by_cases h1 : k < n
    · have e1 : (k : Int) < n := by omega
      obtain ⟨x, hx⟩ : ∃ x, a[k]? = some x := ⟨_, List.getElem?_eq_getElem (by have := Hn.out; omega)⟩
      obtain ⟨b1, o1, rfl, c0, c1, c2⟩ := (HA.out.mono HW.out).at hx
      have hbx : Below wr.heap.size wr (wr.alloc (.cells #[.int .i64 x.epoch, .string x.root, .string x.prev] 63)) := (Below.refl _ _).alloc (Nat.le_refl _) _
      have HBX := Lib.hid (HW.out.trans (hbx.mono HW.out.size))
      by_cases h2 : k < m
      · have e2 : (k : Int) < m := by omega
        obtain ⟨y, hy⟩ : ∃ y, b[k]? = some y := ⟨_, List.getElem?_eq_getElem (by have := Hm.out; omega)⟩
        obtain ⟨b2, o2, rfl, d0, d1, d2⟩ := ((HB.out.mono HW.out).mono hbx).at hy
        have hd := Lib.hid (show partsL (a.drop k) (b.drop k) = if x = y then partsL (a.drop (k + 1)) (b.drop (k + 1)) + 1 else 0 by rw [drop_at hx, drop_at hy]; rfl)
        obtain ⟨y0, y1, y2, -, -, -⟩ := Row3.of_row (T := 63) (heap_alloc_new wr (.cells #[.int .i64 x.epoch, .string x.root, .string x.prev] 63))
        clear hx hy hbx
        rcases Hd.cmp x y with rfl | ⟨hne, hcases⟩
        · rw [if_pos rfl] at hd
          go_wp2_with fail
          generalize wr.alloc (.cells #[.int .i64 x.epoch, .string x.root, .string x.prev] 63) = WX at *
          go_quiet (fail)
          go_wp2_with fail
          go_roundw
          case rel => exact ⟨k + 1, by omega, by go_num, belowN HBX.out _, by rw [HKK.out, hd.out]; omega⟩
          case measure => simp [intOf]; omega
        · rw [if_neg hne] at hd
          have HNe := Lib.hid hne
          clear hne
          have hcases2 : ¬ y.epoch = x.epoch ∨ (y.epoch = x.epoch ∧ ¬ y.root.toList = x.root.toList) ∨ (y.epoch = x.epoch ∧ y.root.toList = x.root.toList ∧ ¬ y.prev.toList = x.prev.toList) := by
            rcases hcases with f1 | ⟨f1, f2⟩ | ⟨f1, f2, f3⟩
            · exact .inl fun h => f1 h.symm
            · exact .inr (.inl ⟨f1.symm, fun h => f2 h.symm⟩)
            · exact .inr (.inr ⟨f1.symm, f2.symm, fun h => f3 h.symm⟩)
          clear hcases
          rcases hcases2 with f1 | ⟨f1, f2⟩ | ⟨f1, f2, f3⟩
          all_goals
            go_wp2_with fail
            generalize wr.alloc (.cells #[.int .i64 x.epoch, .string x.root, .string x.prev] 63) = WX at *
            go_quiet (fail)
            go_wp2_with fail
            go_ret
            exact ⟨by rw [HKK.out, hd.out]; rfl, belowN HBX.out _⟩
      · have e2 : ¬ (k : Int) < m := by omega
        have e3 : (m : Int) ≤ k := by omega
        have hd2 : decide (k < m) = false := decide_eq_false h2
        have hfin : Hid (N = k) := by unfold Hid; rw [HKK.out, partsL_end _ _ (.inr (List.drop_of_length_le (by have := Hm.out; omega)))]; rfl
        clear hbx hx
        go_wp2_with fail
        generalize wr.alloc (.cells #[.int .i64 x.epoch, .string x.root, .string x.prev] 63) = WX at *
        go_quiet (fail)
        go_wp2_with fail
        go_ret
        exact ⟨by rw [hfin.out]; rfl, belowN HBX.out _⟩
    · have e1 : ¬ (k : Int) < n := by omega
      have hd2 : decide (k < n) = false := decide_eq_false h1
      have hkn2 : k = n := by omega
      have hfin : Hid (N = n) := by unfold Hid; rw [HKK.out, partsL_end _ _ (.inl (List.drop_of_length_le (by have := Hn.out; omega))), hkn2]; rfl
      clear hkn2
      go_wp2_with fail
      go_ret
      exact ⟨by rw [hfin.out]; rfl, HW.out⟩
end Go.Proofs.YtfhjnfocmlndpaaDoor
