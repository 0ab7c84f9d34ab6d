/- trie.Halves: items parted by a bit. -/
import Derived.Test.YtfhjnfocmlndpaaDoorTItems
namespace Go.Proofs.YtfhjnfocmlndpaaDoor
open Go Go.RowKit Go.Proofs

theorem thpred_any (x : It) (B d : Nat) (w : World) (hB : w.cell? ⟨B, 0, none⟩ = some (.int .i64 d)) (hs : x.ix.size = 16) (hd : d < 128) :
    Calls Tryd.prog 165 #[x.val, .pointer (some ⟨B, 0, none⟩)] w fun e w' => e = .returned (.bool (decide (bitAt x.ix d = 1))) ∧ Below w.heap.size w w' := by
  have HT := Lib.hid (fun W => tbit_any x.ix d W hs hd)
  have hlt := World.block_lt_of_cell? w ⟨B, 0, none⟩ hB
  have hne : B ≠ w.heap.size := Nat.ne_of_lt hlt
  have hb : Below w.heap.size w (w.alloc (.cells #[.string x.ix, .string x.cm] 49)) := (Below.refl _ _).alloc (Nat.le_refl _) _
  obtain ⟨D, hD⟩ : ∃ D, D = decide (bitAt x.ix d = 1) := ⟨_, rfl⟩
  rw [← hD] at HT ⊢
  unfold It.val
  clear hs hd hD
  go_enter Tryd.func165, Tryd.ntmps165
  go_wp2_with (go_at_call 140; refine (HT.out _).mono ?_; rintro e w1 ⟨rfl, hw⟩; have hw2 := hw.symm; subst hw2)
  go_ret
  exact ⟨rfl, hb⟩
def TIdxPost (l : List It) (d : Nat) (w : World) (e : Ending) (w' : World) : Prop := e = .returned (.int .i64 (if parti l d < l.length then (parti l d : Int) else -1)) ∧ Below w.heap.size w w'
theorem parti_ge {l : List It} {d k : Nat} (hk : k ≤ l.length) (h : ∀ j x, j < k → l[j]? = some x → bitAt x.ix d ≠ 1) : k ≤ parti l d := by
  unfold parti loI
  induction l generalizing k with
  | nil => simpa using hk
  | cons x l ih =>
    cases k with
    | zero => exact Nat.zero_le _
    | succ k =>
      have h0 : decide (bitAt x.ix d = 0) = true := by
        have h1 := h 0 x (by omega) rfl
        have h2 := bitAt_lt x.ix d
        exact decide_eq_true (by omega)
      rw [List.takeWhile_cons, if_pos h0, List.length_cons]
      have := ih (k := k) (by simpa using hk) (fun j y hj hy => h (j + 1) y (by omega) (by simpa using hy))
      omega
theorem parti_at {l : List It} {d k : Nat} {x : It} (hx : l[k]? = some x) (h : ∀ j x, j < k → l[j]? = some x → bitAt x.ix d ≠ 1) (h1 : bitAt x.ix d = 1) : parti l d = k := by
  have hk := (List.getElem?_eq_some_iff.1 hx).1
  have hge := parti_ge (Nat.le_of_lt hk) h
  rcases Nat.eq_or_lt_of_le hge with e | hlt
  · exact e.symm
  · exfalso
    have hb : ∀ y ∈ loI l d, bitAt y.ix d = 0 := loI_bit
    have hm : x ∈ loI l d := by
      rw [lo_take, List.mem_iff_getElem?]
      exact ⟨k, by rw [List.getElem?_take, if_pos hlt]; exact hx⟩
    rw [hb x hm] at h1
    cases h1
set_option maxRecDepth 20000 in
set_option maxHeartbeats 1000000 in
theorem tidx_any (v : Value) (l : List It) (B d : Nat) (w : World) (hv : IReads w v l) (hl : l.length ≤ 1000) (hB : w.cell? ⟨B, 0, none⟩ = some (.int .i64 d)) (hs : ∀ x ∈ l, x.ix.size = 16) (hd : d < 128) :
    Calls Tryd.prog 86 #[v, .func (Fn.func 165) #[] #[.pointer (some ⟨B, 0, none⟩)]] w (TIdxPost l d w) := by
  obtain ⟨a, cap, rfl, -⟩ := hv.shape
  obtain ⟨n, hn⟩ : ∃ n, n = l.length := ⟨_, rfl⟩
  rw [← hn]
  have Hv := Lib.hid (hn ▸ hv : IReads w (.slice a n cap) l)
  have Hn := Lib.hid hn
  have HB := Lib.hid hB
  have Hs := Lib.hid hs
  have hn1000 : n ≤ 1000 := by omega
  clear hv hn hl hB hs
  go_enter Tryd.func86, Tryd.ntmps86
  go_wp2_with fail
  go_loopw [8] (fun i wr => ∃ k : Nat, k ≤ n ∧ i = .int .i64 k ∧ Below w.heap.size w wr ∧ ∀ j x, j < k → l[j]? = some x → bitAt x.ix d ≠ 1) (fun i _ => n - (intOf i).toNat)
  case atStart => exact ⟨0, Nat.zero_le _, rfl, Below.refl _ _, fun j _ hj _ => absurd hj (Nat.not_lt_zero _)⟩
  case round =>
    obtain ⟨k, hk, rfl, hBw, hno⟩ := hrel
    have HBw := Lib.hid hBw
    have HNo := Lib.hid hno
    clear hBw hno
    by_cases hlt : k < n
    · have hkl : k < l.length := by have := Hn.out; omega
      obtain ⟨x, hx⟩ : ∃ x, l[k]? = some x := ⟨l[k], List.getElem?_eq_getElem hkl⟩
      obtain ⟨b, off, rfl, c0, c1⟩ := (Hv.out.mono HBw.out).at hx
      have HX := Lib.hid hx
      have hP := Lib.hid (thpred_any x B d wr (by rw [HBw.out.cell (by exact World.block_lt_of_cell? w ⟨B, 0, none⟩ HB.out)]; exact HB.out) (Hs.out x (List.mem_of_getElem? hx)) hd)
      clear hx
      by_cases hxh : bitAt x.ix d = 1
      · rw [decide_eq_true hxh] at hP
        unfold It.val at hP
        have hfin : Hid ((if parti l d < l.length then (parti l d : Int) else -1) = k) := by
          unfold Hid
          rw [parti_at HX.out HNo.out hxh, if_pos hkl]
        clear hxh
        go_wp2_with (go_at_call 165; refine hP.out.mono ?_; rintro e w1 ⟨rfl, hB1⟩)
        go_ret
        exact ⟨by rw [hfin.out]; rfl, HBw.out.trans (hB1.mono HBw.out.size)⟩
      · rw [decide_eq_false hxh] at hP
        unfold It.val at hP
        have HNe := Lib.hid hxh
        clear hxh
        go_wp2_with (go_at_call 165; refine hP.out.mono ?_; rintro e w1 ⟨rfl, hB1⟩)
        go_roundw
        case rel =>
          refine ⟨k + 1, by omega, by go_num, HBw.out.trans (hB1.mono HBw.out.size), fun j y hj hy => ?_⟩
          rcases Nat.lt_or_ge j k with h3 | h3
          · exact HNo.out j y h3 hy
          · rw [show j = k by omega, HX.out] at hy
            rw [← Option.some.inj hy]
            exact HNe.out
        case measure => simp [intOf]; omega
    · have hd1 : decide (k < n) = false := decide_eq_false hlt
      have hfin : Hid ((if parti l d < l.length then (parti l d : Int) else -1) = -1) := by
        unfold Hid
        have h3 := parti_ge (l := l) (d := d) (k := k) (by have := Hn.out; omega) HNo.out
        rw [if_neg (by have := Hn.out; omega)]
      go_wp2_with fail
      go_ret
      exact ⟨by rw [hfin.out]; rfl, HBw.out⟩
def HalvesPost (v : Value) (l : List It) (d : Nat) (w : World) (e : Ending) (w' : World) : Prop :=
  ∃ v0 v1, e = .returned (.tuple #[v0, v1]) ∧ Below w.heap.size w w' ∧ ∀ W, IReads W v l → IReads W v0 (loI l d) ∧ IReads W v1 (hiI l d)
set_option maxRecDepth 20000 in
set_option maxHeartbeats 1000000 in
theorem thalves_any (v : Value) (l : List It) (d : Nat) (w : World) (hv : IReads w v l) (hl : l.length ≤ 1000) (hs : ∀ x ∈ l, x.ix.size = 16) (hd : d < 128) :
    Calls Tryd.prog 139 #[v, .int .i64 d] w (HalvesPost v l d w) := by
  have hb : Below w.heap.size w (w.alloc (.cells #[.int .i64 d] 3)) := (Below.refl _ _).alloc (Nat.le_refl _) _
  have HI := Lib.hid (tidx_any v l w.heap.size d (w.alloc (.cells #[.int .i64 d] 3)) (hv.mono hb) hl (by rw [cell_of_row _ _ _ _ _ _ (heap_alloc_new _ _)]; rfl) hs hd)
  have Hv := Lib.hid hv
  have hpl := parti_le l d
  by_cases hp : parti l d < l.length
  · obtain ⟨a, cap, rfl, hcap⟩ := hv.shape
    obtain ⟨b, off, rfl⟩ : ∃ b off, a = some ⟨b, off, none⟩ := by
      obtain ⟨b, off, rfl, _⟩ := hv.at (List.getElem?_eq_getElem hp)
      exact ⟨b, off, rfl⟩
    unfold TIdxPost at HI
    rw [if_pos hp] at HI
    have HL := Lib.hid (lo_take l d)
    have HD := Lib.hid (hi_drop l d)
    obtain ⟨k, hk⟩ : ∃ k, k = parti l d := ⟨_, rfl⟩
    obtain ⟨n, hn⟩ : ∃ n, n = l.length := ⟨_, rfl⟩
    rw [← hk] at HI hp HL HD
    rw [← hn] at HI hp Hv hcap ⊢
    have Hn := Lib.hid hn
    unfold HalvesPost
    have e1 : ¬ (k : Int) < 0 := by omega
    have e2 : (k : Int) ≤ cap := by omega
    have e3 : (k : Int) ≤ n := by omega
    have e4 : ¬ cap = k := by omega
    have e5 : k ≤ cap := by omega
    have e6 : k ≤ n := by omega
    have hnk : n - k ≤ cap - k := by omega
    clear hv hk hn hl hs hpl
    go_enter Tryd.func139, Tryd.ntmps139
    go_wp2_with (go_at_call 86; refine HI.out.mono ?_; rintro e w1 ⟨rfl, hB1⟩)
    go_quiet (fail)
    go_wp2_with fail
    go_ret2
    have hbb := belowN (hb.trans (hB1.mono hb.size)) nq
    refine ⟨_, _, rfl, hbb, fun W hW => ⟨?_, ?_⟩⟩
    · rw [HL.out]
      exact hW.take (c := cap) (by have := Hn.out; omega) e5
    · rw [HD.out]
      exact hW.drop (m := n - k) (c := cap - k) (by have := Hn.out; omega) (by have := Hn.out; omega) hnk
  · unfold TIdxPost at HI
    rw [if_neg hp] at HI
    have HL : Hid (loI l d = l) := by unfold Hid; rw [lo_take, List.take_of_length_le (by omega)]
    have HD : Hid (hiI l d = []) := by unfold Hid; rw [hi_drop, List.drop_of_length_le (by omega)]
    unfold HalvesPost
    clear hl hs hpl hp
    go_enter Tryd.func139, Tryd.ntmps139
    go_wp2_with (go_at_call 86; refine HI.out.mono ?_; rintro e w1 ⟨rfl, hB1⟩)
    go_ret2
    have hbb := hb.trans (hB1.mono hb.size)
    exact ⟨_, _, rfl, hbb, fun W hW => ⟨by rw [HL.out]; exact hW, by rw [HD.out]; exact IReads.nil _ _ _⟩⟩
end Go.Proofs.YtfhjnfocmlndpaaDoor
