/- proof.Right. -/
import Derived.Test.YtfhjnfocmlndpaaDoorSjOnceG
import Derived.Test.YtfhjnfocmlndpaaDoorSjNode
import Derived.Test.YtfhjnfocmlndpaaDoorSjIndex
import Derived.Test.YtfhjnfocmlndpaaDoorSjChainR
namespace Go.Proofs.YtfhjnfocmlndpaaDoor
open Go Go.RowKit Go.Proofs

theorem pred_anyP (p : ByteArray) (w : World) : Calls Tryd.prog 116 #[.string p] w fun e w' => e = .returned (.bool (decide (p.size ≠ 16))) ∧ w' = w := by
  by_cases h : p.size = 16
  · have e1 : ((p.size : Int) != 16) = false := by rw [bne_eq_false_iff_eq]; omega
    have e2 : ((p.size : Int) == 16) = true := by rw [beq_iff_eq]; omega
    have e3 : decide (p.size ≠ 16) = false := by simpa using h
    go_enter Tryd.func116, Tryd.ntmps116
    go_wp2_with fail
    go_ret
    exact ⟨by rw [e3]; rfl, rfl⟩
  · have e1 : ((p.size : Int) != 16) = true := by rw [bne_iff_ne]; omega
    have e2 : ((p.size : Int) == 16) = false := by rw [beq_eq_false_iff_ne]; omega
    have e3 : decide (p.size ≠ 16) = true := by simpa using h
    go_enter Tryd.func116, Tryd.ntmps116
    go_wp2_with fail
    go_ret
    exact ⟨by rw [e3]; rfl, rfl⟩

set_option maxHeartbeats 1000000 in
theorem index_anyP (v : Value) (l : List ByteArray) (w : World) (hv : Reads w v l.length 1 (l.map Value.string)) (hl : l.length ≤ 1000000) :
    Calls Tryd.prog 148 #[v, .func (Fn.func 116) #[] #[]] w (FindPost l w) := by
  obtain ⟨a, cap, rfl⟩ : ∃ a cap, v = .slice a l.length cap := by
    rcases hv.2 with ⟨_, a, c, rfl⟩ | ⟨b, off, cap, rfl, _⟩
    · exact ⟨a, c, rfl⟩
    · exact ⟨_, cap, rfl⟩
  obtain ⟨n, hn⟩ : ∃ n, n = l.length := ⟨_, rfl⟩
  rw [← hn] at hv
  have Hv := Lib.hid hv
  have Hn := Lib.hid hn
  have hnb : n ≤ 1000000 := by omega
  rw [← hn]
  clear hn hv hl
  go_enter Tryd.func148, Tryd.ntmps148
  go_wp2_with fail
  go_loopw [8] (fun i wr => ∃ k : Nat, k ≤ n ∧ i = .int .i64 k ∧ wr = w ∧ ∀ p ∈ l.take k, p.size = 16) (fun i _ => n - (intOf i).toNat)
  case atStart => exact ⟨0, Nat.zero_le _, rfl, rfl, by simp⟩
  case round =>
    obtain ⟨k, hk, rfl, rfl, hall⟩ := hrel
    have HA := Lib.hid hall
    clear hall
    by_cases hlt : k < n
    · have hkl : k < l.length := by have := Hn.out; omega
      obtain ⟨p, hp⟩ : ∃ p, l[k]? = some p := ⟨l[k], List.getElem?_eq_getElem hkl⟩
      obtain ⟨b, off, hcell⟩ : ∃ b off, a = some ⟨b, off, none⟩ ∧ wr.cell? ⟨b, off + k, none⟩ = some (.string p) := by
        rcases Hv.out.2 with ⟨h0, _⟩ | ⟨b, off, cap', he, hc⟩
        · have : l = [] := by simpa using h0
          rw [this] at hkl; simp at hkl
        · simp only [Value.slice.injEq] at he
          exact ⟨b, off, he.1, hc k _ (by simp [hp])⟩
      obtain ⟨rfl, hcell⟩ := hcell
      have hmem : p ∈ l := List.mem_of_getElem? hp
      have HP := Lib.hid hp
      clear hp
      have e2 : (k : Int) < n := by omega
      by_cases h16 : p.size = 16
      · have hL : Calls Tryd.prog 116 #[.string p] wr fun e w' => e = .returned (.bool false) ∧ w' = wr := by
          refine (pred_anyP p wr).mono ?_
          rintro e w' ⟨rfl, rfl⟩
          exact ⟨by rw [show decide (p.size ≠ 16) = false from by simpa using h16], rfl⟩
        have HL := Lib.hid hL
        clear hL
        go_wp2_with (go_at_call 116; refine HL.out.mono ?_; rintro e w1 ⟨rfl, rfl⟩)
        go_roundw
        case rel =>
          refine ⟨k + 1, by omega, by go_num, by first | rfl | trivial, ?_⟩
          intro q hq
          rw [List.take_succ_eq_append_getElem hkl, List.mem_append] at hq
          rcases hq with hq | hq
          · exact HA.out q hq
          · have : q = p := by
              have h1 := HP.out
              rw [List.getElem?_eq_getElem hkl] at h1
              simp at hq
              rw [hq]; exact Option.some.inj h1
            rw [this]; exact h16
        case measure => simp [intOf]; omega
      · have hL : Calls Tryd.prog 116 #[.string p] wr fun e w' => e = .returned (.bool true) ∧ w' = wr := by
          refine (pred_anyP p wr).mono ?_
          rintro e w' ⟨rfl, rfl⟩
          exact ⟨by rw [show decide (p.size ≠ 16) = true from by simpa using h16], rfl⟩
        have HL := Lib.hid hL
        clear hL
        go_wp2_with (go_at_call 116; refine HL.out.mono ?_; rintro e w1 ⟨rfl, rfl⟩)
        go_ret
        exact ⟨k, rfl, rfl, fun h => by omega, fun _ => ⟨p, hmem, h16⟩⟩
    · have hge : n ≤ k := by omega
      have hd1 : decide (k < n) = false := decide_eq_false hlt
      have e2 : ¬ (k : Int) < n := by omega
      go_wp2_with fail
      go_ret
      refine ⟨-1, rfl, rfl, fun _ => ?_, fun h => by omega⟩
      have := HA.out
      rwa [List.take_of_length_le (by have := Hn.out; omega)] at this
theorem has_anyP (v : Value) (l : List ByteArray) (w : World) (hv : Reads w v l.length 1 (l.map Value.string)) (hl : l.length ≤ 1000000) :
    Calls Tryd.prog 106 #[v, .func (Fn.func 116) #[] #[]] w (HasPost l w) := by
  have HI := Lib.hid (index_anyP v l w hv hl)
  clear hv hl
  go_enter Tryd.func106, Tryd.ntmps106
  go_wp2_with (go_at_call 148; refine HI.out.mono ?_; rintro e w1 ⟨j, rfl, rfl, h1, h2⟩)
  go_ret
  refine ⟨decide (0 ≤ j), rfl, rfl, fun h => h1 ?_, fun h => h2 ?_⟩
  · have := of_decide_eq_false h; omega
  · exact of_decide_eq_true h
end Go.Proofs.YtfhjnfocmlndpaaDoor

namespace Go.Proofs.YtfhjnfocmlndpaaDoor
open Go Go.RowKit Go.Proofs

/-! ### in plain Lean -/
/-- which proof may be one of ix: the marks beside the way, and the leaf's two -/
def rightP (ix : ByteArray) (path : List ByteArray) (li lc : ByteArray) : Prop :=
  ix.size = 16 ∧ path.length ≤ 128 ∧ (∀ p ∈ path, p.size = 16) ∧ (li.size = 0 ∧ lc.size = 0 ∨ li.size = 16 ∧ path.length ≤ cmn ix li ∧ lc.size = 16)
open Classical in
noncomputable def rightB (ix : ByteArray) (path : List ByteArray) (li lc : ByteArray) : Bool := decide (rightP ix path li lc)

theorem mark2 (c : UInt8) (n : Int) (hn : n = (c.toNat : Int)) (p q : ByteArray) (w : World) (hp : p.size ≤ 1000) (hq : q.size ≤ 1000) (hk : KAt w 0) :
    Calls Tryd.prog 21 #[.int .u8 n, .slice (some ⟨w.heap.size, 0, none⟩) 2 2] (w.alloc (.cells #[.string p, .string q] 9)) fun e w' => e = .returned (.string (markS c [p, q])) ∧ Below w.heap.size w w' := by
  subst hn
  have hb : Below w.heap.size w (w.alloc (.cells #[.string p, .string q] 9)) := (Below.refl _ _).alloc (Nat.le_refl _) _
  refine (mark_any c _ [p, q] _ (Reads.lit w 9 2 1 [.string p, .string q] rfl) (small_mark c _ (show 2 ≤ 1000 by decide) ?_) (hk.mono hb)).mono ?_
  · intro x hx
    simp only [List.mem_cons, List.not_mem_nil, or_false] at hx
    rcases hx with rfl | rfl <;> assumption
  · rintro e w' ⟨he, hb2⟩
    exact ⟨he, hb.trans (hb2.mono hb.size)⟩
theorem tjoin_any (a b : ByteArray) (w : World) (ha : a.size ≤ 1000) (hb : b.size ≤ 1000) (hk : KAt w 0) :
    Calls Tryd.prog 115 #[.string a, .string b] w fun e w' => e = .returned (.string (joinS a b)) ∧ Below w.heap.size w w' := by
  have HK := Lib.hid (mark2 110 _ rfl a b w ha hb hk)
  clear hk
  go_enter Tryd.func115, Tryd.ntmps115
  go_wp2_with (go_at_call 21; refine HK.out.mono ?_; rintro e w1 ⟨rfl, hB1⟩)
  go_ret
  exact ⟨rfl, hB1⟩
theorem tempty_any (d : Nat) (w : World) (hd : d ≤ 1000) (hk : KAt w 0) :
    Calls Tryd.prog 112 #[.int .i64 d] w fun e w' => e = .returned (.string (emptyS d)) ∧ Below w.heap.size w w' := by
  have Hk := Lib.hid hk
  have hn1 := numS_size (d : Int)
  clear hk
  go_enter Tryd.func112, Tryd.ntmps112
  go_wp2_with (first
    | (go_at_call 19; refine (num_any _ _ (by omega) (by omega)).mono ?_; rintro e w1 ⟨rfl, hB1⟩)
    | (go_at_call 21; refine (mark1 101 _ rfl _ _ (by omega) (Hk.out.mono hB1)).mono ?_; rintro e w2 ⟨rfl, hB2⟩))
  go_ret
  exact ⟨rfl, hB1.trans (hB2.mono hB1.size)⟩
theorem tleaf_any (li lc : ByteArray) (d : Nat) (w : World) (hd : d ≤ 1000) (hli : li.size ≤ 1000) (hlc : lc.size ≤ 1000) (hk : KAt w 0) :
    Calls Tryd.prog 113 #[.agg #[.string li, .string lc], .int .i64 d] w fun e w' => e = .returned (.string (leafS li lc d)) ∧ Below w.heap.size w w' := by
  have Hk := Lib.hid hk
  have hn1 := numS_size (d : Int)
  have hlo : -9223372036854775808 ≤ (d : Int) := by omega
  have hhi : (d : Int) ≤ 9223372036854775807 := by omega
  have hb : Below w.heap.size w (w.alloc (.cells #[.string li, .string lc] 49)) := (Below.refl _ _).alloc (Nat.le_refl _) _
  have k0 : (w.alloc (.cells #[.string li, .string lc] 49)).cell? ⟨w.heap.size, 0, none⟩ = some (.string li) := by rw [cell_of_row _ _ _ _ _ _ (heap_alloc_new _ _)]; rfl
  have k1 : (w.alloc (.cells #[.string li, .string lc] 49)).cell? ⟨w.heap.size, 1, none⟩ = some (.string lc) := by rw [cell_of_row _ _ _ _ _ _ (heap_alloc_new _ _)]; rfl
  clear hk
  go_enter Tryd.func113, Tryd.ntmps113
  go_wp2_with fail
  generalize w.alloc (.cells #[.string li, .string lc] 49) = w1 at *
  have x0 := fun x : Grown w1 => x.cell k0
  have x1 := fun x : Grown w1 => x.cell k1
  clear k0 k1
  refine wp_region_grown_tail 6 (by kernel_rfl) (by kernel_rfl) ?_
  simp only [List.take_succ_cons, List.take_zero, List.drop_succ_cons, List.drop_zero]
  repeat (quiet_step ((go_at_call 19; exact Grown.call _ (num_any (d : Int) _ hlo hhi))))
  refine wpQuiet_nil ?_
  intro x
  have hX := hb.trans (x.below.mono hb.size)
  generalize x.val = wx at hX
  go_wp2_with (first
    | (go_at_call 21; refine (mark3 108 _ rfl _ _ _ _ (by omega) (by omega) (by omega) (Hk.out.mono hX)).mono ?_; rintro e w2 ⟨rfl, hB2⟩))
  go_ret
  exact ⟨rfl, hX.trans (hB2.mono hX.size)⟩
end Go.Proofs.YtfhjnfocmlndpaaDoor

namespace Go.Proofs.YtfhjnfocmlndpaaDoor
open Go Go.RowKit Go.Proofs

theorem toList_nil {s : ByteArray} (h : s.size = 0) : s.toList = [] := by
  rw [ByteArray.toList_eq]
  have : s.data.toList.length = s.size := by simp
  exact List.eq_nil_of_length_eq_zero (by omega)
theorem toList_ne {s : ByteArray} (h : s.size ≠ 0) : ¬ s.toList = [] := by
  rw [ByteArray.toList_eq]
  intro h2
  have : s.data.toList.length = s.size := by simp
  rw [h2] at this
  simp at this
  omega
set_option maxRecDepth 20000 in
set_option maxHeartbeats 2000000 in
theorem pright_any (ix : ByteArray) (pv : Value) (path : List ByteArray) (li lc : ByteArray) (w : World) (hv : Reads w pv path.length 1 (path.map Value.string)) (hl : path.length ≤ 1000000) :
    Calls Tryd.prog 34 #[.string ix, .agg #[pv, .string li, .string lc]] w fun e w' => e = .returned (.bool (rightB ix path li lc)) ∧ Below w.heap.size w w' := by
  obtain ⟨a, cap, rfl⟩ : ∃ a cap, pv = .slice a path.length cap := by
    rcases hv.2 with ⟨_, a, c, rfl⟩ | ⟨b, off, cap, rfl, _⟩
    · exact ⟨a, c, rfl⟩
    · exact ⟨_, cap, rfl⟩
  have hb : Below w.heap.size w (w.alloc (.cells #[.slice a path.length cap, .string li, .string lc] 51)) := (Below.refl _ _).alloc (Nat.le_refl _) _
  have hH := has_anyP _ path _ (hv.mono hb) hl
  obtain ⟨R, hR⟩ : ∃ R, R = rightB ix path li lc := ⟨_, rfl⟩
  rw [← hR]
  have hRd : R = true ↔ rightP ix path li lc := by rw [hR]; unfold rightB; exact @decide_eq_true_iff _ (Classical.propDecidable _)
  obtain ⟨n, hn⟩ : ∃ n, n = path.length := ⟨_, rfl⟩
  rw [← hn] at hb hH ⊢
  have Hn := Lib.hid hn
  clear hv hR hn
  by_cases h1 : ix.size = 16
  · have f1 : (ix.size : Int) = 16 := by omega
    by_cases h2 : n ≤ 128
    · have f2 : ¬ (128 : Int) < n := by omega
      by_cases h3 : ∀ p ∈ path, p.size = 16
      · have HH : Hid (Calls Tryd.prog 106 #[.slice a n cap, .func (Fn.func 116) #[] #[]] (w.alloc (.cells #[.slice a n cap, .string li, .string lc] 51)) fun e w' => e = .returned (.bool false) ∧ w' = w.alloc (.cells #[.slice a n cap, .string li, .string lc] 51)) := by
          refine hH.mono ?_
          rintro e w' ⟨c, rfl, rfl, _, hc⟩
          refine ⟨?_, rfl⟩
          cases c with
          | false => rfl
          | true => obtain ⟨p, hp, hp2⟩ := hc rfl; exact absurd (h3 p hp) hp2
        have H3 := Lib.hid h3
        clear hH h3
        by_cases h4 : li.size = 0 ∧ lc.size = 0
        · have g1 := toList_nil h4.1
          have g2 := toList_nil h4.2
          obtain rfl : R = true := hRd.2 ⟨h1, by have := Hn.out; omega, H3.out, .inl h4⟩
          clear hRd h4 h1
          go_enter Tryd.func34, Tryd.ntmps34
          go_wp2_with (go_at_call 106; refine HH.out.mono ?_; rintro e w1 ⟨rfl, hw⟩; have hw2 := hw.symm; subst hw2)
          go_ret
          exact ⟨rfl, hb⟩
        · have hor : ¬ li.toList = [] ∨ (li.toList = [] ∧ ¬ lc.toList = []) := by
            by_cases h5 : li.size = 0
            · exact .inr ⟨toList_nil h5, toList_ne (fun h6 => h4 ⟨h5, h6⟩)⟩
            · exact .inl (toList_ne h5)
          have hor2 : ¬ li.toList = [] ∨ (li.toList = [] ∧ ¬ lc.toList = []) := hor
          by_cases h6 : li.size = 16
          · have HC := Lib.hid (fun W => common_ok ix li W h1 h6)
            have g6 : ¬ li.toList = [] := toList_ne (by omega)
            by_cases h7 : n ≤ cmn ix li
            · have e7 : (n : Int) ≤ cmn ix li := by omega
              by_cases h8 : lc.size = 16
              · have f8 : (lc.size : Int) = 16 := by omega
                obtain rfl : R = true := hRd.2 ⟨h1, by have := Hn.out; omega, H3.out, .inr ⟨h6, by have := Hn.out; omega, h8⟩⟩
                generalize cmn ix li = C at *
                clear hRd h1 h4 h6 hor hor2 h8
                go_enter Tryd.func34, Tryd.ntmps34
                go_wp2_with (first
                  | (go_at_call 106; refine HH.out.mono ?_; rintro e w1 ⟨rfl, hw⟩; have hw2 := hw.symm; subst hw2)
                  | (go_at_call 48; refine (HC.out _).mono ?_; rintro e w1 ⟨rfl, hw⟩; have hw2 := hw.symm; subst hw2))
                go_ret
                exact ⟨rfl, hb⟩
              · have f8 : ((lc.size : Int) == 16) = false := by rw [beq_eq_false_iff_ne]; omega
                obtain rfl : R = false := by rw [Bool.eq_false_iff]; intro h; have := (hRd.1 h).2.2.2; have := Hn.out; omega
                generalize cmn ix li = C at *
                clear hRd h1 h4 h6 hor hor2 h8
                go_enter Tryd.func34, Tryd.ntmps34
                go_wp2_with (first
                  | (go_at_call 106; refine HH.out.mono ?_; rintro e w1 ⟨rfl, hw⟩; have hw2 := hw.symm; subst hw2)
                  | (go_at_call 48; refine (HC.out _).mono ?_; rintro e w1 ⟨rfl, hw⟩; have hw2 := hw.symm; subst hw2))
                go_ret
                exact ⟨rfl, hb⟩
            · have e7 : ¬ (n : Int) ≤ cmn ix li := by omega
              have e7d : decide (n ≤ cmn ix li) = false := decide_eq_false h7
              obtain rfl : R = false := by rw [Bool.eq_false_iff]; intro h; have := (hRd.1 h).2.2.2; have := Hn.out; omega
              generalize cmn ix li = C at *
              clear hRd h1 h4 h6 hor hor2
              go_enter Tryd.func34, Tryd.ntmps34
              go_wp2_with (first
                | (go_at_call 106; refine HH.out.mono ?_; rintro e w1 ⟨rfl, hw⟩; have hw2 := hw.symm; subst hw2)
                | (go_at_call 48; refine (HC.out _).mono ?_; rintro e w1 ⟨rfl, hw⟩; have hw2 := hw.symm; subst hw2))
              go_ret
              exact ⟨rfl, hb⟩
          · have HC : Hid (∀ W, Calls Tryd.prog 48 #[.string ix, .string li] W fun e w' => e = .returned (.tuple #[.int .i64 0, .iface 31 (.int .i64 1)]) ∧ w' = W) := fun W => by
              have := common_any ix li W
              unfold IntPost cmnV cmnK at this
              rw [if_neg (fun h => h6 h.2), if_neg (fun h => h6 h.2)] at this
              exact this
            obtain rfl : R = false := by rw [Bool.eq_false_iff]; intro h; have := (hRd.1 h).2.2.2; have := Hn.out; omega
            clear hRd h1 h4 h6 hor
            rcases hor2 with g1 | ⟨g1, g2⟩
            all_goals
              go_enter Tryd.func34, Tryd.ntmps34
              go_wp2_with (first
                | (go_at_call 106; refine HH.out.mono ?_; rintro e w1 ⟨rfl, hw⟩; have hw2 := hw.symm; subst hw2)
                | (go_at_call 48; refine (HC.out _).mono ?_; rintro e w1 ⟨rfl, hw⟩; have hw2 := hw.symm; subst hw2))
              go_ret
              exact ⟨rfl, hb⟩
      · have HH : Hid (Calls Tryd.prog 106 #[.slice a n cap, .func (Fn.func 116) #[] #[]] (w.alloc (.cells #[.slice a n cap, .string li, .string lc] 51)) fun e w' => e = .returned (.bool true) ∧ w' = w.alloc (.cells #[.slice a n cap, .string li, .string lc] 51)) := by
          refine hH.mono ?_
          rintro e w' ⟨c, rfl, rfl, hc, _⟩
          refine ⟨?_, rfl⟩
          cases c with
          | false => exact absurd (hc rfl) h3
          | true => rfl
        obtain rfl : R = false := by rw [Bool.eq_false_iff]; intro h; exact h3 (hRd.1 h).2.2.1
        clear hH h3 hRd h1
        go_enter Tryd.func34, Tryd.ntmps34
        go_wp2_with (go_at_call 106; refine HH.out.mono ?_; rintro e w1 ⟨rfl, hw⟩; have hw2 := hw.symm; subst hw2)
        go_ret
        exact ⟨rfl, hb⟩
    · have f2 : (128 : Int) < n := by omega
      obtain rfl : R = false := by rw [Bool.eq_false_iff]; intro h; have := (hRd.1 h).2.1; have := Hn.out; omega
      clear hH hRd h1
      go_enter Tryd.func34, Tryd.ntmps34
      go_wp2_with fail
      go_ret
      exact ⟨rfl, hb⟩
  · have f1 : ((ix.size : Int) == 16) = false := by rw [beq_eq_false_iff_ne]; omega
    have f2 : ((ix.size : Int) != 16) = true := by rw [bne_iff_ne]; omega
    obtain rfl : R = false := by rw [Bool.eq_false_iff]; intro h; exact h1 (hRd.1 h).1
    clear hH hRd h1
    go_enter Tryd.func34, Tryd.ntmps34
    go_wp2_with fail
    go_ret
    exact ⟨rfl, hb⟩
end Go.Proofs.YtfhjnfocmlndpaaDoor
