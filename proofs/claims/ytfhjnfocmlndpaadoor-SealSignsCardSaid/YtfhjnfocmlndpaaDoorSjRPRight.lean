/- The reference's RightProof. -/
import Derived.Test.YtfhjnfocmlndpaaDoorSjSealP
import Derived.Test.YtfhjnfocmlndpaaDoorSjOnceT
import Derived.Test.YtfhjnfocmlndpaaDoorSjIndexR
namespace Go.Proofs.YtfhjnfocmlndpaaDoor
open Go Go.RowKit Go.Proofs

theorem rmark2 (r : Nat) (c : UInt8) (n : Int) (hn : n = (c.toNat : Int)) (p q : ByteArray) (w : World) (hp : p.size ≤ 1000) (hq : q.size ≤ 1000) (hr : RAt w r) :
    Calls Tryd.prog 22 #[.pointer (some ⟨r, 0, none⟩), .int .u8 n, .slice (some ⟨w.heap.size, 0, none⟩) 2 2] (w.alloc (.cells #[.string p, .string q] 9)) fun e w' => e = .returned (.string (markS c [p, q])) ∧ Below w.heap.size w w' := by
  subst hn
  have hb : Below w.heap.size w (w.alloc (.cells #[.string p, .string q] 9)) := (Below.refl _ _).alloc (Nat.le_refl _) _
  refine (rmark_any r c _ [p, q] _ (hr.mono hb) (Reads.lit w 9 2 1 [.string p, .string q] rfl) (small_mark c _ (show 2 ≤ 1000 by decide) ?_)).mono ?_
  · intro x hx
    simp only [List.mem_cons, List.not_mem_nil, or_false] at hx
    rcases hx with rfl | rfl <;> assumption
  · rintro e w' ⟨he, hb2⟩
    exact ⟨he, hb.trans (hb2.mono hb.size)⟩
theorem rjoin_any (r : Nat) (a b : ByteArray) (w : World) (ha : a.size ≤ 1000) (hb : b.size ≤ 1000) (hr : RAt w r) :
    Calls Tryd.prog 111 #[.pointer (some ⟨r, 0, none⟩), .string a, .string b] w fun e w' => e = .returned (.string (joinS a b)) ∧ Below w.heap.size w w' := by
  have HK := Lib.hid (rmark2 r 110 _ rfl a b w ha hb hr)
  clear hr
  go_enter Tryd.func111, Tryd.ntmps111
  go_wp2_with (go_at_call 22; refine HK.out.mono ?_; rintro e w1 ⟨rfl, hB1⟩)
  go_ret
  exact ⟨rfl, hB1⟩
theorem rempty_any (r : Nat) (d : Nat) (w : World) (hd : d ≤ 1000) (hr : RAt w r) :
    Calls Tryd.prog 108 #[.pointer (some ⟨r, 0, none⟩), .int .i64 d] w fun e w' => e = .returned (.string (emptyS d)) ∧ Below w.heap.size w w' := by
  have Hr := Lib.hid hr
  have hn1 := numS_size (d : Int)
  clear hr
  go_enter Tryd.func108, Tryd.ntmps108
  go_wp2_with (first
    | (go_at_call 20; refine (rnum_any _ _ (by omega) (by omega)).mono ?_; rintro e w1 ⟨rfl, hB1⟩)
    | (go_at_call 22; refine (rmark1 r 101 _ rfl _ _ (by omega) (Hr.out.mono hB1)).mono ?_; rintro e w2 ⟨rfl, hB2⟩))
  go_ret
  exact ⟨rfl, hB1.trans (hB2.mono hB1.size)⟩
theorem rleaf_any (r : Nat) (li lc : ByteArray) (d : Nat) (w : World) (hd : d ≤ 1000) (hli : li.size ≤ 1000) (hlc : lc.size ≤ 1000) (hr : RAt w r) :
    Calls Tryd.prog 109 #[.pointer (some ⟨r, 0, none⟩), .agg #[.string li, .string lc], .int .i64 d] w fun e w' => e = .returned (.string (leafS li lc d)) ∧ Below w.heap.size w w' := by
  have Hr := Lib.hid hr
  have hn1 := numS_size (d : Int)
  have hlo : -9223372036854775808 ≤ (d : Int) := by omega
  have hhi : (d : Int) ≤ 9223372036854775807 := by omega
  have hb : Below w.heap.size w (w.alloc (.cells #[.string li, .string lc] 49)) := (Below.refl _ _).alloc (Nat.le_refl _) _
  have k0 : (w.alloc (.cells #[.string li, .string lc] 49)).cell? ⟨w.heap.size, 0, none⟩ = some (.string li) := by rw [cell_of_row _ _ _ _ _ _ (heap_alloc_new _ _)]; rfl
  have k1 : (w.alloc (.cells #[.string li, .string lc] 49)).cell? ⟨w.heap.size, 1, none⟩ = some (.string lc) := by rw [cell_of_row _ _ _ _ _ _ (heap_alloc_new _ _)]; rfl
  clear hr
  go_enter Tryd.func109, Tryd.ntmps109
  go_wp2_with fail
  generalize w.alloc (.cells #[.string li, .string lc] 49) = w1 at *
  have x0 := fun x : Grown w1 => x.cell k0
  have x1 := fun x : Grown w1 => x.cell k1
  clear k0 k1
  refine wp_region_any (by kernel_rfl) ?_
  refine wpAny_take (i := 0) (v := ?_) rfl (by kernel_rfl) (by kernel_rfl) (by kernel_rfl) (fun _ _ _ h => h) (Or.inl ⟨by rfl, ?_⟩) ?_
  case refine_2 => intro w; go_simp <;> with_reducible rfl
  refine wpAny_grown_tail (w0 := w1) 1 7 (by kernel_rfl) (belowN (Below.refl _ _) 1) ?_
  simp only [List.take_succ_cons, List.take_zero, List.drop_succ_cons, List.drop_zero]
  repeat (quiet_step ((go_at_call 20; exact Grown.call _ (rnum_any (d : Int) _ hlo hhi))))
  refine wpQuiet_nil ?_
  intro x
  have hX := hb.trans (x.below.mono hb.size)
  generalize x.val = wx at hX
  go_wp2_with (first
    | (go_at_call 22; refine (rmark3 r 108 _ rfl _ _ _ _ (by omega) (by omega) (by omega) (Hr.out.mono hX)).mono ?_; rintro e w2 ⟨rfl, hB2⟩))
  go_ret
  exact ⟨rfl, hX.trans (hB2.mono hX.size)⟩
end Go.Proofs.YtfhjnfocmlndpaaDoor

namespace Go.Proofs.YtfhjnfocmlndpaaDoor
open Go Go.RowKit Go.Proofs

set_option maxRecDepth 20000 in
set_option maxHeartbeats 2000000 in
theorem rpright_any (ix : ByteArray) (pv : Value) (path : List ByteArray) (li lc : ByteArray) (w : World) (hv : Reads w pv path.length 1 (path.map Value.string)) (hl : path.length ≤ 1000000) :
    Calls Tryd.prog 35 #[.string ix, .agg #[pv, .string li, .string lc]] w fun e w' => e = .returned (.bool (rightB ix path li lc)) ∧ Below w.heap.size w w' := by
  obtain ⟨a, cap, rfl⟩ : ∃ a cap, pv = .slice a path.length cap := by
    rcases hv.2 with ⟨_, a, c, rfl⟩ | ⟨b, off, cap, rfl, _⟩
    · exact ⟨a, c, rfl⟩
    · exact ⟨_, cap, rfl⟩
  have hb : Below w.heap.size w (w.alloc (.cells #[.slice a path.length cap, .string li, .string lc] 51)) := (Below.refl _ _).alloc (Nat.le_refl _) _
  have hH := rmarks_any _ path _ (hv.mono hb) hl
  obtain ⟨R, hR⟩ : ∃ R, R = rightB ix path li lc := ⟨_, rfl⟩
  rw [← hR]
  have hRd : R = true ↔ rightP ix path li lc := by rw [hR]; unfold rightB; exact @decide_eq_true_iff _ (Classical.propDecidable _)
  obtain ⟨n, hn⟩ : ∃ n, n = path.length := ⟨_, rfl⟩
  rw [← hn] at hb hH ⊢
  have Hn := Lib.hid hn
  clear hv hR hn
  by_cases h1 : ix.size = 16
  · have HMix := Lib.hid (fun W => rmk_yes ix W h1)
    by_cases h2 : n ≤ 128
    · have f2 : ¬ (128 : Int) < n := by omega
      by_cases h3 : ∀ p ∈ path, p.size = 16
      · have HH : Hid (Calls Tryd.prog 105 #[.slice a n cap] (w.alloc (.cells #[.slice a n cap, .string li, .string lc] 51)) fun e w' => e = .returned (.bool true) ∧ w' = w.alloc (.cells #[.slice a n cap, .string li, .string lc] 51)) := by
          refine hH.mono ?_
          rintro e w' ⟨c, rfl, hw, _, hc⟩
          refine ⟨?_, hw.symm⟩
          cases c with
          | true => rfl
          | false => obtain ⟨p, hp, hp2⟩ := hc rfl; exact absurd (h3 p hp) hp2
        have H3 := Lib.hid h3
        clear hH h3
        by_cases h4 : li.size = 0 ∧ lc.size = 0
        · have g1 := toList_nil h4.1
          have g2 := toList_nil h4.2
          obtain rfl : R = true := hRd.2 ⟨h1, by have := Hn.out; omega, H3.out, .inl h4⟩
          clear hRd h4 h1
          go_enter Tryd.func35, Tryd.ntmps35
          go_wp2_with (first
            | (go_at_call 98; with_reducible refine (HMix.out _).mono ?_; rintro e w1 ⟨rfl, hw⟩; subst hw)
            | (go_at_call 98; with_reducible refine (HMlc.out _).mono ?_; rintro e w1 ⟨rfl, hw⟩; subst hw)
            | (go_at_call 105; refine HH.out.mono ?_; rintro e w1 ⟨rfl, hw⟩; have hw2 := hw.symm; subst hw2)
            | (go_at_call 92; refine (HC.out _).mono ?_; rintro e w1 ⟨rfl, hw⟩; have hw2 := hw.symm; subst hw2))
          go_ret
          exact ⟨rfl, hb⟩
        · have hor : (¬ li.toList = [] ∧ li.toList.isEmpty = false) ∨ (li.toList = [] ∧ ¬ lc.toList = [] ∧ lc.toList.isEmpty = false) := by
            by_cases h5 : li.size = 0
            · exact .inr ⟨toList_nil h5, toList_ne (fun h6 => h4 ⟨h5, h6⟩), by rw [List.isEmpty_eq_false_iff]; exact toList_ne (fun h6 => h4 ⟨h5, h6⟩)⟩
            · exact .inl ⟨toList_ne h5, by rw [List.isEmpty_eq_false_iff]; exact toList_ne h5⟩
          have hor2 : (¬ li.toList = [] ∧ li.toList.isEmpty = false) ∨ (li.toList = [] ∧ ¬ lc.toList = [] ∧ lc.toList.isEmpty = false) := hor
          by_cases h6 : li.size = 16
          · have HC := Lib.hid (fun W => rcommon_ok ix li W h1 h6)
            have g6 : ¬ li.toList = [] := toList_ne (by omega)
            have g6b : li.toList.isEmpty = false := by rw [List.isEmpty_eq_false_iff]; exact g6
            by_cases h7 : n ≤ cmn ix li
            · have e7 : (n : Int) ≤ cmn ix li := by omega
              by_cases h8 : lc.size = 16
              · have HMlc := Lib.hid (fun W => rmk_yes lc W h8)
                obtain rfl : R = true := hRd.2 ⟨h1, by have := Hn.out; omega, H3.out, .inr ⟨h6, by have := Hn.out; omega, h8⟩⟩
                generalize cmn ix li = C at *
                clear hRd h1 h4 h6 hor hor2 h8
                go_enter Tryd.func35, Tryd.ntmps35
                go_wp2_with (first
                  | (go_at_call 98; with_reducible refine (HMix.out _).mono ?_; rintro e w1 ⟨rfl, hw⟩; subst hw)
                  | (go_at_call 98; with_reducible refine (HMlc.out _).mono ?_; rintro e w1 ⟨rfl, hw⟩; subst hw)
                  | (go_at_call 105; refine HH.out.mono ?_; rintro e w1 ⟨rfl, hw⟩; have hw2 := hw.symm; subst hw2)
                  | (go_at_call 92; refine (HC.out _).mono ?_; rintro e w1 ⟨rfl, hw⟩; have hw2 := hw.symm; subst hw2))
                go_ret
                exact ⟨rfl, hb⟩
              · have HMlc := Lib.hid (fun W => rmk_no lc W h8)
                obtain rfl : R = false := by rw [Bool.eq_false_iff]; intro h; have := (hRd.1 h).2.2.2; have := Hn.out; omega
                generalize cmn ix li = C at *
                clear hRd h1 h4 h6 hor hor2 h8
                go_enter Tryd.func35, Tryd.ntmps35
                go_wp2_with (first
                  | (go_at_call 98; with_reducible refine (HMix.out _).mono ?_; rintro e w1 ⟨rfl, hw⟩; subst hw)
                  | (go_at_call 98; with_reducible refine (HMlc.out _).mono ?_; rintro e w1 ⟨rfl, hw⟩; subst hw)
                  | (go_at_call 105; refine HH.out.mono ?_; rintro e w1 ⟨rfl, hw⟩; have hw2 := hw.symm; subst hw2)
                  | (go_at_call 92; refine (HC.out _).mono ?_; rintro e w1 ⟨rfl, hw⟩; have hw2 := hw.symm; subst hw2))
                go_ret
                exact ⟨rfl, hb⟩
            · have e7 : ¬ (n : Int) ≤ cmn ix li := by omega
              have e7d : decide (n ≤ cmn ix li) = false := decide_eq_false h7
              obtain rfl : R = false := by rw [Bool.eq_false_iff]; intro h; have := (hRd.1 h).2.2.2; have := Hn.out; omega
              generalize cmn ix li = C at *
              clear hRd h1 h4 h6 hor hor2
              go_enter Tryd.func35, Tryd.ntmps35
              go_wp2_with (first
                | (go_at_call 98; with_reducible refine (HMix.out _).mono ?_; rintro e w1 ⟨rfl, hw⟩; subst hw)
                | (go_at_call 98; with_reducible refine (HMlc.out _).mono ?_; rintro e w1 ⟨rfl, hw⟩; subst hw)
                | (go_at_call 105; refine HH.out.mono ?_; rintro e w1 ⟨rfl, hw⟩; have hw2 := hw.symm; subst hw2)
                | (go_at_call 92; refine (HC.out _).mono ?_; rintro e w1 ⟨rfl, hw⟩; have hw2 := hw.symm; subst hw2))
              go_ret
              exact ⟨rfl, hb⟩
          · have HC : Hid (∀ W, Calls Tryd.prog 92 #[.string ix, .string li] W fun e w' => e = .returned (.tuple #[.int .i64 0, .int .i64 1]) ∧ w' = W) := fun W => by
              have := rcommon_any ix li W
              unfold cmnV cmnK at this
              rw [if_neg (fun h => h6 h.2), if_neg (fun h => h6 h.2)] at this
              exact this
            obtain rfl : R = false := by rw [Bool.eq_false_iff]; intro h; have := (hRd.1 h).2.2.2; have := Hn.out; omega
            clear hRd h1 h4 h6 hor
            rcases hor2 with ⟨g1, g3⟩ | ⟨g1, g2, g3⟩
            all_goals
              go_enter Tryd.func35, Tryd.ntmps35
              go_wp2_with (first
                | (go_at_call 98; with_reducible refine (HMix.out _).mono ?_; rintro e w1 ⟨rfl, hw⟩; subst hw)
                | (go_at_call 98; with_reducible refine (HMlc.out _).mono ?_; rintro e w1 ⟨rfl, hw⟩; subst hw)
                | (go_at_call 105; refine HH.out.mono ?_; rintro e w1 ⟨rfl, hw⟩; have hw2 := hw.symm; subst hw2)
                | (go_at_call 92; refine (HC.out _).mono ?_; rintro e w1 ⟨rfl, hw⟩; have hw2 := hw.symm; subst hw2))
              go_ret
              exact ⟨rfl, hb⟩
      · have HH : Hid (Calls Tryd.prog 105 #[.slice a n cap] (w.alloc (.cells #[.slice a n cap, .string li, .string lc] 51)) fun e w' => e = .returned (.bool false) ∧ w' = w.alloc (.cells #[.slice a n cap, .string li, .string lc] 51)) := by
          refine hH.mono ?_
          rintro e w' ⟨c, rfl, hw, hc, _⟩
          refine ⟨?_, hw.symm⟩
          cases c with
          | true => exact absurd (hc rfl) h3
          | false => rfl
        obtain rfl : R = false := by rw [Bool.eq_false_iff]; intro h; exact h3 (hRd.1 h).2.2.1
        clear hH h3 hRd h1
        go_enter Tryd.func35, Tryd.ntmps35
        go_wp2_with (first
          | (go_at_call 98; with_reducible refine (HMix.out _).mono ?_; rintro e w1 ⟨rfl, hw⟩; subst hw)
          | (go_at_call 98; with_reducible refine (HMlc.out _).mono ?_; rintro e w1 ⟨rfl, hw⟩; subst hw)
          | (go_at_call 105; refine HH.out.mono ?_; rintro e w1 ⟨rfl, hw⟩; have hw2 := hw.symm; subst hw2)
          | (go_at_call 92; refine (HC.out _).mono ?_; rintro e w1 ⟨rfl, hw⟩; have hw2 := hw.symm; subst hw2))
        go_ret
        exact ⟨rfl, hb⟩
    · have f2 : (128 : Int) < n := by omega
      obtain rfl : R = false := by rw [Bool.eq_false_iff]; intro h; have := (hRd.1 h).2.1; have := Hn.out; omega
      clear hH hRd h1
      go_enter Tryd.func35, Tryd.ntmps35
      go_wp2_with (first
        | (go_at_call 98; with_reducible refine (HMix.out _).mono ?_; rintro e w1 ⟨rfl, hw⟩; subst hw)
        | (go_at_call 98; with_reducible refine (HMlc.out _).mono ?_; rintro e w1 ⟨rfl, hw⟩; subst hw)
        | (go_at_call 105; refine HH.out.mono ?_; rintro e w1 ⟨rfl, hw⟩; have hw2 := hw.symm; subst hw2)
        | (go_at_call 92; refine (HC.out _).mono ?_; rintro e w1 ⟨rfl, hw⟩; have hw2 := hw.symm; subst hw2))
      go_ret
      exact ⟨rfl, hb⟩
  · have HMix := Lib.hid (fun W => rmk_no ix W h1)
    obtain rfl : R = false := by rw [Bool.eq_false_iff]; intro h; exact h1 (hRd.1 h).1
    clear hH hRd h1
    go_enter Tryd.func35, Tryd.ntmps35
    go_wp2_with (first
      | (go_at_call 98; with_reducible refine (HMix.out _).mono ?_; rintro e w1 ⟨rfl, hw⟩; subst hw)
      | (go_at_call 98; with_reducible refine (HMlc.out _).mono ?_; rintro e w1 ⟨rfl, hw⟩; subst hw)
      | (go_at_call 105; refine HH.out.mono ?_; rintro e w1 ⟨rfl, hw⟩; have hw2 := hw.symm; subst hw2)
      | (go_at_call 92; refine (HC.out _).mono ?_; rintro e w1 ⟨rfl, hw⟩; have hw2 := hw.symm; subst hw2))
    go_ret
    exact ⟨rfl, hb⟩
end Go.Proofs.YtfhjnfocmlndpaaDoor
