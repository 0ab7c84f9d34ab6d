/- proof.Right. -/
import Derived.Test.YtfhjnfocmlndpaaDoorProof
namespace Go.Proofs.YtfhjnfocmlndpaaDoor
open Go Go.RowKit Go.Proofs

theorem toList_nil {s : ByteArray} (h : s.size = 0) : s.toList = [] := by
  rw [ByteArray.toList_eq]
  have : s.data.toList.length = s.size := by simp
  exact List.eq_nil_of_length_eq_zero (by omega)
theorem toList_ne {s : ByteArray} (h : s.size ≠ 0) : ¬ s.toList = [] := by
  rw [ByteArray.toList_eq]
  intro h2
  have : s.data.toList.length = s.size := by simp
  rw [h2] at this
  simp at this
  omega
set_option maxRecDepth 20000 in
set_option maxHeartbeats 2000000 in
theorem pright_any (ix : ByteArray) (pv : Value) (path : List ByteArray) (li lc : ByteArray) (w : World) (hv : Reads w pv path.length 1 (path.map Value.string)) (hl : path.length ≤ 1000000) :
    Calls Tryd.prog 34 #[.string ix, .agg #[pv, .string li, .string lc]] w fun e w' => e = .returned (.bool (rightB ix path li lc)) ∧ Below w.heap.size w w' := by
  obtain ⟨a, cap, rfl⟩ : ∃ a cap, pv = .slice a path.length cap := by
    rcases hv.2 with ⟨_, a, c, rfl⟩ | ⟨b, off, cap, rfl, _⟩
    · exact ⟨a, c, rfl⟩
    · exact ⟨_, cap, rfl⟩
  have hb : Below w.heap.size w (w.alloc (.cells #[.slice a path.length cap, .string li, .string lc] 51)) := (Below.refl _ _).alloc (Nat.le_refl _) _
  have hH := has_anyP _ path _ (hv.mono hb) hl
  obtain ⟨R, hR⟩ : ∃ R, R = rightB ix path li lc := ⟨_, rfl⟩
  rw [← hR]
  have hRd : R = true ↔ rightP ix path li lc := by rw [hR]; unfold rightB; exact @decide_eq_true_iff _ (Classical.propDecidable _)
  obtain ⟨n, hn⟩ : ∃ n, n = path.length := ⟨_, rfl⟩
  rw [← hn] at hb hH ⊢
  have Hn := Lib.hid hn
  clear hv hR hn
  by_cases h1 : ix.size = 16
  · have f1 : (ix.size : Int) = 16 := by omega
    by_cases h2 : n ≤ 128
    · have f2 : ¬ (128 : Int) < n := by omega
      by_cases h3 : ∀ p ∈ path, p.size = 16
      · have HH : Hid (Calls Tryd.prog 106 #[.slice a n cap, .func (Fn.func 116) #[] #[]] (w.alloc (.cells #[.slice a n cap, .string li, .string lc] 51)) fun e w' => e = .returned (.bool false) ∧ w' = w.alloc (.cells #[.slice a n cap, .string li, .string lc] 51)) := by
          refine hH.mono ?_
          rintro e w' ⟨c, rfl, rfl, _, hc⟩
          refine ⟨?_, rfl⟩
          cases c with
          | false => rfl
          | true => obtain ⟨p, hp, hp2⟩ := hc rfl; exact absurd (h3 p hp) hp2
        have H3 := Lib.hid h3
        clear hH h3
        by_cases h4 : li.size = 0 ∧ lc.size = 0
        · have g1 := toList_nil h4.1
          have g2 := toList_nil h4.2
          obtain rfl : R = true := hRd.2 ⟨h1, by have := Hn.out; omega, H3.out, .inl h4⟩
          clear hRd h4 h1
          go_enter Tryd.func34, Tryd.ntmps34
          go_wp2_with (go_at_call 106; refine HH.out.mono ?_; rintro e w1 ⟨rfl, hw⟩; have hw2 := hw.symm; subst hw2)
          go_ret
          exact ⟨rfl, hb⟩
        · have hor : ¬ li.toList = [] ∨ (li.toList = [] ∧ ¬ lc.toList = []) := by
            by_cases h5 : li.size = 0
            · exact .inr ⟨toList_nil h5, toList_ne (fun h6 => h4 ⟨h5, h6⟩)⟩
            · exact .inl (toList_ne h5)
          have hor2 : ¬ li.toList = [] ∨ (li.toList = [] ∧ ¬ lc.toList = []) := hor
          by_cases h6 : li.size = 16
          · have HC := Lib.hid (fun W => common_ok ix li W h1 h6)
            have g6 : ¬ li.toList = [] := toList_ne (by omega)
            by_cases h7 : n ≤ cmn ix li
            · have e7 : (n : Int) ≤ cmn ix li := by omega
              by_cases h8 : lc.size = 16
              · have f8 : (lc.size : Int) = 16 := by omega
                obtain rfl : R = true := hRd.2 ⟨h1, by have := Hn.out; omega, H3.out, .inr ⟨h6, by have := Hn.out; omega, h8⟩⟩
                generalize cmn ix li = C at *
                clear hRd h1 h4 h6 hor hor2 h8
                go_enter Tryd.func34, Tryd.ntmps34
                go_wp2_with (first
                  | (go_at_call 106; refine HH.out.mono ?_; rintro e w1 ⟨rfl, hw⟩; have hw2 := hw.symm; subst hw2)
                  | (go_at_call 48; refine (HC.out _).mono ?_; rintro e w1 ⟨rfl, hw⟩; have hw2 := hw.symm; subst hw2))
                go_ret
                exact ⟨rfl, hb⟩
              · have f8 : ((lc.size : Int) == 16) = false := by rw [beq_eq_false_iff_ne]; omega
                obtain rfl : R = false := by rw [Bool.eq_false_iff]; intro h; have := (hRd.1 h).2.2.2; have := Hn.out; omega
                generalize cmn ix li = C at *
                clear hRd h1 h4 h6 hor hor2 h8
                go_enter Tryd.func34, Tryd.ntmps34
                go_wp2_with (first
                  | (go_at_call 106; refine HH.out.mono ?_; rintro e w1 ⟨rfl, hw⟩; have hw2 := hw.symm; subst hw2)
                  | (go_at_call 48; refine (HC.out _).mono ?_; rintro e w1 ⟨rfl, hw⟩; have hw2 := hw.symm; subst hw2))
                go_ret
                exact ⟨rfl, hb⟩
            · have e7 : ¬ (n : Int) ≤ cmn ix li := by omega
              have e7d : decide (n ≤ cmn ix li) = false := decide_eq_false h7
              obtain rfl : R = false := by rw [Bool.eq_false_iff]; intro h; have := (hRd.1 h).2.2.2; have := Hn.out; omega
              generalize cmn ix li = C at *
              clear hRd h1 h4 h6 hor hor2
              go_enter Tryd.func34, Tryd.ntmps34
              go_wp2_with (first
                | (go_at_call 106; refine HH.out.mono ?_; rintro e w1 ⟨rfl, hw⟩; have hw2 := hw.symm; subst hw2)
                | (go_at_call 48; refine (HC.out _).mono ?_; rintro e w1 ⟨rfl, hw⟩; have hw2 := hw.symm; subst hw2))
              go_ret
              exact ⟨rfl, hb⟩
          · have HC : Hid (∀ W, Calls Tryd.prog 48 #[.string ix, .string li] W fun e w' => e = .returned (.tuple #[.int .i64 0, .iface 31 (.int .i64 1)]) ∧ w' = W) := fun W => by
              have := common_any ix li W
              unfold IntPost cmnV cmnK at this
              rw [if_neg (fun h => h6 h.2), if_neg (fun h => h6 h.2)] at this
              exact this
            obtain rfl : R = false := by rw [Bool.eq_false_iff]; intro h; have := (hRd.1 h).2.2.2; have := Hn.out; omega
            clear hRd h1 h4 h6 hor
            rcases hor2 with g1 | ⟨g1, g2⟩
            all_goals
              go_enter Tryd.func34, Tryd.ntmps34
              go_wp2_with (first
                | (go_at_call 106; refine HH.out.mono ?_; rintro e w1 ⟨rfl, hw⟩; have hw2 := hw.symm; subst hw2)
                | (go_at_call 48; refine (HC.out _).mono ?_; rintro e w1 ⟨rfl, hw⟩; have hw2 := hw.symm; subst hw2))
              go_ret
              exact ⟨rfl, hb⟩
      · have HH : Hid (Calls Tryd.prog 106 #[.slice a n cap, .func (Fn.func 116) #[] #[]] (w.alloc (.cells #[.slice a n cap, .string li, .string lc] 51)) fun e w' => e = .returned (.bool true) ∧ w' = w.alloc (.cells #[.slice a n cap, .string li, .string lc] 51)) := by
          refine hH.mono ?_
          rintro e w' ⟨c, rfl, rfl, hc, _⟩
          refine ⟨?_, rfl⟩
          cases c with
          | false => exact absurd (hc rfl) h3
          | true => rfl
        obtain rfl : R = false := by rw [Bool.eq_false_iff]; intro h; exact h3 (hRd.1 h).2.2.1
        clear hH h3 hRd h1
        go_enter Tryd.func34, Tryd.ntmps34
        go_wp2_with (go_at_call 106; refine HH.out.mono ?_; rintro e w1 ⟨rfl, hw⟩; have hw2 := hw.symm; subst hw2)
        go_ret
        exact ⟨rfl, hb⟩
    · have f2 : (128 : Int) < n := by omega
      obtain rfl : R = false := by rw [Bool.eq_false_iff]; intro h; have := (hRd.1 h).2.1; have := Hn.out; omega
      clear hH hRd h1
      go_enter Tryd.func34, Tryd.ntmps34
      go_wp2_with fail
      go_ret
      exact ⟨rfl, hb⟩
  · have f1 : ((ix.size : Int) == 16) = false := by rw [beq_eq_false_iff_ne]; omega
    have f2 : ((ix.size : Int) != 16) = true := by rw [bne_iff_ne]; omega
    obtain rfl : R = false := by rw [Bool.eq_false_iff]; intro h; exact h1 (hRd.1 h).1
    clear hH hRd h1
    go_enter Tryd.func34, Tryd.ntmps34
    go_wp2_with fail
    go_ret
    exact ⟨rfl, hb⟩
end Go.Proofs.YtfhjnfocmlndpaaDoor
