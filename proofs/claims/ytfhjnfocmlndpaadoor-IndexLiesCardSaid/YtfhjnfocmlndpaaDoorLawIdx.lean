/- The law IndexLies: it returns true. -/
import Derived.Test.YtfhjnfocmlndpaaDoorIndexR
import Derived.Test.YtfhjnfocmlndpaaDoorLawOnce
namespace Go.Proofs.YtfhjnfocmlndpaaDoor
open Go Go.RowKit Go.Proofs

theorem ofS_size (name : ByteArray) : (ofS name).size ≤ 16 := by
  unfold ofS
  split
  · rw [markS_size]; decide
  · decide

set_option maxRecDepth 100000 in
set_option maxHeartbeats 4000000 in
theorem law_indexLies (name a b : ByteArray) (k : Int) (w : World) (hk : KAt w 0) (he : EAt w) :
    Calls Tryd.prog 12 #[.string name, .string a, .string b, .int .i64 k] w fun e w' => e = .returned (.bool true) ∧ Below w.heap.size w w' := by
  have Hk := Lib.hid hk
  have He := Lib.hid he
  have hRefl := Below.refl w.heap.size w
  clear hk he
  by_cases hall : name.size ≤ 60 ∧ a.size ≤ 60 ∧ b.size ≤ 60
  · have HA := Lib.hid (long_no name w hall.1)
    have HB := Lib.hid (long_no a w hall.2.1)
    have HC := Lib.hid (long_no b w hall.2.2)
    have hn : name.size ≤ 1000000 := by omega
    clear hall
    go_enter Tryd.func12, Tryd.ntmps12
    go_wp2_with (first
      | (go_at_call 23; with_reducible refine HA.out.mono ?_; rintro e w1 ⟨rfl, hw⟩; have hw2 := hw.symm; subst hw2)
      | (go_at_call 23; with_reducible refine HB.out.mono ?_; rintro e w1 ⟨rfl, hw⟩; have hw2 := hw.symm; subst hw2)
      | (go_at_call 23; with_reducible refine HC.out.mono ?_; rintro e w1 ⟨rfl, hw⟩; have hw2 := hw.symm; subst hw2)
      | (go_at_call 14; refine (new_any _).mono ?_; rintro e w1 ⟨r, rfl, hR1, hr1, hB1⟩; have S1 : St w r w1 := ⟨hB1, hR1⟩)
      | (go_at_call 88; refine (rof_any r name _ hn S1.ref).mono ?_; rintro e w2 ⟨rfl, hB2⟩; have S2 := S1.step hB2)
      | (go_at_call 47; refine (of_any name _ hn (Hk.out.mono S2.below)).mono ?_; rintro e w3 ⟨rfl, hB3⟩; have S3 := S2.step hB3)
      | (go_at_call 26; with_reducible refine (bare_same (errV (ofK name)) _ _ (errV_is _) (He.out.mono S3.below)).mono ?_; rintro e w4 ⟨rfl, hB4⟩; have S4 := S3.step hB4)
      | (go_at_call 89; refine (name_any name _ hn).mono ?_; rintro e w5 ⟨rfl, hB5⟩; have S5 := S4.step hB5)
      | (go_at_call 90; refine (rname_any name _ hn).mono ?_; rintro e w1 ⟨rfl, hw⟩; have hw2 := hw.symm; subst hw2)
      | (go_at_call 91; refine (rbit_any a k _).mono ?_; rintro e w1 ⟨rfl, hw⟩; have hw2 := hw.symm; subst hw2)
      | (go_at_call 49; refine (bit_any a k _).mono ?_; rintro e w1 ⟨rfl, hw⟩; have hw2 := hw.symm; subst hw2)
      | (go_at_call 26; with_reducible refine (bare_same (errV (bitK a k)) _ _ (errV_is _) (He.out.mono S5.below)).mono ?_; rintro e w7 ⟨rfl, hB7⟩; have S7 := S5.step hB7)
      | (go_at_call 92; refine (rcommon_any a b _).mono ?_; rintro e w1 ⟨rfl, hw⟩; have hw2 := hw.symm; subst hw2)
      | (go_at_call 48; refine (common_any a b _).mono ?_; rintro e w1 ⟨rfl, hw⟩; have hw2 := hw.symm; subst hw2)
      | (go_at_call 26; with_reducible refine (bare_same (errV (cmnK a b)) _ _ (errV_is _) (He.out.mono S7.below)).mono ?_; rintro e w9 ⟨rfl, hB9⟩; have S9 := S7.step hB9))
    go_ret
    exact ⟨rfl, S9.below⟩
  · have HA : Hid (name.size ≤ 60 → Calls Tryd.prog 23 #[.string name] w fun e w' => e = .returned (.bool false) ∧ w' = w) := long_no name w
    have HB : Hid (a.size ≤ 60 → Calls Tryd.prog 23 #[.string a] w fun e w' => e = .returned (.bool false) ∧ w' = w) := long_no a w
    by_cases h1 : name.size ≤ 60
    · by_cases h2 : a.size ≤ 60
      · have HC := Lib.hid (long_yes b w (fun h3 => hall ⟨h1, h2, h3⟩))
        have HA2 := Lib.hid (HA.out h1)
        have HB2 := Lib.hid (HB.out h2)
        clear h1 h2 hall
        go_enter Tryd.func12, Tryd.ntmps12
        go_wp2_with (first
          | (go_at_call 23; with_reducible refine HA2.out.mono ?_; rintro e w1 ⟨rfl, hw⟩; have hw2 := hw.symm; subst hw2)
          | (go_at_call 23; with_reducible refine HB2.out.mono ?_; rintro e w1 ⟨rfl, hw⟩; have hw2 := hw.symm; subst hw2)
          | (go_at_call 23; with_reducible refine HC.out.mono ?_; rintro e w1 ⟨rfl, hw⟩; have hw2 := hw.symm; subst hw2))
        go_ret
        exact ⟨rfl, hRefl⟩
      · have HC := Lib.hid (long_yes a w h2)
        have HA2 := Lib.hid (HA.out h1)
        clear h1 h2 hall
        go_enter Tryd.func12, Tryd.ntmps12
        go_wp2_with (first
          | (go_at_call 23; with_reducible refine HA2.out.mono ?_; rintro e w1 ⟨rfl, hw⟩; have hw2 := hw.symm; subst hw2)
          | (go_at_call 23; with_reducible refine HC.out.mono ?_; rintro e w1 ⟨rfl, hw⟩; have hw2 := hw.symm; subst hw2))
        go_ret
        exact ⟨rfl, hRefl⟩
    · have HC := Lib.hid (long_yes name w h1)
      clear h1 hall
      go_enter Tryd.func12, Tryd.ntmps12
      go_wp2_with (first
        | (go_at_call 23; with_reducible refine HC.out.mono ?_; rintro e w1 ⟨rfl, hw⟩; have hw2 := hw.symm; subst hw2))
      go_ret
      exact ⟨rfl, hRefl⟩
end Go.Proofs.YtfhjnfocmlndpaaDoor
