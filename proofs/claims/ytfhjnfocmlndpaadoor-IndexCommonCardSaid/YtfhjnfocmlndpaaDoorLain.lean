/- The law IndexCommon: it returns true. -/
import Derived.Test.YtfhjnfocmlndpaaDoorIndex
import Derived.Test.YtfhjnfocmlndpaaDoorOnce
namespace Go.Proofs.YtfhjnfocmlndpaaDoor
open Go Go.RowKit Go.Proofs

def annS : ByteArray := ⟨#[97, 110, 110]⟩
def AnnS : ByteArray := ⟨#[65, 110, 110]⟩
theorem bit_first (c : UInt8) (J : ByteArray) (k : Nat) (hk : k < 8) : bitAt ((⟨#[c]⟩ : ByteArray) ++ J) k = c.toNat / 2 ^ (7 - k) % 2 := by
  unfold bitAt
  rw [show k / 8 = 0 from by omega, show k % 8 = k from by omega]
  congr 2
theorem lain_common (J : ByteArray) : cmn ((⟨#[128]⟩ : ByteArray) ++ J) ((⟨#[144]⟩ : ByteArray) ++ J) = 3 := by
  refine cmn_eq ⟨by decide, fun j hj => ?_, fun _ => ?_⟩
  · rw [bit_first _ _ _ (by omega), bit_first _ _ _ (by omega)]
    have : j = 0 ∨ j = 1 ∨ j = 2 := by omega
    rcases this with rfl | rfl | rfl <;> rfl
  · rw [bit_first _ _ _ (by omega), bit_first _ _ _ (by omega)]
    decide
theorem lain_size (c : UInt8) (I : ByteArray) (h : I.size = 16) : ((⟨#[c]⟩ : ByteArray) ++ I.extract 1 16).size = 16 := by
  rw [ByteArray.size_append, ByteArray.size_extract, h]; rfl
set_option maxRecDepth 20000 in
set_option maxHeartbeats 2000000 in
theorem lain_any (w : World) (hk : KAt w 0) : Calls Tryd.prog 46 #[] w fun e w' => e = .returned (.bool true) ∧ Below w.heap.size w w' := by
  obtain ⟨I, hI⟩ : ∃ I, I = markS 105 [annS] := ⟨_, rfl⟩
  have hI16 : I.size = 16 := by rw [hI, markS_size]
  have hO := of_any annS w (by decide) hk
  rw [show ofS annS = I from by rw [hI]; rfl, show ofK annS = 0 from rfl] at hO
  unfold StrPost at hO
  rw [errV_0] at hO
  have HO := Lib.hid hO
  have HI := Lib.hid hI
  have Hk := Lib.hid hk
  have i16 : (I.size : Int) = 16 := by omega
  clear hk hO hI
  have hN : Hid (∀ W : World, Calls Tryd.prog 89 #[.string AnnS] W fun e w' => e = .returned (.bool false) ∧ Below W.heap.size W w') := fun W => by
    have h := name_any AnnS W (by decide)
    rwa [show nameOk AnnS = false from by decide] at h
  have hB80 : Hid (∀ W : World, Calls Tryd.prog 49 #[.string ((⟨#[128]⟩ : ByteArray) ++ I.extract 1 16), .int .i64 0] W fun e w' => e = .returned (.tuple #[.int .i64 1, .nilIface]) ∧ w' = W) := fun W => by
    have h := bit_ok ((⟨#[128]⟩ : ByteArray) ++ I.extract 1 16) 0 W (lain_size 128 I hI16) (by decide)
    rw [bit_first _ _ _ (by decide)] at h
    exact h
  have hC : Hid (∀ W : World, Calls Tryd.prog 48 #[.string ((⟨#[128]⟩ : ByteArray) ++ I.extract 1 16), .string ((⟨#[144]⟩ : ByteArray) ++ I.extract 1 16)] W fun e w' => e = .returned (.tuple #[.int .i64 3, .nilIface]) ∧ w' = W) := fun W => by
    have h := common_ok ((⟨#[128]⟩ : ByteArray) ++ I.extract 1 16) ((⟨#[144]⟩ : ByteArray) ++ I.extract 1 16) W (lain_size 128 I hI16) (lain_size 144 I hI16)
    rw [lain_common] at h
    exact h
  go_enter Tryd.func46, Tryd.ntmps46
  go_wp2_with (first
    | (go_at_call 47; refine HO.out.mono ?_; rintro e w1 ⟨rfl, hB1⟩)
    | (go_at_call 21; refine (mark1 105 _ rfl annS _ (by decide) (Hk.out.mono hB1)).mono ?_; rw [← HI.out]; rintro e w2 ⟨rfl, hB2⟩)
    | (go_at_call 89; refine (hN.out _).mono ?_; rintro e w3 ⟨rfl, hB3⟩)
    | (go_at_call 49; refine (hB80.out _).mono ?_; rintro e w4 ⟨rfl, hw⟩; have hw2 := hw.symm; subst hw2))
  go_quiet ((go_at_call 48; exact Calls.quiet_of_same (hC.out _)))
  go_wp2_with fail
  go_ret
  exact ⟨rfl, belowN ((hB1.trans (hB2.mono hB1.size)).trans (hB3.mono (Nat.le_trans hB1.size hB2.size))) _⟩

/-! ### the law -/
theorem of_yes (name : ByteArray) (w : World) (hs : name.size ≤ 1000000) (h : nameOk name = true) (hk : KAt w 0) :
    Calls Tryd.prog 47 #[.string name] w fun e w' => e = .returned (.tuple #[.string (markS 105 [name]), .nilIface]) ∧ Below w.heap.size w w' := by
  have := of_any name w hs hk
  unfold StrPost ofS ofK at this
  rw [h] at this
  exact this
theorem of_no (name : ByteArray) (w : World) (hs : name.size ≤ 1000000) (h : nameOk name = false) (hk : KAt w 0) :
    Calls Tryd.prog 47 #[.string name] w fun e w' => e = .returned (.tuple #[.string ⟨#[]⟩, .iface 31 (.int .i64 5)]) ∧ Below w.heap.size w w' := by
  have := of_any name w hs hk
  unfold StrPost ofS ofK at this
  rw [h] at this
  exact this
theorem common_no (a b : ByteArray) (w : World) (h : ¬ (a.size = 16 ∧ b.size = 16)) :
    Calls Tryd.prog 48 #[.string a, .string b] w fun e w' => e = .returned (.tuple #[.int .i64 0, .iface 31 (.int .i64 1)]) ∧ w' = w := by
  have := common_any a b w
  unfold IntPost cmnV cmnK at this
  rw [if_neg h, if_neg h] at this
  exact this

set_option maxRecDepth 20000 in
set_option maxHeartbeats 4000000 in
theorem icommon_core (a b c x y X Y : ByteArray) (ex ey : Value) (w : World) (hk : KAt w 0) (hx : x.size ≤ 40) (hy : y.size ≤ 40)
    (HX : Hid (∀ W, KAt W 0 → Calls Tryd.prog 47 #[.string x] W fun e w' => e = .returned (.tuple #[.string X, ex]) ∧ Below W.heap.size W w'))
    (HY : Hid (∀ W, KAt W 0 → Calls Tryd.prog 47 #[.string y] W fun e w' => e = .returned (.tuple #[.string Y, ey]) ∧ Below W.heap.size W w'))
    (hcase : (∃ k, ex = .iface 31 k) ∨ (ex = .nilIface ∧ ∃ k, ey = .iface 31 k) ∨ (ex = .nilIface ∧ ey = .nilIface ∧ X = Y) ∨ (ex = .nilIface ∧ ey = .nilIface ∧ ¬ x.toList = y.toList)) :
    Calls Tryd.prog 7 #[.string a, .string b, .string c, .string x, .string y] w fun e w' => e = .returned (.bool true) ∧ Below w.heap.size w w' := by
  have HL := Lib.hid (lain_any w hk)
  have Hk := Lib.hid hk
  have e1 : ¬ (40 : Int) < x.size := by omega
  have e2 : ¬ (40 : Int) < y.size := by omega
  clear hk hx hy
  by_cases hab : a.size = 16 ∧ b.size = 16
  · have ha16 := hab.1
    have hb16 := hab.2
    have ia : (a.size : Int) = 16 := by omega
    have ib : (b.size : Int) = 16 := by omega
    have HC := Lib.hid (fun W => common_ok a b W ha16 hb16)
    have hnIs := cmn_is a b
    have h128 := cmn_128 ha16 hb16
    have hmin := cmn_min a b c
    have hne := cmn_ne a b c
    obtain ⟨n, hn⟩ : ∃ n, n = cmn a b := ⟨_, rfl⟩
    rw [← hn] at HC hnIs h128 hmin hne
    have hn128 := hnIs.1
    have HBA := Lib.hid (fun (W : World) (k : Nat) (h : k < 128) => bit_ok a k W ha16 h)
    have HBB := Lib.hid (fun (W : World) (k : Nat) (h : k < 128) => bit_ok b k W hb16 h)
    have HIs := Lib.hid hnIs
    have H128 := Lib.hid h128
    have Hmin := Lib.hid hmin
    have Hne := Lib.hid hne
    have HA16 := Lib.hid ha16
    have HB16 := Lib.hid hb16
    clear hnIs h128 hmin hne hab ha16 hb16 hn
    rcases hcase with ⟨kk, rfl⟩ | ⟨rfl, kk, rfl⟩ | ⟨rfl, rfl, rfl⟩ | ⟨rfl, rfl, hxy⟩
    all_goals
      go_enter Tryd.func7, Tryd.ntmps7
      go_wp2_with (first
        | (go_at_call 46; refine HL.out.mono ?_; rintro e w1 ⟨rfl, hB1⟩)
        | (go_at_call 47; with_reducible refine (HX.out _ (Hk.out.mono hB1)).mono ?_; rintro e w2 ⟨rfl, hB2⟩; have hC2 := hB1.trans (hB2.mono hB1.size); clear HX)
        | (go_at_call 47; with_reducible refine (HY.out _ (Hk.out.mono hC2)).mono ?_; rintro e w3 ⟨rfl, hB3⟩; have hC3 := hC2.trans (hB3.mono hC2.size); clear HY)
        | (go_at_call 48; refine (HC.out _).mono ?_; rintro e w4 ⟨rfl, hw⟩; have hw2 := hw.symm; subst hw2))
    all_goals
      go_loopw [17] (fun i wr => ∃ k : Nat, k ≤ n ∧ i = .int .i64 k ∧ wr = w3) (fun i _ => n - (intOf i).toNat)
      case atStart => exact ⟨0, Nat.zero_le _, rfl, rfl⟩
      case round =>
        obtain ⟨k, hk, rfl, rfl⟩ := hrel
        by_cases hlt : k < n
        · have e5 : (k : Int) < n := by omega
          have hk128 : k < 128 := by omega
          have hA := Lib.hid (HBA.out wr k hk128)
          have hB := Lib.hid (HBB.out wr k hk128)
          rw [← HIs.out.2.1 k hlt] at hB
          generalize bitAt a k = z at hA hB
          go_wp2_with (first
            | (go_at_call 49; with_reducible refine hA.out.mono ?_; rintro e w1 ⟨rfl, hw⟩; have hw2 := hw.symm; subst hw2)
            | (go_at_call 49; with_reducible refine hB.out.mono ?_; rintro e w1 ⟨rfl, hw⟩; have hw2 := hw.symm; subst hw2))
          go_roundw
          case rel => exact ⟨k + 1, by omega, by go_num, by first | rfl | trivial⟩
          case measure => simp [intOf]; omega
        · have e5 : ¬ (k : Int) < n := by omega
          have hd5 : decide (k < n) = false := decide_eq_false hlt
          have hkn : k = n := by omega
          subst hkn
          have HM : Hid (Below w.heap.size w wr) := hC3
          by_cases hc16 : c.size = 16
          · have ic : (c.size : Int) = 16 := by omega
            have HC2 := Lib.hid (fun W => common_ok b c W HB16.out hc16)
            have HC3 := Lib.hid (fun W => common_ok a c W HA16.out hc16)
            have hm1 := Hmin.out
            have hm2 := Hne.out
            have hmle := cmn_le b c
            generalize cmn b c = m at HC2 hm1 hm2 hmle
            generalize cmn a c = l at HC3 hm1 hm2
            have hm2' : k ≠ m → l = min k m := hm2
            have g1 : (min k m : Int) ≤ (l : Int) := by omega
            by_cases h128 : k < 128
            · have e6 : (k : Int) < 128 := by omega
              have hA := Lib.hid (HBA.out wr k h128)
              have hB := Lib.hid (HBB.out wr k h128)
              have hdif := HIs.out.2.2 h128
              generalize bitAt a k = z at hA hdif
              generalize bitAt b k = z2 at hB hdif
              have hd1 : ¬ z = z2 := hdif
              have hd2 : ¬ (z : Int) = z2 := by omega
              have hd3 : ((z : Int) == (z2 : Int)) = false := by simpa using hd2
              have hab : ¬ a.toList = b.toList := by
                intro h
                rw [ByteArray.toList_eq, ByteArray.toList_eq] at h
                have h2 : a = b := ByteArray.ext (Array.ext' h)
                have := H128.out.2 h2
                omega
              have hab2 : (a.toList == b.toList) = false := by rw [beq_eq_false_iff_ne]; exact hab
              have e7 : ¬ (k : Int) = 128 := by omega
              have e8 : ((k : Int) == 128) = false := by rw [beq_eq_false_iff_ne]; exact e7
              by_cases hkm : k = m
              · subst hkm
                go_wp2_with (first
                  | (go_at_call 49; with_reducible refine hA.out.mono ?_; rintro e w1 ⟨rfl, hw⟩; have hw2 := hw.symm; subst hw2)
                  | (go_at_call 49; with_reducible refine hB.out.mono ?_; rintro e w1 ⟨rfl, hw⟩; have hw2 := hw.symm; subst hw2)
                  | (go_at_call 48; with_reducible refine (HC2.out _).mono ?_; rintro e w1 ⟨rfl, hw⟩; have hw2 := hw.symm; subst hw2)
                  | (go_at_call 48; with_reducible refine (HC3.out _).mono ?_; rintro e w1 ⟨rfl, hw⟩; have hw2 := hw.symm; subst hw2))
                go_ret
                exact ⟨rfl, HM.out⟩
              · have hlm := hm2' hkm
                have hkm2 : ¬ (k : Int) = m := by omega
                have hkm3 : ((k : Int) == (m : Int)) = false := by simpa using hkm2
                rcases Nat.lt_or_ge k m with hlt2 | hge2
                · obtain rfl : l = k := by omega
                  have m1 : min (l : Int) (m : Int) = l := by omega
                  have m2 : (l : Int) ≤ m := by omega
                  have m3 : ¬ (m : Int) ≤ l := by omega
                  have m4 : (l : Int) < m := by omega
                  have m5 : ¬ (m : Int) < l := by omega
                  clear hm1 hm2 hm2' hlm g1
                  go_wp2_with (first
                    | (go_at_call 49; with_reducible refine hA.out.mono ?_; rintro e w1 ⟨rfl, hw⟩; have hw2 := hw.symm; subst hw2)
                    | (go_at_call 49; with_reducible refine hB.out.mono ?_; rintro e w1 ⟨rfl, hw⟩; have hw2 := hw.symm; subst hw2)
                    | (go_at_call 48; with_reducible refine (HC2.out _).mono ?_; rintro e w1 ⟨rfl, hw⟩; have hw2 := hw.symm; subst hw2)
                    | (go_at_call 48; with_reducible refine (HC3.out _).mono ?_; rintro e w1 ⟨rfl, hw⟩; have hw2 := hw.symm; subst hw2))
                  go_ret
                  exact ⟨rfl, HM.out⟩
                · obtain rfl : l = m := by omega
                  have m1 : min (k : Int) (l : Int) = l := by omega
                  have m2 : ¬ (k : Int) ≤ l := by omega
                  have m3 : (l : Int) ≤ k := by omega
                  have m4 : (l : Int) < k := by omega
                  have m5 : ¬ (k : Int) < l := by omega
                  clear hm1 hm2 hm2' hlm g1
                  go_wp2_with (first
                    | (go_at_call 49; with_reducible refine hA.out.mono ?_; rintro e w1 ⟨rfl, hw⟩; have hw2 := hw.symm; subst hw2)
                    | (go_at_call 49; with_reducible refine hB.out.mono ?_; rintro e w1 ⟨rfl, hw⟩; have hw2 := hw.symm; subst hw2)
                    | (go_at_call 48; with_reducible refine (HC2.out _).mono ?_; rintro e w1 ⟨rfl, hw⟩; have hw2 := hw.symm; subst hw2)
                    | (go_at_call 48; with_reducible refine (HC3.out _).mono ?_; rintro e w1 ⟨rfl, hw⟩; have hw2 := hw.symm; subst hw2))
                  go_ret
                  exact ⟨rfl, HM.out⟩
            · have hk8 : k = 128 := by omega
              have hab : a = b := H128.out.1 hk8
              subst hab
              have e6 : ¬ (k : Int) < 128 := by omega
              have e7 : (k : Int) = 128 := by omega
              clear hlt hd5
              have hA : Hid True := trivial
              have hB : Hid True := trivial
              by_cases hkm : k = m
              · subst hkm
                go_wp2_with (first
                  | (go_at_call 49; with_reducible refine hA.out.mono ?_; rintro e w1 ⟨rfl, hw⟩; have hw2 := hw.symm; subst hw2)
                  | (go_at_call 49; with_reducible refine hB.out.mono ?_; rintro e w1 ⟨rfl, hw⟩; have hw2 := hw.symm; subst hw2)
                  | (go_at_call 48; with_reducible refine (HC2.out _).mono ?_; rintro e w1 ⟨rfl, hw⟩; have hw2 := hw.symm; subst hw2)
                  | (go_at_call 48; with_reducible refine (HC3.out _).mono ?_; rintro e w1 ⟨rfl, hw⟩; have hw2 := hw.symm; subst hw2))
                go_ret
                exact ⟨rfl, HM.out⟩
              · have hlm := hm2' hkm
                have hkm2 : ¬ (k : Int) = m := by omega
                have hkm3 : ((k : Int) == (m : Int)) = false := by simpa using hkm2
                have hge2 : m ≤ k := by omega
                have n1 : min (128 : Int) (m : Int) = m := by omega
                have n2 : ((128 : Int) == (m : Int)) = false := by rw [beq_eq_false_iff_ne]; omega
                · obtain rfl : l = m := by omega
                  have m1 : min (k : Int) (l : Int) = l := by omega
                  have m2 : ¬ (k : Int) ≤ l := by omega
                  have m3 : (l : Int) ≤ k := by omega
                  have m4 : (l : Int) < k := by omega
                  have m5 : ¬ (k : Int) < l := by omega
                  clear hm1 hm2 hm2' hlm g1
                  go_wp2_with (first
                    | (go_at_call 49; with_reducible refine hA.out.mono ?_; rintro e w1 ⟨rfl, hw⟩; have hw2 := hw.symm; subst hw2)
                    | (go_at_call 49; with_reducible refine hB.out.mono ?_; rintro e w1 ⟨rfl, hw⟩; have hw2 := hw.symm; subst hw2)
                    | (go_at_call 48; with_reducible refine (HC2.out _).mono ?_; rintro e w1 ⟨rfl, hw⟩; have hw2 := hw.symm; subst hw2)
                    | (go_at_call 48; with_reducible refine (HC3.out _).mono ?_; rintro e w1 ⟨rfl, hw⟩; have hw2 := hw.symm; subst hw2))
                  go_ret
                  exact ⟨rfl, HM.out⟩
          · have ic : ((c.size : Int) == 16) = false := by rw [beq_eq_false_iff_ne]; omega
            have ic2 : ((c.size : Int) != 16) = true := by rw [bne_iff_ne]; omega
            have ic3 : ¬ (c.size : Int) = 16 := by omega
            have HC2 := Lib.hid (fun W => common_no b c W (fun h => hc16 h.2))
            have HC3 : Hid True := trivial
            by_cases h128 : k < 128
            · have e6 : (k : Int) < 128 := by omega
              have hA := Lib.hid (HBA.out wr k h128)
              have hB := Lib.hid (HBB.out wr k h128)
              have hdif := HIs.out.2.2 h128
              generalize bitAt a k = z at hA hdif
              generalize bitAt b k = z2 at hB hdif
              have hd1 : ¬ z = z2 := hdif
              have hd2 : ¬ (z : Int) = z2 := by omega
              have hd3 : ((z : Int) == (z2 : Int)) = false := by simpa using hd2
              have hab : ¬ a.toList = b.toList := by
                intro h
                rw [ByteArray.toList_eq, ByteArray.toList_eq] at h
                have h2 : a = b := ByteArray.ext (Array.ext' h)
                have := H128.out.2 h2
                omega
              have hab2 : (a.toList == b.toList) = false := by rw [beq_eq_false_iff_ne]; exact hab
              have e7 : ¬ (k : Int) = 128 := by omega
              have e8 : ((k : Int) == 128) = false := by rw [beq_eq_false_iff_ne]; exact e7
              go_wp2_with (first
                | (go_at_call 49; with_reducible refine hA.out.mono ?_; rintro e w1 ⟨rfl, hw⟩; have hw2 := hw.symm; subst hw2)
                | (go_at_call 49; with_reducible refine hB.out.mono ?_; rintro e w1 ⟨rfl, hw⟩; have hw2 := hw.symm; subst hw2)
                | (go_at_call 48; with_reducible refine (HC2.out _).mono ?_; rintro e w1 ⟨rfl, hw⟩; have hw2 := hw.symm; subst hw2)
                | (go_at_call 48; with_reducible refine (HC3.out _).mono ?_; rintro e w1 ⟨rfl, hw⟩; have hw2 := hw.symm; subst hw2))
              go_ret
              exact ⟨rfl, HM.out⟩
            · have hk8 : k = 128 := by omega
              have hab : a = b := H128.out.1 hk8
              subst hab
              have e6 : ¬ (k : Int) < 128 := by omega
              have e7 : (k : Int) = 128 := by omega
              clear hlt hd5
              have hA : Hid True := trivial
              have hB : Hid True := trivial
              go_wp2_with (first
                | (go_at_call 49; with_reducible refine hA.out.mono ?_; rintro e w1 ⟨rfl, hw⟩; have hw2 := hw.symm; subst hw2)
                | (go_at_call 49; with_reducible refine hB.out.mono ?_; rintro e w1 ⟨rfl, hw⟩; have hw2 := hw.symm; subst hw2)
                | (go_at_call 48; with_reducible refine (HC2.out _).mono ?_; rintro e w1 ⟨rfl, hw⟩; have hw2 := hw.symm; subst hw2)
                | (go_at_call 48; with_reducible refine (HC3.out _).mono ?_; rintro e w1 ⟨rfl, hw⟩; have hw2 := hw.symm; subst hw2))
              go_ret
              exact ⟨rfl, HM.out⟩
  · have HC := Lib.hid (fun W => common_no a b W hab)
    have hor : (((a.size : Int) == 16) = false ∧ ((a.size : Int) != 16) = true ∧ ¬ (a.size : Int) = 16) ∨ ((a.size : Int) = 16 ∧ ((b.size : Int) == 16) = false ∧ ((b.size : Int) != 16) = true ∧ ¬ (b.size : Int) = 16) := by
      by_cases ha : a.size = 16
      · have hb : ¬ b.size = 16 := fun hb => hab ⟨ha, hb⟩
        exact .inr ⟨by omega, by rw [beq_eq_false_iff_ne]; omega, by rw [bne_iff_ne]; omega, by omega⟩
      · exact .inl ⟨by rw [beq_eq_false_iff_ne]; omega, by rw [bne_iff_ne]; omega, by omega⟩
    clear hab
    rcases hcase with ⟨kk, rfl⟩ | ⟨rfl, kk, rfl⟩ | ⟨rfl, rfl, rfl⟩ | ⟨rfl, rfl, hxy⟩
    all_goals
      rcases hor with ⟨o1, o2, o3⟩ | ⟨o1, o2, o3, o4⟩
    all_goals
      go_enter Tryd.func7, Tryd.ntmps7
      go_wp2_with (first
        | (go_at_call 46; refine HL.out.mono ?_; rintro e w1 ⟨rfl, hB1⟩)
        | (go_at_call 47; with_reducible refine (HX.out _ (Hk.out.mono hB1)).mono ?_; rintro e w2 ⟨rfl, hB2⟩; have hC2 := hB1.trans (hB2.mono hB1.size); clear HX)
        | (go_at_call 47; with_reducible refine (HY.out _ (Hk.out.mono hC2)).mono ?_; rintro e w3 ⟨rfl, hB3⟩; have hC3 := hC2.trans (hB3.mono hC2.size); clear HY)
        | (go_at_call 48; refine (HC.out _).mono ?_; rintro e w4 ⟨rfl, hw⟩; have hw2 := hw.symm; subst hw2))
    all_goals
      go_ret
      exact ⟨rfl, hC3⟩

set_option maxRecDepth 20000 in
theorem law_indexCommon (a b c x y : ByteArray) (w : World) (hk : KAt w 0) :
    Calls Tryd.prog 7 #[.string a, .string b, .string c, .string x, .string y] w fun e w' => e = .returned (.bool true) ∧ Below w.heap.size w w' := by
  by_cases hx : x.size ≤ 40
  · by_cases hy : y.size ≤ 40
    · cases h1 : nameOk x with
      | false => exact icommon_core a b c x y _ _ _ _ w hk hx hy (fun W hW => of_no x W (by omega) h1 hW) (fun W hW => of_any y W (by omega) hW) (.inl ⟨_, rfl⟩)
      | true =>
        cases h2 : nameOk y with
        | false => exact icommon_core a b c x y _ _ _ _ w hk hx hy (fun W hW => of_yes x W (by omega) h1 hW) (fun W hW => of_no y W (by omega) h2 hW) (.inr (.inl ⟨rfl, _, rfl⟩))
        | true =>
          refine icommon_core a b c x y _ _ _ _ w hk hx hy (fun W hW => of_yes x W (by omega) h1 hW) (fun W hW => of_yes y W (by omega) h2 hW) ?_
          by_cases hxy : x = y
          · exact .inr (.inr (.inl ⟨rfl, rfl, by rw [hxy]⟩))
          · refine .inr (.inr (.inr ⟨rfl, rfl, fun h => hxy ?_⟩))
            rw [ByteArray.toList_eq, ByteArray.toList_eq] at h
            exact ByteArray.ext (Array.ext' h)
    · have e1 : ¬ (40 : Int) < x.size := by omega
      have e2 : (40 : Int) < y.size := by omega
      clear hk hx hy
      go_enter Tryd.func7, Tryd.ntmps7
      go_wp2_with fail
      go_ret
      exact ⟨rfl, Below.refl _ _⟩
  · have e1 : (40 : Int) < x.size := by omega
    clear hk hx
    go_enter Tryd.func7, Tryd.ntmps7
    go_wp2_with fail
    go_ret
    exact ⟨rfl, Below.refl _ _⟩
end Go.Proofs.YtfhjnfocmlndpaaDoor
