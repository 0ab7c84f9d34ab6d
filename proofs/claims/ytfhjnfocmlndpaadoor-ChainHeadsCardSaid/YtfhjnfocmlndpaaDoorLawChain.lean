/- The law ChainHeads: it returns true. -/
import Derived.Test.YtfhjnfocmlndpaaDoorRWhole
import Derived.Test.YtfhjnfocmlndpaaDoorGrownM
import Derived.Test.YtfhjnfocmlndpaaDoorLawOnce
namespace Go.Proofs.YtfhjnfocmlndpaaDoor
open Go Go.RowKit Go.Proofs

theorem num00 : numS 0 ++ numS 0 = none16 := by kernel_rfl
set_option maxRecDepth 100000 in
set_option maxHeartbeats 4000000 in
theorem law_chainHeads_ok (va vb : Value) (a b : List Hd) (root : ByteArray) (w : World) (ha : HReads w va a) (hb : HReads w vb b) (hfa : HFew a) (hfb : HFew b) (hha : ∀ h ∈ a, h.Held) (hcap : ∀ x n c, va = .slice x n c → n ≤ c) (hroot : root.size ≤ 60)
    (hk : KAt w 0) (he : EAt w)
    (HA : Hid (∀ W, HReads W va a → Calls Tryd.prog 60 #[va] W fun e w' => e = .returned (.bool true) ∧ w' = W)) (HB : Hid (∀ W, HReads W vb b → Calls Tryd.prog 60 #[vb] W fun e w' => e = .returned (.bool true) ∧ w' = W)) :
    Calls Tryd.prog 9 #[va, vb, .string root] w fun e w' => e = .returned (.bool true) ∧ Below w.heap.size w w' := by
  obtain ⟨aa, ca, rfl⟩ := ha.shape
  have Hcap := Lib.hid hcap
  clear hcap
  obtain ⟨n, hn⟩ : ∃ n, n = a.length := ⟨_, rfl⟩
  rw [← hn] at ha Hcap HA ⊢
  have Ha := Lib.hid ha
  have Hb := Lib.hid hb
  have Hn := Lib.hid hn
  have hn12 : n ≤ 12 := by have := hfa.1; omega
  have hla : a.length ≤ 1000 := by have := hfa.1; omega
  have hlb : b.length ≤ 1000 := by have := hfb.1; omega
  have HL := Lib.hid (long_no root w hroot)
  have Hk := Lib.hid hk
  have He := Lib.hid he
  have HH := Lib.hid hha
  have Hla := Lib.hid hla
  have Hlb := Lib.hid hlb
  clear ha hb hn hfa hfb hk he hha hroot hla hlb
  go_enter Tryd.func9, Tryd.ntmps9
  go_wp2_with (first
    | (go_at_call 60; with_reducible refine (HA.out _ Ha.out).mono ?_; rintro e w1 ⟨rfl, hw⟩; have hw2 := hw.symm; subst hw2)
    | (go_at_call 60; with_reducible refine (HB.out _ Hb.out).mono ?_; rintro e w1 ⟨rfl, hw⟩; have hw2 := hw.symm; subst hw2)
    | (go_at_call 23; refine HL.out.mono ?_; rintro e w1 ⟨rfl, hw⟩; have hw2 := hw.symm; subst hw2)
    | (go_at_call 14; refine (new_any _).mono ?_; rintro e w1 ⟨r, rfl, hR1, hr1, hB1⟩; have S1 : St w r w1 := ⟨hB1, hR1⟩))
  clear HA HB HL hR1 hr1 hB1
  go_loopw [8] (fun i wr => ∃ k : Nat, k ≤ n ∧ i = .int .i64 k ∧ St w r wr) (fun i _ => n - (intOf i).toNat)
  case atStart => exact ⟨0, Nat.zero_le _, rfl, S1⟩
  case round =>
    obtain ⟨k, hkn, rfl, S⟩ := hrel
    clear S1
    by_cases h1 : k < n
    · have e1 : (k : Int) < n := by omega
      obtain ⟨x, hx⟩ : ∃ x, a[k]? = some x := ⟨_, List.getElem?_eq_getElem (by have := Hn.out; omega)⟩
      have hmem : x ∈ a := List.mem_of_getElem? hx
      have HX := Lib.hid (HH.out x hmem)
      have Hmem := Lib.hid hmem
      have hAr := Ha.out.mono S.below
      obtain ⟨bb, off, rfl, c0, c1, c2⟩ := hAr.at hx
      have hbl : bb < wr.heap.size := World.block_lt_of_cell? wr ⟨bb, _, none⟩ c0
      clear hx hmem
      go_wp2_with (first
        | (go_at_call 61; refine (rhmark_any r x _ HX.out S.ref).mono ?_; rintro e w2 ⟨rfl, hB2⟩; have S2 := S.step hB2; have d0 : w2.cell? ⟨bb, off + k * 3, none⟩ = some (.int .i64 x.epoch) := (by rw [hB2.cell (by exact hbl)]; exact c0); have d1 : w2.cell? ⟨bb, off + k * 3 + 1, none⟩ = some (.string x.root) := (by rw [hB2.cell (by exact hbl)]; exact c1); have d2 : w2.cell? ⟨bb, off + k * 3 + 2, none⟩ = some (.string x.prev) := (by rw [hB2.cell (by exact hbl)]; exact c2))
        | (go_at_call 62; refine (cmark_any x _ HX.out (Hk.out.mono S2.below)).mono ?_; rintro e w3 ⟨rfl, hB3⟩; have S3 := S2.step hB3; have hbl2 : bb < w2.heap.size := Nat.lt_of_lt_of_le hbl hB2.size; have k0 : w3.cell? ⟨bb, off + k * 3, none⟩ = some (.int .i64 x.epoch) := (by rw [hB3.cell (by exact hbl2)]; exact d0); have k1 : w3.cell? ⟨bb, off + k * 3 + 1, none⟩ = some (.string x.root) := (by rw [hB3.cell (by exact hbl2)]; exact d1); have k2 : w3.cell? ⟨bb, off + k * 3 + 2, none⟩ = some (.string x.prev) := (by rw [hB3.cell (by exact hbl2)]; exact d2)))
      have x0 := fun x : Grown w3 => x.cell k0
      have x1 := fun x : Grown w3 => x.cell k1
      have x2 := fun x : Grown w3 => x.cell k2
      have hA3 := Lib.hid (Ha.out.mono S3.below)
      have He3 := Lib.hid (He.out.mono S3.below)
      clear c0 c1 c2 d0 d1 d2 k0 k1 k2 S S2 hB2 hB3 hAr
      refine wp_region_grown (by kernel_rfl) (by kernel_rfl) ?_
      repeat (quiet_step (first
        | (go_at_call 26; rename_i y; exact Grown.call y (bare_same (errV (hmarkK x)) _ _ (errV_is _) (He3.out.mono y.below)))
        | (go_at_call 63; rename_i y; exact Grown.call y (cright_any x _))
        | (go_at_call 64; rename_i y; exact Grown.call y (rright_any x _))
        | (go_at_call 65; rename_i y; exact Grown.call y (chas_any _ a x _ (hA3.out.mono y.below) Hla.out Hmem.out))))
      refine wpQuiet_nil ?_
      intro y
      have S4 := S3.step y.below
      generalize y.val = wy at S4 ⊢
      go_wp2_with fail
      exact ⟨⟨k + 1, by omega, by go_num, S4⟩, by simp [intOf]; omega⟩
    · have e1 : ¬ (k : Int) < n := by omega
      have hd2 : decide (k < n) = false := decide_eq_false h1
      have hRN := fun W hW hR => rnext_any r (.slice aa n ca) a root W hW HH.out Hla.out hR
      have hCN := fun W hW hK => cnext_any (.slice aa n ca) a root W hW HH.out Hla.out hK
      have hRW := fun W hW hR => rwhole_any r (.slice aa n ca) a W hW HH.out Hla.out Hcap.out hR
      have hCW := fun W hW hK => cwhole_any (.slice aa n ca) a W hW HH.out Hla.out Hcap.out hK
      have hCP := fun W hA hB => cparts_any (.slice aa n ca) vb a b W hA hB Hla.out Hlb.out
      have hRP := fun W hA hB => rparts_any (.slice aa n ca) vb a b W hA hB Hla.out Hlb.out
      generalize nextO a root = O at hRN hCN
      generalize nextK a root = K at hRN hCN
      generalize wholeO a = WO at hRW hCW
      generalize partsL a b = PL at hCP hRP
      unfold Hd.val at hRN hCN
      have HRN := Lib.hid hRN
      have HCN := Lib.hid hCN
      have HRW := Lib.hid hRW
      have HCW := Lib.hid hCW
      have HCP := Lib.hid hCP
      have HRP := Lib.hid hRP
      have hn00 : numS 0 ++ numS 0 = ⟨#[0, 0, 0, 0, 0, 0, 0, 0, 0, 0, 0, 0, 0, 0, 0, 0]⟩ := num00
      clear hRN hCN hRW hCW hCP hRP h1
      go_wp2_with (first
        | (go_at_call 66; refine (HRN.out _ (Ha.out.mono S.below) S.ref).mono ?_; rintro e w2 ⟨rfl, hB2⟩; have S2 := (S.step hB2).step (w' := w2.alloc (.cells #[.int .i64 O.epoch, .string O.root, .string O.prev] 63)) ((Below.refl _ _).alloc (Nat.le_refl _) _); have R2 : Row3 (w2.alloc (.cells #[.int .i64 O.epoch, .string O.root, .string O.prev] 63)) w2.heap.size (.int .i64 O.epoch) (.string O.root) (.string O.prev) := Row3.of_row (T := 63) (heap_alloc_new _ _))
        | (go_at_call 67; refine (HCN.out _ (Ha.out.mono S2.below) (Hk.out.mono S2.below)).mono ?_; rintro e w3 ⟨rfl, hB3⟩; have S3 := (S2.step hB3).step (w' := w3.alloc (.cells #[.int .i64 O.epoch, .string O.root, .string O.prev] 63)) ((Below.refl _ _).alloc (Nat.le_refl _) _); have R3 := (R2.mono hB3).alloc (.cells #[.int .i64 O.epoch, .string O.root, .string O.prev] 63); have Q3 : Row3 (w3.alloc (.cells #[.int .i64 O.epoch, .string O.root, .string O.prev] 63)) w3.heap.size (.int .i64 O.epoch) (.string O.root) (.string O.prev) := Row3.of_row (T := 63) (heap_alloc_new _ _))
        | (go_at_call 68; refine (HRW.out _ (Ha.out.mono S3.below) S3.ref).mono ?_; rintro e w4 ⟨rfl, hB4⟩; have S4 := S3.step hB4; have R4 := R3.mono hB4; have Q4 := Q3.mono hB4)
        | (go_at_call 69; refine (HCW.out _ (Ha.out.mono S4.below) (Hk.out.mono S4.below)).mono ?_; rintro e w5 ⟨rfl, hB5⟩; have S5 := S4.step hB5; have R5 := R4.mono hB5; have Q5 := Q4.mono hB5)
        | (go_at_call 26; refine (bare_same (errV K) _ _ (errV_is _) (He.out.mono S5.below)).mono ?_; rintro e w6 ⟨rfl, hB6⟩; have S6 := S5.step hB6; obtain ⟨r0, r1, r2, -, -, -⟩ := R5.mono hB6; obtain ⟨q0, q1, q2, -, -, -⟩ := Q5.mono hB6)
        | (go_at_call 70; refine (HCP.out _ (Ha.out.mono S6.below) (Hb.out.mono S6.below)).mono ?_; rintro e w7 ⟨rfl, hB7⟩; have S7 := S6.step hB7)
        | (go_at_call 71; refine (HRP.out _ (Ha.out.mono S7.below) (Hb.out.mono S7.below)).mono ?_; rintro e w8 ⟨rfl, hB8⟩; have S8 := S7.step hB8)
        | (go_at_call 20; refine (rnum_any _ _ (by decide) (by decide)).mono ?_; rintro e w9 ⟨rfl, hB9⟩; first | (have S10 := S9.step hB9) | (have S9 := S8.step hB9)))
      go_ret
      exact ⟨rfl, S10.below⟩

theorem heads_is (v : Value) (l : List Hd) (w : World) (hv : HReads w v l) (c : Bool) (hc : c = true ↔ HFew l) : Calls Tryd.prog 60 #[v] w fun e w' => e = .returned (.bool c) ∧ w' = w := by
  refine (heads_any v l w hv).mono ?_
  rintro e w' ⟨b, rfl, rfl, hb⟩
  refine ⟨?_, rfl⟩
  congr 2
  cases b <;> cases c <;> simp_all
/-- numbers that an int may be -/
def I64 (n : Int) : Prop := -9223372036854775808 ≤ n ∧ n ≤ 9223372036854775807
set_option maxRecDepth 20000 in
theorem law_chainHeads (va vb : Value) (a b : List Hd) (root : ByteArray) (w : World) (ha : HReads w va a) (hb : HReads w vb b) (hra : ∀ h ∈ a, I64 h.epoch) (hcap : ∀ x n c, va = .slice x n c → n ≤ c)
    (hk : KAt w 0) (he : EAt w) :
    Calls Tryd.prog 9 #[va, vb, .string root] w fun e w' => e = .returned (.bool true) ∧ Below w.heap.size w w' := by
  have hRefl := Below.refl w.heap.size w
  by_cases hfa : HFew a
  · by_cases hfb : HFew b
    · by_cases hroot : root.size ≤ 60
      · exact law_chainHeads_ok va vb a b root w ha hb hfa hfb (fun h hm => ⟨(hra h hm).1, (hra h hm).2, (hfa.2 h hm).1, (hfa.2 h hm).2⟩) hcap hroot hk he (fun W hW => heads_is va a W hW true (by simp [hfa])) (fun W hW => heads_is vb b W hW true (by simp [hfb]))
      · have HA := Lib.hid (heads_is va a w ha true (by simp [hfa]))
        have HB := Lib.hid (heads_is vb b w hb true (by simp [hfb]))
        have HL := Lib.hid (long_yes root w hroot)
        clear ha hb hra hcap hk he hfa hfb hroot
        go_enter Tryd.func9, Tryd.ntmps9
        go_wp2_with (first
          | (go_at_call 60; with_reducible refine HA.out.mono ?_; rintro e w1 ⟨rfl, hw⟩; have hw2 := hw.symm; subst hw2)
          | (go_at_call 60; with_reducible refine HB.out.mono ?_; rintro e w1 ⟨rfl, hw⟩; have hw2 := hw.symm; subst hw2)
          | (go_at_call 23; refine HL.out.mono ?_; rintro e w1 ⟨rfl, hw⟩; have hw2 := hw.symm; subst hw2))
        go_ret
        exact ⟨rfl, hRefl⟩
    · have HA := Lib.hid (heads_is va a w ha true (by simp [hfa]))
      have HB := Lib.hid (heads_is vb b w hb false (by simp [hfb]))
      clear ha hb hra hcap hk he hfa hfb
      go_enter Tryd.func9, Tryd.ntmps9
      go_wp2_with (first
        | (go_at_call 60; with_reducible refine HA.out.mono ?_; rintro e w1 ⟨rfl, hw⟩; have hw2 := hw.symm; subst hw2)
        | (go_at_call 60; with_reducible refine HB.out.mono ?_; rintro e w1 ⟨rfl, hw⟩; have hw2 := hw.symm; subst hw2))
      go_ret
      exact ⟨rfl, hRefl⟩
  · have HA := Lib.hid (heads_is va a w ha false (by simp [hfa]))
    clear ha hb hra hcap hk he hfa
    go_enter Tryd.func9, Tryd.ntmps9
    go_wp2_with (first
      | (go_at_call 60; with_reducible refine HA.out.mono ?_; rintro e w1 ⟨rfl, hw⟩; have hw2 := hw.symm; subst hw2))
    go_ret
    exact ⟨rfl, hRefl⟩
end Go.Proofs.YtfhjnfocmlndpaaDoor
