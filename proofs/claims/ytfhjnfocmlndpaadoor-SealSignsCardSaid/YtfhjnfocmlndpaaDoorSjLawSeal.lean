/- SealSigns: the law. -/
import Derived.Test.YtfhjnfocmlndpaaDoorSjSealN
import Derived.Test.YtfhjnfocmlndpaaDoorSjSealNo
import Derived.Test.YtfhjnfocmlndpaaDoorSjSealS
import Derived.Test.YtfhjnfocmlndpaaDoorSjSealRN
import Derived.Test.YtfhjnfocmlndpaaDoorSjSealSR
import Derived.Test.YtfhjnfocmlndpaaDoorSjSealB
namespace Go.Proofs.YtfhjnfocmlndpaaDoor
open Go Go.RowKit Go.Proofs Go.Shelf

/-! ### what both Signs tell -/
def sgOk (key : Int) (m : ByteArray) : Prop := (0 ≤ key ∧ key ≤ 7) ∧ m.size = 16
open Classical in
noncomputable def sgKey (key : Int) (m : ByteArray) : Int := if sgOk key m then key else 0
open Classical in
noncomputable def sgErr (key : Int) (m : ByteArray) : Int := if sgOk key m then 0 else if 0 ≤ key ∧ key ≤ 7 then 1 else 2
open Classical in
noncomputable def sgSig (seed : ByteArray) (key : Int) (m : ByteArray) : List ByteArray := if sgOk key m then signL seed key m 35 else []
open Classical in
noncomputable def sgPath (seed : ByteArray) (key : Int) (m : ByteArray) : List ByteArray := if sgOk key m then pathR seed key.toNat else []
theorem sgSig_le (seed : ByteArray) (key : Int) (m : ByteArray) : (sgSig seed key m).length ≤ 1000000 := by
  unfold sgSig
  split
  · rw [signL_length]; decide
  · simp
theorem sgPath_le (seed : ByteArray) (key : Int) (m : ByteArray) : (sgPath seed key m).length ≤ 1000000 := by
  unfold sgPath
  split
  · show 3 ≤ 1000000; decide
  · simp
def SgBoth (seed : ByteArray) (key : Int) (m : ByteArray) (w : World) (e : Ending) (w' : World) : Prop :=
  ∃ sv pv ev, e = .returned (.tuple #[.agg #[.int .i64 (sgKey key m), sv, pv], ev]) ∧ ErrV ev (sgErr key m) ∧ Reads w' sv (sgSig seed key m).length 1 ((sgSig seed key m).map Value.string) ∧ Reads w' pv (sgPath seed key m).length 1 ((sgPath seed key m).map Value.string) ∧ Below w.heap.size w w'
def RSgBoth (seed : ByteArray) (key : Int) (m : ByteArray) (w : World) (e : Ending) (w' : World) : Prop :=
  ∃ sv pv, e = .returned (.tuple #[.agg #[.int .i64 (sgKey key m), sv, pv], .int .i64 (sgErr key m)]) ∧ Reads w' sv (sgSig seed key m).length 1 ((sgSig seed key m).map Value.string) ∧ Reads w' pv (sgPath seed key m).length 1 ((sgPath seed key m).map Value.string) ∧ Below w.heap.size w w'
theorem reads_none (w : World) : Reads w (.slice none 0 0) ([] : List ByteArray).length 1 (([] : List ByteArray).map Value.string) := ⟨rfl, .inl ⟨rfl, _, _, rfl⟩⟩
theorem boxSign_both (B : Nat) (seed m : ByteArray) (key : Int) (w : World) (h : BoxP w B seed) (h16 : seed.size = 16) (hk : KAt w 0) : Calls Tryd.prog 56 #[.pointer (some ⟨B, 0, none⟩), .int .i64 key, .string m] w (SgBoth seed key m w) := by
  unfold SgBoth sgKey sgErr sgSig sgPath
  by_cases h7 : 0 ≤ key ∧ key ≤ 7
  · by_cases hm : m.size = 16
    · have ho : sgOk key m := ⟨h7, hm⟩
      obtain ⟨k, rfl⟩ : ∃ k : Nat, key = (k : Int) := ⟨key.toNat, by omega⟩
      refine (boxSign_ok B seed m k w (by omega) h h16 hm hk).mono ?_
      rintro e w' ⟨sv, pv, rfl, hs, hp, hb⟩
      simp only [if_pos ho]
      exact ⟨sv, pv, _, rfl, .inl ⟨rfl, rfl⟩, by rw [signL_length]; exact hs, hp, hb⟩
    · have ho : ¬ sgOk key m := fun h => hm h.2
      refine (boxSign_arg B seed m key w h7 h hm).mono ?_
      rintro e w' ⟨rfl, hb⟩
      simp only [if_neg ho, if_pos h7]
      exact ⟨_, _, _, rfl, .inr rfl, reads_none _, reads_none _, hb⟩
  · have ho : ¬ sgOk key m := fun h => h7 h.1
    refine (boxSign_range B m key w h7).mono ?_
    rintro e w' ⟨rfl, hb⟩
    simp only [if_neg ho, if_neg h7]
    exact ⟨_, _, _, rfl, .inr rfl, reads_none _, reads_none _, hb⟩
theorem sealSign_both (r B : Nat) (seed m : ByteArray) (key : Int) (w : World) (h : BoxR w B seed) (h16 : seed.size = 16) (hk : RAt w r) : Calls Tryd.prog 55 #[.pointer (some ⟨r, 0, none⟩), .pointer (some ⟨B, 0, none⟩), .int .i64 key, .string m] w (RSgBoth seed key m w) := by
  unfold RSgBoth sgKey sgErr sgSig sgPath
  by_cases h7 : 0 ≤ key ∧ key ≤ 7
  · by_cases hm : m.size = 16
    · have ho : sgOk key m := ⟨h7, hm⟩
      obtain ⟨k, rfl⟩ : ∃ k : Nat, key = (k : Int) := ⟨key.toNat, by omega⟩
      refine (sealSign_ok r B seed m k w (by omega) h h16 hm hk).mono ?_
      rintro e w' ⟨sv, pv, rfl, hs, hp, hb⟩
      simp only [if_pos ho]
      exact ⟨sv, pv, rfl, by rw [signL_length]; exact hs, hp, hb⟩
    · have ho : ¬ sgOk key m := fun h => hm h.2
      refine (sealSign_arg r B seed m key w h7 h hm).mono ?_
      rintro e w' ⟨rfl, hb⟩
      simp only [if_neg ho, if_pos h7]
      exact ⟨_, _, rfl, reads_none _, reads_none _, hb⟩
  · have ho : ¬ sgOk key m := fun h => h7 h.1
    refine (sealSign_range r B m key w h7).mono ?_
    rintro e w' ⟨rfl, hb⟩
    simp only [if_neg ho, if_neg h7]
    exact ⟨_, _, rfl, reads_none _, reads_none _, hb⟩

/-! ### seals are held against each other; and are too long -/
set_option maxRecDepth 100000 in
set_option maxHeartbeats 2000000 in
theorem sameSeal_any (k : Int) (sv pv sv' pv' : Value) (s p : List ByteArray) (w : World) (hs : Reads w sv s.length 1 (s.map Value.string)) (hp : Reads w pv p.length 1 (p.map Value.string)) (hs' : Reads w sv' s.length 1 (s.map Value.string)) (hp' : Reads w pv' p.length 1 (p.map Value.string)) (hsl : s.length ≤ 1000000) (hpl : p.length ≤ 1000000) :
    Calls Tryd.prog 57 #[.agg #[.int .i64 k, sv, pv], .agg #[.int .i64 k, sv', pv']] w fun e w' => e = .returned (.bool true) ∧ Below w.heap.size w w' := by
  have h1 : Below w.heap.size w (w.alloc (.cells #[.int .i64 k, sv, pv] 65)) := (Below.refl _ _).alloc (Nat.le_refl _) _
  have h2 : Below w.heap.size w ((w.alloc (.cells #[.int .i64 k, sv, pv] 65)).alloc (.cells #[.int .i64 k, sv', pv'] 65)) := h1.alloc h1.size _
  have R1 : Row3 ((w.alloc (.cells #[.int .i64 k, sv, pv] 65)).alloc (.cells #[.int .i64 k, sv', pv'] 65)) w.heap.size (.int .i64 k) sv pv := (Row3.of_row (T := 65) (heap_alloc_new _ _)).alloc _
  have R2 : Row3 ((w.alloc (.cells #[.int .i64 k, sv, pv] 65)).alloc (.cells #[.int .i64 k, sv', pv'] 65)) (w.heap.size + 1) (.int .i64 k) sv' pv' := by
    have h := Row3.of_row (T := 65) (heap_alloc_new (w.alloc (.cells #[.int .i64 k, sv, pv] 65)) (.cells #[.int .i64 k, sv', pv'] 65))
    simpa using h
  have HA := Lib.hid (fun W (hW : Below w.heap.size w W) => same_any _ _ s W hsl (hs.mono hW) (hs'.mono hW))
  have HP := Lib.hid (fun W (hW : Below w.heap.size w W) => same_any _ _ p W hpl (hp.mono hW) (hp'.mono hW))
  have HR1 := Lib.hid R1
  have HR2 := Lib.hid R2
  obtain ⟨a0, a1, a2, -, -, -⟩ := R1
  obtain ⟨b0, b1, b2, -, -, -⟩ := R2
  clear hs hp hs' hp' hsl hpl
  go_enter Tryd.func57, Tryd.ntmps57
  go_wp2_with (first
    | (go_at_call 29; with_reducible refine (HA.out _ h2).mono ?_; rintro e w1 ⟨rfl, hB1⟩; have C1 := h2.trans (hB1.mono h2.size); obtain ⟨c0, c1, c2, -, -, -⟩ := HR1.out.mono hB1; obtain ⟨d0, d1, d2, -, -, -⟩ := HR2.out.mono hB1)
    | (go_at_call 29; with_reducible refine (HP.out _ C1).mono ?_; rintro e w2 ⟨rfl, hB2⟩; have C2 := C1.trans (hB2.mono C1.size)))
  go_ret
  exact ⟨rfl, C2⟩
def LongSealPost (s p : List ByteArray) (w : World) (e : Ending) (w' : World) : Prop := ∃ b, e = .returned (.bool b) ∧ Below w.heap.size w w' ∧ (b = false → Few s ∧ Few p)
set_option maxRecDepth 100000 in
set_option maxHeartbeats 2000000 in
theorem longSeal_any (k : Int) (sv pv : Value) (s p : List ByteArray) (w : World) (hs : Reads w sv s.length 1 (s.map Value.string)) (hp : Reads w pv p.length 1 (p.map Value.string)) :
    Calls Tryd.prog 50 #[.agg #[.int .i64 k, sv, pv]] w (LongSealPost s p w) := by
  have h1 : Below w.heap.size w (w.alloc (.cells #[.int .i64 k, sv, pv] 65)) := (Below.refl _ _).alloc (Nat.le_refl _) _
  have R1 : Row3 (w.alloc (.cells #[.int .i64 k, sv, pv] 65)) w.heap.size (.int .i64 k) sv pv := Row3.of_row (T := 65) (heap_alloc_new _ _)
  have HA := Lib.hid (longs_any sv s _ (hs.mono h1))
  have HP := Lib.hid (longs_any pv p _ (hp.mono h1))
  obtain ⟨a0, a1, a2, -, -, -⟩ := R1
  unfold LongSealPost
  unfold LongsPost at HA HP
  clear hs hp
  go_enter Tryd.func50, Tryd.ntmps50
  go_wp2_with (first
    | (go_at_call 13; with_reducible refine HA.out.mono ?_; rintro e w1 ⟨b1, rfl, hw, hb1⟩; have hw2 := hw.symm; subst hw2; have Hb1 := Lib.hid hb1; clear hb1 hw)
    | (go_at_call 13; with_reducible refine HP.out.mono ?_; rintro e w2 ⟨b2, rfl, hw, hb2⟩; have hw2 := hw.symm; subst hw2; have Hb2 := Lib.hid hb2; clear hb2 hw))
  · go_ret
    exact ⟨true, rfl, h1, fun h => by cases h⟩
  · rename_i hb
    go_ret
    exact ⟨b2, rfl, h1, fun h => ⟨Hb1.out (by simpa using hb), Hb2.out h⟩⟩
theorem longSeal_yes (k : Int) (sv pv : Value) (s p : List ByteArray) (w : World) (hs : Reads w sv s.length 1 (s.map Value.string)) (hp : Reads w pv p.length 1 (p.map Value.string)) (h : ¬ (Few s ∧ Few p)) :
    Calls Tryd.prog 50 #[.agg #[.int .i64 k, sv, pv]] w fun e w' => e = .returned (.bool true) ∧ Below w.heap.size w w' := by
  refine (longSeal_any k sv pv s p w hs hp).mono ?_
  rintro e w' ⟨b, rfl, hb, hf⟩
  cases b with
  | true => exact ⟨rfl, hb⟩
  | false => exact absurd (hf rfl) h
theorem rboxPublic_top (A : Nat) (seed : ByteArray) (w : World) (h : BoxR w A seed) : Calls Tryd.prog 54 #[.pointer (some ⟨A, 0, none⟩)] w fun e w' => e = .returned (.string (topR seed)) ∧ w' = w := rboxPublic_any A seed w h
/-- where the law's walk stands: nothing of its beginning has turned; the reference and both boxes are there -/
structure SwSt (w0 : World) (r A B : Nat) (seed : ByteArray) (w : World) : Prop where
  st : St w0 r w
  ref : BoxR w A seed
  box : BoxP w B seed
theorem SwSt.step {w0 : World} {r A B : Nat} {seed : ByteArray} {w w' : World} (h : SwSt w0 r A B seed w) (hb : Below w.heap.size w w') : SwSt w0 r A B seed w' := ⟨h.st.step hb, h.ref.mono hb, h.box.mono hb⟩
set_option maxRecDepth 100000 in
set_option maxHeartbeats 4000000 in
theorem law_seal_no (seed mark : ByteArray) (key k2 : Int) (sv pv : Value) (sig path : List ByteArray) (w : World) (hs : Reads w sv sig.length 1 (sig.map Value.string)) (hp : Reads w pv path.length 1 (path.map Value.string)) (hk : KAt w 0) (he : EAt w)
    (h : ¬ (seed.size ≤ 60 ∧ mark.size ≤ 60 ∧ (Few sig ∧ Few path) ∧ seed.size = 16)) :
    Calls Tryd.prog 8 #[.string seed, .int .i64 key, .string mark, .agg #[.int .i64 k2, sv, pv]] w fun e w' => e = .returned (.bool true) ∧ Below w.heap.size w w' := by
  have hb : Below w.heap.size w (w.alloc (.cells #[.int .i64 k2, sv, pv] 65)) := (Below.refl _ _).alloc (Nat.le_refl _) _
  have R0 : Row3 (w.alloc (.cells #[.int .i64 k2, sv, pv] 65)) w.heap.size (.int .i64 k2) sv pv := Row3.of_row (T := 65) (heap_alloc_new _ _)
  obtain ⟨a0, a1, a2, -, -, -⟩ := R0
  by_cases hs1 : seed.size ≤ 60
  rotate_left
  · have HS := Lib.hid (long_yes seed (w.alloc (.cells #[.int .i64 k2, sv, pv] 65)) hs1)
    clear hs hp hk he h
    go_enter Tryd.func8, Tryd.ntmps8
    go_wp2_with (go_at_call 23; refine HS.out.mono ?_; rintro e w1 ⟨rfl, hw⟩; have hw2 := hw.symm; subst hw2)
    go_ret
    exact ⟨rfl, hb⟩
  have HS := Lib.hid (long_no seed (w.alloc (.cells #[.int .i64 k2, sv, pv] 65)) hs1)
  by_cases hm : mark.size ≤ 60
  rotate_left
  · have HM := Lib.hid (long_yes mark (w.alloc (.cells #[.int .i64 k2, sv, pv] 65)) hm)
    clear hs hp hk he h
    go_enter Tryd.func8, Tryd.ntmps8
    go_wp2_with (first | (go_at_call 23; with_reducible refine HS.out.mono ?_; rintro e w1 ⟨rfl, hw⟩; have hw2 := hw.symm; subst hw2) | (go_at_call 23; with_reducible refine HM.out.mono ?_; rintro e w1 ⟨rfl, hw⟩; have hw2 := hw.symm; subst hw2))
    go_ret
    exact ⟨rfl, hb⟩
  have HM := Lib.hid (long_no mark (w.alloc (.cells #[.int .i64 k2, sv, pv] 65)) hm)
  by_cases hf : Few sig ∧ Few path
  rotate_left
  · have HL := Lib.hid (longSeal_yes k2 sv pv sig path _ (hs.mono hb) (hp.mono hb) hf)
    clear hs hp hk he h
    go_enter Tryd.func8, Tryd.ntmps8
    go_wp2_with (first
    | (go_at_call 23; with_reducible refine HS.out.mono ?_; rintro e w1 ⟨rfl, hw⟩; have hw2 := hw.symm; subst hw2)
    | (go_at_call 23; with_reducible refine HM.out.mono ?_; rintro e w1 ⟨rfl, hw⟩; have hw2 := hw.symm; subst hw2)
    | (go_at_call 50; refine HL.out.mono ?_; rintro e w1 ⟨rfl, hB1⟩; have C1 := hb.trans (hB1.mono hb.size)))
    go_ret
    exact ⟨rfl, C1⟩
  have HL := Lib.hid (longSeal_any k2 sv pv sig path _ (hs.mono hb) (hp.mono hb))
  have hE1 : ErrV (.iface 31 (.int .i64 1)) 1 := .inr rfl
  have h16 : seed.size ≠ 16 := fun h6 => h ⟨hs1, hm, hf, h6⟩
  have Hk := Lib.hid hk
  have He := Lib.hid he
  have HN := Lib.hid (fun r W => rnew_no r seed W h16)
  have HP := Lib.hid (fun W => new_no seed W h16)
  unfold LongSealPost at HL
  clear hs hp hk he h hf hm hs1
  go_enter Tryd.func8, Tryd.ntmps8
  go_wp2_with (first
    | (go_at_call 23; with_reducible refine HS.out.mono ?_; rintro e w1 ⟨rfl, hw⟩; have hw2 := hw.symm; subst hw2)
    | (go_at_call 23; with_reducible refine HM.out.mono ?_; rintro e w1 ⟨rfl, hw⟩; have hw2 := hw.symm; subst hw2)
    | (go_at_call 50; refine HL.out.mono ?_; rintro e w1 ⟨b, rfl, hB1, -⟩; have C1 := hb.trans (hB1.mono hb.size))
    | (go_at_call 14; refine (new_any _).mono ?_; rintro e w2 ⟨r, rfl, -, -, hB2⟩; have C2 := C1.trans (hB2.mono C1.size))
    | (go_at_call 51; refine (HN.out r _).mono ?_; rintro e w3 ⟨rfl, hw⟩; have hw2 := hw.symm; subst hw2)
    | (go_at_call 52; refine (HP.out _).mono ?_; rintro e w3 ⟨rfl, hB3⟩; have C3 := C2.trans (hB3.mono C2.size))
    | (go_at_call 26; with_reducible refine (bare_same (.iface 31 (.int .i64 1)) 1 _ hE1 (He.out.mono C3)).mono ?_; rintro e w4 ⟨rfl, hB4⟩; have C4 := C3.trans (hB4.mono C3.size))
    | (go_at_call 26; with_reducible refine (bare_same (.iface 31 (.int .i64 1)) 1 _ hE1 (He.out.mono C4)).mono ?_; rintro e w5 ⟨rfl, hB5⟩; have C5 := C4.trans (hB5.mono C4.size)))
  · go_ret
    exact ⟨rfl, C1⟩
  · go_ret
    exact ⟨rfl, C5⟩
set_option maxRecDepth 100000 in
set_option maxHeartbeats 8000000 in
theorem law_seal_yes (seed mark : ByteArray) (key k2 : Int) (sv pv : Value) (sig path : List ByteArray) (w : World) (hs : Reads w sv sig.length 1 (sig.map Value.string)) (hp : Reads w pv path.length 1 (path.map Value.string)) (hk : KAt w 0) (he : EAt w)
    (hs1 : seed.size ≤ 60) (hm : mark.size ≤ 60) (hf : Few sig ∧ Few path) (h16 : seed.size = 16) :
    Calls Tryd.prog 8 #[.string seed, .int .i64 key, .string mark, .agg #[.int .i64 k2, sv, pv]] w fun e w' => e = .returned (.bool true) ∧ Below w.heap.size w w' := by
  have hb : Below w.heap.size w (w.alloc (.cells #[.int .i64 k2, sv, pv] 65)) := (Below.refl _ _).alloc (Nat.le_refl _) _
  have R0 : Row3 (w.alloc (.cells #[.int .i64 k2, sv, pv] 65)) w.heap.size (.int .i64 k2) sv pv := Row3.of_row (T := 65) (heap_alloc_new _ _)
  have HS := Lib.hid (long_no seed (w.alloc (.cells #[.int .i64 k2, sv, pv] 65)) hs1)
  have HM := Lib.hid (long_no mark (w.alloc (.cells #[.int .i64 k2, sv, pv] 65)) hm)
  have HL := Lib.hid (longSeal_any k2 sv pv sig path _ (hs.mono hb) (hp.mono hb))
  have HLs := Lib.hid (show sig.length ≤ 1000000 from by have := hf.1.1; omega)
  have HLp := Lib.hid (show path.length ≤ 1000000 from by have := hf.2.1; omega)
  have HLt := Lib.hid (sgSig_le seed key mark)
  have HLu := Lib.hid (sgPath_le seed key mark)
  have hE0 : ErrV .nilIface 0 := .inl ⟨rfl, rfl⟩
  have Hk := Lib.hid hk
  have He := Lib.hid he
  have H16 := Lib.hid h16
  have Hs := Lib.hid hs
  have Hp := Lib.hid hp
  have HR0 := Lib.hid R0
  obtain ⟨a0, a1, a2, -, -, -⟩ := R0
  obtain ⟨sva, svc, rfl, -⟩ := hs.shape
  obtain ⟨pva, pvc, rfl, -⟩ := hp.shape
  unfold LongSealPost at HL
  clear hs hp hk he hf hm hs1 h16
  go_enter Tryd.func8, Tryd.ntmps8
  go_wp2_with (first
    | (go_at_call 23; with_reducible refine HS.out.mono ?_; rintro e w1 ⟨rfl, hw⟩; have hw2 := hw.symm; subst hw2)
    | (go_at_call 23; with_reducible refine HM.out.mono ?_; rintro e w1 ⟨rfl, hw⟩; have hw2 := hw.symm; subst hw2)
    | (go_at_call 50; refine HL.out.mono ?_; rintro e w1 ⟨b, rfl, hB1, -⟩; have C1 := hb.trans (hB1.mono hb.size); have HX1 := Lib.hid (HR0.out.mono hB1))
    | (go_at_call 14; refine (new_any _).mono ?_; rintro e w2 ⟨r, rfl, hR2, -, hB2⟩; have C2 : St w r _ := ⟨C1.trans (hB2.mono C1.size), hR2⟩; have HX2 := Lib.hid (HX1.out.mono hB2))
    | (go_at_call 51; refine (rnew_ok r seed _ H16.out C2.ref).mono ?_; rintro e w3 ⟨A, rfl, hA3, hB3⟩; have C3 := C2.step hB3; have HX3 := Lib.hid (HX2.out.mono hB3); have HA3 := Lib.hid hA3; clear hA3)
    | (go_at_call 52; refine (new_ok seed _ H16.out (Hk.out.mono C3.below)).mono ?_; rintro e w4 ⟨B, rfl, hB4, hb4⟩; have C4 : SwSt w r A B seed w4 := ⟨C3.step hb4, HA3.out.mono hb4, hB4⟩; have HX4 := Lib.hid (HX3.out.mono hb4); clear hB4)
    | (go_at_call 26; with_reducible refine (bare_same .nilIface 0 _ hE0 (He.out.mono C4.st.below)).mono ?_; rintro e w5 ⟨rfl, hB5⟩; have C5 := C4.step hB5; have HX5 := Lib.hid (HX4.out.mono hB5))
    | (go_at_call 53; refine (boxPublic_any B seed _ C5.box).mono ?_; rintro e w6 ⟨rfl, hB6⟩; have C6 := C5.step hB6; have HX6 := Lib.hid (HX5.out.mono hB6))
    | (go_at_call 54; refine (rboxPublic_top A seed _ C6.ref).mono ?_; rintro e w7 ⟨rfl, hw⟩; have hw2 := hw.symm; subst hw2)
    | (go_at_call 55; refine (sealSign_both r A seed mark key _ C6.ref H16.out C6.st.ref).mono ?_; rintro e w8 ⟨ts, tp, rfl, hts, htp, hB8⟩; obtain ⟨tsa, tsc, rfl, -⟩ := hts.shape; obtain ⟨tpa, tpc, rfl, -⟩ := htp.shape; have C8 := C6.step hB8; have HX8 := Lib.hid (HX6.out.mono hB8); have HTs := Lib.hid hts; have HTp := Lib.hid htp; clear hts htp; have hA9 : Below w8.heap.size w8 (w8.alloc (.cells #[.int .i64 (sgKey key mark), (.slice tsa (sgSig seed key mark).length tsc), (.slice tpa (sgPath seed key mark).length tpc)] 65)) := (Below.refl _ _).alloc (Nat.le_refl _) _; have hR9 : Row3 (w8.alloc (.cells #[.int .i64 (sgKey key mark), (.slice tsa (sgSig seed key mark).length tsc), (.slice tpa (sgPath seed key mark).length tpc)] 65)) w8.heap.size (.int .i64 (sgKey key mark)) (.slice tsa (sgSig seed key mark).length tsc) (.slice tpa (sgPath seed key mark).length tpc) := Row3.of_row (T := 65) (heap_alloc_new _ _); have C9 := C8.step hA9; have HX9 := Lib.hid (HX8.out.mono hA9); have HT9 := Lib.hid hR9)
    | (go_at_call 56; refine (boxSign_both B seed mark key _ C9.box H16.out (Hk.out.mono C9.st.below)).mono ?_; rintro e w10 ⟨us, up, ev, rfl, hev, hus, hup, hB10⟩; obtain ⟨usa, usc, rfl, -⟩ := hus.shape; obtain ⟨upa, upc, rfl, -⟩ := hup.shape; have C10 := C9.step hB10; have HX10 := Lib.hid (HX9.out.mono hB10); have HT10 := Lib.hid (HT9.out.mono hB10); have HUs := Lib.hid hus; have HUp := Lib.hid hup; clear hus hup; have hA11 : Below w10.heap.size w10 (w10.alloc (.cells #[.int .i64 (sgKey key mark), (.slice usa (sgSig seed key mark).length usc), (.slice upa (sgPath seed key mark).length upc)] 65)) := (Below.refl _ _).alloc (Nat.le_refl _) _; have hR11 : Row3 (w10.alloc (.cells #[.int .i64 (sgKey key mark), (.slice usa (sgSig seed key mark).length usc), (.slice upa (sgPath seed key mark).length upc)] 65)) w10.heap.size (.int .i64 (sgKey key mark)) (.slice usa (sgSig seed key mark).length usc) (.slice upa (sgPath seed key mark).length upc) := Row3.of_row (T := 65) (heap_alloc_new _ _); have C11 := C10.step hA11; have HX11 := Lib.hid (HX10.out.mono hA11); have HT11 := Lib.hid (HT10.out.mono hA11); have HU11 := Lib.hid hR11)
    | (go_at_call 26; with_reducible refine (bare_same ev _ _ hev (He.out.mono C11.st.below)).mono ?_; rintro e w12 ⟨rfl, hB12⟩; have C12 := C11.step hB12; have HX12 := Lib.hid (HX11.out.mono hB12); have HT12 := Lib.hid (HT11.out.mono hB12); obtain ⟨b0, b1, b2, -, -, -⟩ := HT11.out.mono hB12; obtain ⟨c0, c1, c2, -, -, -⟩ := HU11.out.mono hB12)
    | (go_at_call 57; refine (sameSeal_any (sgKey key mark) _ _ _ _ (sgSig seed key mark) (sgPath seed key mark) _ ((HUs.out.mono hA11).mono hB12) ((HUp.out.mono hA11).mono hB12) ((((HTs.out.mono hA9).mono hB10).mono hA11).mono hB12) ((((HTp.out.mono hA9).mono hB10).mono hA11).mono hB12) HLt.out HLu.out).mono ?_; rintro e w13 ⟨rfl, hB13⟩; have C13 := C12.step hB13; have HX13 := Lib.hid (HX12.out.mono hB13); have HT13 := Lib.hid (HT12.out.mono hB13); obtain ⟨d0, d1, d2, -, -, -⟩ := HT12.out.mono hB13; have hA14 : Below w13.heap.size w13 (w13.alloc (.cells #[.int .i64 (sgKey key mark), (.slice tsa (sgSig seed key mark).length tsc), (.slice tpa (sgPath seed key mark).length tpc)] 65)) := (Below.refl _ _).alloc (Nat.le_refl _) _; have hM14 : Row3 (w13.alloc (.cells #[.int .i64 (sgKey key mark), (.slice tsa (sgSig seed key mark).length tsc), (.slice tpa (sgPath seed key mark).length tpc)] 65)) w13.heap.size (.int .i64 (sgKey key mark)) (.slice tsa (sgSig seed key mark).length tsc) (.slice tpa (sgPath seed key mark).length tpc) := Row3.of_row (T := 65) (heap_alloc_new _ _); have HM14 := Lib.hid hM14; obtain ⟨m0, m1, m2, n0, n1, n2⟩ := hM14; have C14 := C13.step hA14; have HX14 := Lib.hid (HX13.out.mono hA14); have HT14 := Lib.hid (HT13.out.mono hA14); obtain ⟨x0, x1, x2, -, -, -⟩ := HX13.out.mono hA14; have hA15 : Below w13.heap.size w13 (w13.alloc (.cells #[.int .i64 (sgKey key mark), (.slice tsa (sgSig seed key mark).length tsc), (.slice pva path.length pvc)] 65)) := (Below.refl _ _).alloc (Nat.le_refl _) _; have hM15 : Row3 (w13.alloc (.cells #[.int .i64 (sgKey key mark), (.slice tsa (sgSig seed key mark).length tsc), (.slice pva path.length pvc)] 65)) w13.heap.size (.int .i64 (sgKey key mark)) (.slice tsa (sgSig seed key mark).length tsc) (.slice pva path.length pvc) := Row3.of_row (T := 65) (heap_alloc_new _ _); have C15 := C13.step hA15; obtain ⟨y0, y1, y2, -, -, -⟩ := HX13.out.mono hA15; obtain ⟨z0, z1, z2, -, -, -⟩ := HT13.out.mono hA15; obtain ⟨u0, u1, u2, -, -, -⟩ := hM15))
  · go_ret
    exact ⟨rfl, C1⟩
  have hA16 : Below w13.heap.size w13 ((w13.alloc (.cells #[.int .i64 (sgKey key mark), (.slice tsa (sgSig seed key mark).length tsc), (.slice pva path.length pvc)] 65)).alloc (.cells #[.int .i64 k2, .slice sva sig.length svc, .slice pva path.length pvc, .int .i64 (sgKey key mark), .slice tsa (sgSig seed key mark).length tsc, .slice tpa (sgPath seed key mark).length tpc, .int .i64 (sgKey key mark), .slice tsa (sgSig seed key mark).length tsc, .slice pva path.length pvc] 65)) := hA15.alloc hA15.size _
  have hE := heap_alloc_new (w13.alloc (.cells #[.int .i64 (sgKey key mark), (.slice tsa (sgSig seed key mark).length tsc), (.slice pva path.length pvc)] 65)) (.cells #[.int .i64 k2, .slice sva sig.length svc, .slice pva path.length pvc, .int .i64 (sgKey key mark), .slice tsa (sgSig seed key mark).length tsc, .slice tpa (sgPath seed key mark).length tpc, .int .i64 (sgKey key mark), .slice tsa (sgSig seed key mark).length tsc, .slice pva path.length pvc] 65)
  have C0 := C13.step hA16
  have HAs0 := Lib.hid (Hs.out.mono C0.st.below)
  have HAp0 := Lib.hid (Hp.out.mono C0.st.below)
  have HBs0 := Lib.hid ((((((HTs.out.mono hA9).mono hB10).mono hA11).mono hB12).mono hB13).mono hA16)
  have HBp0 := Lib.hid ((((((HTp.out.mono hA9).mono hB10).mono hA11).mono hB12).mono hB13).mono hA16)
  have hz : (w13.alloc (.cells #[.int .i64 (sgKey key mark), (.slice tsa (sgSig seed key mark).length tsc), (.slice pva path.length pvc)] 65)).heap.size = w13.heap.size + 1 := World.size_alloc _ _
  rw [hz] at hE
  obtain ⟨N, hN⟩ : ∃ N, N = w13.heap.size + 1 := ⟨_, rfl⟩
  rw [← hN] at hE ⊢
  generalize (w13.alloc (.cells #[.int .i64 (sgKey key mark), (.slice tsa (sgSig seed key mark).length tsc), (.slice pva path.length pvc)] 65)).alloc (.cells #[.int .i64 k2, .slice sva sig.length svc, .slice pva path.length pvc, .int .i64 (sgKey key mark), .slice tsa (sgSig seed key mark).length tsc, .slice tpa (sgPath seed key mark).length tpc, .int .i64 (sgKey key mark), .slice tsa (sgSig seed key mark).length tsc, .slice pva path.length pvc] 65) = W0 at hE C0 HAs0 HAp0 HBs0 HBp0 ⊢
  have HE : Hid (∀ j v, (#[.int .i64 k2, .slice sva sig.length svc, .slice pva path.length pvc, .int .i64 (sgKey key mark), .slice tsa (sgSig seed key mark).length tsc, .slice tpa (sgPath seed key mark).length tpc, .int .i64 (sgKey key mark), .slice tsa (sgSig seed key mark).length tsc, .slice pva path.length pvc] : Array Value)[j]? = some v → W0.cell? ⟨N, j, none⟩ = some v) := fun j v hv => by rw [cell_of_row _ _ _ _ _ _ hE]; exact hv
  have hlt : N < W0.heap.size := (Array.getElem?_eq_some_iff.1 hE).1
  have Hlt0 := Lib.hid hlt
  generalize sgKey key mark = tk at *
  generalize sgSig seed key mark = tS at *
  generalize sgPath seed key mark = tP at *
  clear hE hN hz hlt y0 y1 y2 z0 z1 z2 u0 u1 u2 x0 x1 x2 m0 m1 m2 n0 n1 n2 b0 b1 b2 c0 c1 c2 d0 d1 d2 a0 a1 a2 hA16 hA15 hA14 C14 C15 hB13 C13 hB12 C12 hA11 hR11 C11 hB10 C10 hA9 hR9 C9 C8 hB8 C6 C5 C4 C3 C2 C1 hB1 hB2 hB3 hb4 hB5 hB6 HX1 HX2 HX3 HX4 HX5 HX6 HX8 HX9 HX10 HX11 HX12 HX13 HX14 HT9 HT10 HT11 HT12 HT13 HT14 HM14 HU11 HTs HTp HUs HUp HA3 HR0 HS HM HL hR2 hev hE0
  refine wp_loop_rounds 4 ?_
  have g0 := HE.out 0 _ rfl
  have g1 := HE.out 1 _ rfl
  have g2 := HE.out 2 _ rfl
  rw [rounds_succ]
  go_wp2_with fail
  have hA : Below W0.heap.size W0 (W0.alloc (.cells #[.int .i64 k2, (.slice sva sig.length svc), (.slice pva path.length pvc)] 65)) := (Below.refl _ _).alloc (Nat.le_refl _) _
  obtain ⟨q0, q1, q2, -, -, -⟩ : Row3 (W0.alloc (.cells #[.int .i64 k2, (.slice sva sig.length svc), (.slice pva path.length pvc)] 65)) W0.heap.size (.int .i64 k2) (.slice sva sig.length svc) (.slice pva path.length pvc) := Row3.of_row (T := 65) (heap_alloc_new _ _)
  have D0 := C0.step hA
  have HAsV0 := Lib.hid (HAs0.out.mono hA)
  have HApV0 := Lib.hid (HAp0.out.mono hA)
  have HBsV0 := Lib.hid (HBs0.out.mono hA)
  have HBpV0 := Lib.hid (HBp0.out.mono hA)
  obtain ⟨T0, hT⟩ : ∃ T, T = W0.heap.size := ⟨_, rfl⟩
  rw [← hT] at q0 q1 q2 ⊢
  have HA0 := Lib.hid hA
  generalize hV : W0.alloc (.cells #[.int .i64 k2, (.slice sva sig.length svc), (.slice pva path.length pvc)] 65) = V0 at D0 HAsV0 HApV0 HBsV0 HBpV0 q0 q1 q2 HA0 ⊢
  clear hT hV hA g0 g1 g2
  have y0 := fun z : Grown V0 => z.cell q0
  have y1 := fun z : Grown V0 => z.cell q1
  have y2 := fun z : Grown V0 => z.cell q2
  have hS := InGrown.drew V0
  have G0 := (Below.refl V0.heap.size V0).drew
  have HPV := Lib.hid (fun W (hW : Below V0.heap.size V0 W) => pver_any (topR seed) mark k2 (.slice sva sig.length svc) (.slice pva path.length pvc) sig path W (HAsV0.out.mono hW) (HApV0.out.mono hW) HLs.out HLp.out (Hk.out.mono (D0.st.below.trans (hW.mono D0.st.below.size))))
  have HRV := Lib.hid (fun W (hW : Below V0.heap.size V0 W) => rver_any r (topR seed) mark k2 (.slice sva sig.length svc) (.slice pva path.length pvc) sig path W (HAsV0.out.mono hW) (HApV0.out.mono hW) HLs.out HLp.out (D0.st.ref.mono hW))
  have HPB := Lib.hid (fun W (hW : Below V0.heap.size V0 W) => rboxPublic_top A seed W (D0.ref.mono hW))
  generalize verB (topR seed) mark k2 sig path = vb0 at HPV HRV
  refine wp_region_D (fun _ => true) (InGrown V0) 12 (by kernel_rfl) rfl ?_
  refine wpAnyD_take (i := 0) 12 (v := ?_) rfl (by kernel_rfl) (fun _ _ _ h => h) hS (Or.inl ⟨by first | kernel_rfl | rfl, ?_⟩) ?_
  case refine_2 => (rintro _ ⟨z, rfl⟩; go_simp <;> with_reducible rfl)
  refine wpAnyD_take (i := 2) 12 (v := ?_) rfl (by kernel_rfl) (fun _ _ _ h => h) hS (Or.inl ⟨by first | kernel_rfl | rfl, ?_⟩) ?_
  case refine_2 => (rintro _ ⟨z, rfl⟩; go_simp <;> with_reducible rfl)
  refine wpAnyD_take (i := 3) 12 (v := ?_) rfl (by kernel_rfl) (fun _ _ _ h => h) hS (Or.inl ⟨by first | kernel_rfl | rfl, ?_⟩) ?_
  case refine_2 => (rintro _ ⟨z, rfl⟩; go_simp <;> with_reducible rfl)
  refine wpAnyD_take (i := 5) 12 (v := ?_) rfl (by kernel_rfl) (fun _ _ _ h => h) hS (Or.inl ⟨by first | kernel_rfl | rfl, ?_⟩) ?_
  case refine_2 => (rintro _ ⟨z, rfl⟩; go_simp <;> with_reducible rfl)
  refine wpAnyD_take (i := 6) 12 (v := ?_) rfl (by kernel_rfl) (fun _ _ _ h => h) hS (Or.inl ⟨by first | kernel_rfl | rfl, ?_⟩) ?_
  case refine_2 => (rintro _ ⟨z, rfl⟩; go_simp <;> with_reducible rfl)
  refine wpAnyD_take (i := 8) 12 (v := ?_) rfl (by kernel_rfl) (fun _ _ _ h => h) hS (Or.inl ⟨by first | kernel_rfl | rfl, ?_⟩) ?_
  case refine_2 => (rintro _ ⟨z, rfl⟩; go_simp <;> with_reducible rfl)
  refine wpAnyD_take (i := 9) 12 (v := ?_) rfl (by kernel_rfl) (fun _ _ _ h => h) hS (Or.inl ⟨by first | kernel_rfl | rfl, ?_⟩) ?_
  case refine_2 => (rintro _ ⟨z, rfl⟩; go_simp <;> with_reducible rfl)
  refine wpAnyD_step 1 (by kernel_rfl) rfl (fun K hK => ?_)
  go_simp
  (go_at_call 54; refine (HPB.out _ G0).mono ?_; rintro e v1 ⟨rfl, hw⟩; have hw2 := hw.symm; subst hw2)
  dsimp only
  refine hK _ _ ⟨fun _ => ?_, ?_⟩
  rotate_left
  clear hK K
  case refine_1 => exact .of G0
  refine wpAnyD_step 4 (by kernel_rfl) rfl (fun K hK => ?_)
  go_simp
  (go_at_call 58; refine (HPV.out _ G0).mono ?_; rintro e v4 ⟨rfl, hB4⟩; have G4 := G0.trans (hB4.mono G0.size))
  dsimp only
  refine hK _ _ ⟨fun _ => ?_, ?_⟩
  rotate_left
  clear hK K
  case refine_1 => exact .of G4
  refine wpAnyD_step 7 (by kernel_rfl) rfl (fun K hK => ?_)
  go_simp
  (go_at_call 54; refine (HPB.out _ G4).mono ?_; rintro e v7 ⟨rfl, hw⟩; have hw2 := hw.symm; subst hw2)
  dsimp only
  refine hK _ _ ⟨fun _ => ?_, ?_⟩
  rotate_left
  clear hK K
  case refine_1 => exact .of G4
  refine wpAnyD_step 10 (by kernel_rfl) rfl (fun K hK => ?_)
  go_simp
  (go_at_call 59; refine (HRV.out _ G4).mono ?_; rintro e v10 ⟨rfl, hB10⟩; have G10 := G4.trans (hB10.mono G4.size))
  dsimp only
  refine hK _ _ ⟨fun _ => ?_, ?_⟩
  rotate_left
  clear hK K
  case refine_1 => exact .of G10
  have hS2 := InGrown.of G10
  refine wpAnyD_take (i := 11) 12 (v := ?_) rfl (by kernel_rfl) (fun _ _ _ h => h) hS2 (Or.inl ⟨by first | kernel_rfl | rfl, ?_⟩) ?_
  case refine_2 => (rintro _ ⟨z, rfl⟩; go_simp <;> with_reducible rfl)
  refine wpAnyD_done (by kernel_rfl) ?_
  have b0 : (vb0 != vb0) = false := bne_self_eq_false _
  go_wp2_with fail
  have C1 := D0.step G10
  have HAs1 := Lib.hid (HAsV0.out.mono G10)
  have HAp1 := Lib.hid (HApV0.out.mono G10)
  have HBs1 := Lib.hid (HBsV0.out.mono G10)
  have HBp1 := Lib.hid (HBpV0.out.mono G10)
  have Hlt1 : Hid (N < v10.heap.size) := Nat.lt_of_lt_of_le Hlt0.out (Nat.le_trans HA0.out.size G10.size)
  have HE1 := Lib.hid (fun j v hv => (((HA0.out.trans (G10.mono HA0.out.size)).cell (p := ⟨N, j, none⟩) Hlt0.out).trans (HE.out j v hv)))
  generalize v10 = W1 at *
  clear y0 y1 y2 hS hS2 G0 G4 G10 hB4 hB10 q0 q1 q2 HPV HRV HPB HAsV0 HApV0 HBsV0 HBpV0 D0 HA0 b0
  have g0 := HE1.out 3 _ rfl
  have g1 := HE1.out 4 _ rfl
  have g2 := HE1.out 5 _ rfl
  rw [rounds_succ]
  go_wp2_with fail
  have hA : Below W1.heap.size W1 (W1.alloc (.cells #[.int .i64 tk, (.slice tsa tS.length tsc), (.slice tpa tP.length tpc)] 65)) := (Below.refl _ _).alloc (Nat.le_refl _) _
  obtain ⟨q0, q1, q2, -, -, -⟩ : Row3 (W1.alloc (.cells #[.int .i64 tk, (.slice tsa tS.length tsc), (.slice tpa tP.length tpc)] 65)) W1.heap.size (.int .i64 tk) (.slice tsa tS.length tsc) (.slice tpa tP.length tpc) := Row3.of_row (T := 65) (heap_alloc_new _ _)
  have D1 := C1.step hA
  have HAsV1 := Lib.hid (HAs1.out.mono hA)
  have HApV1 := Lib.hid (HAp1.out.mono hA)
  have HBsV1 := Lib.hid (HBs1.out.mono hA)
  have HBpV1 := Lib.hid (HBp1.out.mono hA)
  obtain ⟨T1, hT⟩ : ∃ T, T = W1.heap.size := ⟨_, rfl⟩
  rw [← hT] at q0 q1 q2 ⊢
  have HA1 := Lib.hid hA
  generalize hV : W1.alloc (.cells #[.int .i64 tk, (.slice tsa tS.length tsc), (.slice tpa tP.length tpc)] 65) = V1 at D1 HAsV1 HApV1 HBsV1 HBpV1 q0 q1 q2 HA1 ⊢
  clear hT hV hA g0 g1 g2
  have y0 := fun z : Grown V1 => z.cell q0
  have y1 := fun z : Grown V1 => z.cell q1
  have y2 := fun z : Grown V1 => z.cell q2
  have hS := InGrown.drew V1
  have G0 := (Below.refl V1.heap.size V1).drew
  have HPV := Lib.hid (fun W (hW : Below V1.heap.size V1 W) => pver_any (topR seed) mark tk (.slice tsa tS.length tsc) (.slice tpa tP.length tpc) tS tP W (HBsV1.out.mono hW) (HBpV1.out.mono hW) HLt.out HLu.out (Hk.out.mono (D1.st.below.trans (hW.mono D1.st.below.size))))
  have HRV := Lib.hid (fun W (hW : Below V1.heap.size V1 W) => rver_any r (topR seed) mark tk (.slice tsa tS.length tsc) (.slice tpa tP.length tpc) tS tP W (HBsV1.out.mono hW) (HBpV1.out.mono hW) HLt.out HLu.out (D1.st.ref.mono hW))
  have HPB := Lib.hid (fun W (hW : Below V1.heap.size V1 W) => rboxPublic_top A seed W (D1.ref.mono hW))
  generalize verB (topR seed) mark tk tS tP = vb1 at HPV HRV
  refine wp_region_D (fun _ => true) (InGrown V1) 12 (by kernel_rfl) rfl ?_
  refine wpAnyD_take (i := 0) 12 (v := ?_) rfl (by kernel_rfl) (fun _ _ _ h => h) hS (Or.inl ⟨by first | kernel_rfl | rfl, ?_⟩) ?_
  case refine_2 => (rintro _ ⟨z, rfl⟩; go_simp <;> with_reducible rfl)
  refine wpAnyD_take (i := 2) 12 (v := ?_) rfl (by kernel_rfl) (fun _ _ _ h => h) hS (Or.inl ⟨by first | kernel_rfl | rfl, ?_⟩) ?_
  case refine_2 => (rintro _ ⟨z, rfl⟩; go_simp <;> with_reducible rfl)
  refine wpAnyD_take (i := 3) 12 (v := ?_) rfl (by kernel_rfl) (fun _ _ _ h => h) hS (Or.inl ⟨by first | kernel_rfl | rfl, ?_⟩) ?_
  case refine_2 => (rintro _ ⟨z, rfl⟩; go_simp <;> with_reducible rfl)
  refine wpAnyD_take (i := 5) 12 (v := ?_) rfl (by kernel_rfl) (fun _ _ _ h => h) hS (Or.inl ⟨by first | kernel_rfl | rfl, ?_⟩) ?_
  case refine_2 => (rintro _ ⟨z, rfl⟩; go_simp <;> with_reducible rfl)
  refine wpAnyD_take (i := 6) 12 (v := ?_) rfl (by kernel_rfl) (fun _ _ _ h => h) hS (Or.inl ⟨by first | kernel_rfl | rfl, ?_⟩) ?_
  case refine_2 => (rintro _ ⟨z, rfl⟩; go_simp <;> with_reducible rfl)
  refine wpAnyD_take (i := 8) 12 (v := ?_) rfl (by kernel_rfl) (fun _ _ _ h => h) hS (Or.inl ⟨by first | kernel_rfl | rfl, ?_⟩) ?_
  case refine_2 => (rintro _ ⟨z, rfl⟩; go_simp <;> with_reducible rfl)
  refine wpAnyD_take (i := 9) 12 (v := ?_) rfl (by kernel_rfl) (fun _ _ _ h => h) hS (Or.inl ⟨by first | kernel_rfl | rfl, ?_⟩) ?_
  case refine_2 => (rintro _ ⟨z, rfl⟩; go_simp <;> with_reducible rfl)
  refine wpAnyD_step 1 (by kernel_rfl) rfl (fun K hK => ?_)
  go_simp
  (go_at_call 54; refine (HPB.out _ G0).mono ?_; rintro e v1 ⟨rfl, hw⟩; have hw2 := hw.symm; subst hw2)
  dsimp only
  refine hK _ _ ⟨fun _ => ?_, ?_⟩
  rotate_left
  clear hK K
  case refine_1 => exact .of G0
  refine wpAnyD_step 4 (by kernel_rfl) rfl (fun K hK => ?_)
  go_simp
  (go_at_call 58; refine (HPV.out _ G0).mono ?_; rintro e v4 ⟨rfl, hB4⟩; have G4 := G0.trans (hB4.mono G0.size))
  dsimp only
  refine hK _ _ ⟨fun _ => ?_, ?_⟩
  rotate_left
  clear hK K
  case refine_1 => exact .of G4
  refine wpAnyD_step 7 (by kernel_rfl) rfl (fun K hK => ?_)
  go_simp
  (go_at_call 54; refine (HPB.out _ G4).mono ?_; rintro e v7 ⟨rfl, hw⟩; have hw2 := hw.symm; subst hw2)
  dsimp only
  refine hK _ _ ⟨fun _ => ?_, ?_⟩
  rotate_left
  clear hK K
  case refine_1 => exact .of G4
  refine wpAnyD_step 10 (by kernel_rfl) rfl (fun K hK => ?_)
  go_simp
  (go_at_call 59; refine (HRV.out _ G4).mono ?_; rintro e v10 ⟨rfl, hB10⟩; have G10 := G4.trans (hB10.mono G4.size))
  dsimp only
  refine hK _ _ ⟨fun _ => ?_, ?_⟩
  rotate_left
  clear hK K
  case refine_1 => exact .of G10
  have hS2 := InGrown.of G10
  refine wpAnyD_take (i := 11) 12 (v := ?_) rfl (by kernel_rfl) (fun _ _ _ h => h) hS2 (Or.inl ⟨by first | kernel_rfl | rfl, ?_⟩) ?_
  case refine_2 => (rintro _ ⟨z, rfl⟩; go_simp <;> with_reducible rfl)
  refine wpAnyD_done (by kernel_rfl) ?_
  have b0 : (vb1 != vb1) = false := bne_self_eq_false _
  go_wp2_with fail
  have C2 := D1.step G10
  have HAs2 := Lib.hid (HAsV1.out.mono G10)
  have HAp2 := Lib.hid (HApV1.out.mono G10)
  have HBs2 := Lib.hid (HBsV1.out.mono G10)
  have HBp2 := Lib.hid (HBpV1.out.mono G10)
  have Hlt2 : Hid (N < v10.heap.size) := Nat.lt_of_lt_of_le Hlt1.out (Nat.le_trans HA1.out.size G10.size)
  have HE2 := Lib.hid (fun j v hv => (((HA1.out.trans (G10.mono HA1.out.size)).cell (p := ⟨N, j, none⟩) Hlt1.out).trans (HE1.out j v hv)))
  generalize v10 = W2 at *
  clear y0 y1 y2 hS hS2 G0 G4 G10 hB4 hB10 q0 q1 q2 HPV HRV HPB HAsV1 HApV1 HBsV1 HBpV1 D1 HA1 b0
  have g0 := HE2.out 6 _ rfl
  have g1 := HE2.out 7 _ rfl
  have g2 := HE2.out 8 _ rfl
  rw [rounds_succ]
  go_wp2_with fail
  have hA : Below W2.heap.size W2 (W2.alloc (.cells #[.int .i64 tk, (.slice tsa tS.length tsc), (.slice pva path.length pvc)] 65)) := (Below.refl _ _).alloc (Nat.le_refl _) _
  obtain ⟨q0, q1, q2, -, -, -⟩ : Row3 (W2.alloc (.cells #[.int .i64 tk, (.slice tsa tS.length tsc), (.slice pva path.length pvc)] 65)) W2.heap.size (.int .i64 tk) (.slice tsa tS.length tsc) (.slice pva path.length pvc) := Row3.of_row (T := 65) (heap_alloc_new _ _)
  have D2 := C2.step hA
  have HAsV2 := Lib.hid (HAs2.out.mono hA)
  have HApV2 := Lib.hid (HAp2.out.mono hA)
  have HBsV2 := Lib.hid (HBs2.out.mono hA)
  have HBpV2 := Lib.hid (HBp2.out.mono hA)
  obtain ⟨T2, hT⟩ : ∃ T, T = W2.heap.size := ⟨_, rfl⟩
  rw [← hT] at q0 q1 q2 ⊢
  have HA2 := Lib.hid hA
  generalize hV : W2.alloc (.cells #[.int .i64 tk, (.slice tsa tS.length tsc), (.slice pva path.length pvc)] 65) = V2 at D2 HAsV2 HApV2 HBsV2 HBpV2 q0 q1 q2 HA2 ⊢
  clear hT hV hA g0 g1 g2
  have y0 := fun z : Grown V2 => z.cell q0
  have y1 := fun z : Grown V2 => z.cell q1
  have y2 := fun z : Grown V2 => z.cell q2
  have hS := InGrown.drew V2
  have G0 := (Below.refl V2.heap.size V2).drew
  have HPV := Lib.hid (fun W (hW : Below V2.heap.size V2 W) => pver_any (topR seed) mark tk (.slice tsa tS.length tsc) (.slice pva path.length pvc) tS path W (HBsV2.out.mono hW) (HApV2.out.mono hW) HLt.out HLp.out (Hk.out.mono (D2.st.below.trans (hW.mono D2.st.below.size))))
  have HRV := Lib.hid (fun W (hW : Below V2.heap.size V2 W) => rver_any r (topR seed) mark tk (.slice tsa tS.length tsc) (.slice pva path.length pvc) tS path W (HBsV2.out.mono hW) (HApV2.out.mono hW) HLt.out HLp.out (D2.st.ref.mono hW))
  have HPB := Lib.hid (fun W (hW : Below V2.heap.size V2 W) => rboxPublic_top A seed W (D2.ref.mono hW))
  generalize verB (topR seed) mark tk tS path = vb2 at HPV HRV
  refine wp_region_D (fun _ => true) (InGrown V2) 12 (by kernel_rfl) rfl ?_
  refine wpAnyD_take (i := 0) 12 (v := ?_) rfl (by kernel_rfl) (fun _ _ _ h => h) hS (Or.inl ⟨by first | kernel_rfl | rfl, ?_⟩) ?_
  case refine_2 => (rintro _ ⟨z, rfl⟩; go_simp <;> with_reducible rfl)
  refine wpAnyD_take (i := 2) 12 (v := ?_) rfl (by kernel_rfl) (fun _ _ _ h => h) hS (Or.inl ⟨by first | kernel_rfl | rfl, ?_⟩) ?_
  case refine_2 => (rintro _ ⟨z, rfl⟩; go_simp <;> with_reducible rfl)
  refine wpAnyD_take (i := 3) 12 (v := ?_) rfl (by kernel_rfl) (fun _ _ _ h => h) hS (Or.inl ⟨by first | kernel_rfl | rfl, ?_⟩) ?_
  case refine_2 => (rintro _ ⟨z, rfl⟩; go_simp <;> with_reducible rfl)
  refine wpAnyD_take (i := 5) 12 (v := ?_) rfl (by kernel_rfl) (fun _ _ _ h => h) hS (Or.inl ⟨by first | kernel_rfl | rfl, ?_⟩) ?_
  case refine_2 => (rintro _ ⟨z, rfl⟩; go_simp <;> with_reducible rfl)
  refine wpAnyD_take (i := 6) 12 (v := ?_) rfl (by kernel_rfl) (fun _ _ _ h => h) hS (Or.inl ⟨by first | kernel_rfl | rfl, ?_⟩) ?_
  case refine_2 => (rintro _ ⟨z, rfl⟩; go_simp <;> with_reducible rfl)
  refine wpAnyD_take (i := 8) 12 (v := ?_) rfl (by kernel_rfl) (fun _ _ _ h => h) hS (Or.inl ⟨by first | kernel_rfl | rfl, ?_⟩) ?_
  case refine_2 => (rintro _ ⟨z, rfl⟩; go_simp <;> with_reducible rfl)
  refine wpAnyD_take (i := 9) 12 (v := ?_) rfl (by kernel_rfl) (fun _ _ _ h => h) hS (Or.inl ⟨by first | kernel_rfl | rfl, ?_⟩) ?_
  case refine_2 => (rintro _ ⟨z, rfl⟩; go_simp <;> with_reducible rfl)
  refine wpAnyD_step 1 (by kernel_rfl) rfl (fun K hK => ?_)
  go_simp
  (go_at_call 54; refine (HPB.out _ G0).mono ?_; rintro e v1 ⟨rfl, hw⟩; have hw2 := hw.symm; subst hw2)
  dsimp only
  refine hK _ _ ⟨fun _ => ?_, ?_⟩
  rotate_left
  clear hK K
  case refine_1 => exact .of G0
  refine wpAnyD_step 4 (by kernel_rfl) rfl (fun K hK => ?_)
  go_simp
  (go_at_call 58; refine (HPV.out _ G0).mono ?_; rintro e v4 ⟨rfl, hB4⟩; have G4 := G0.trans (hB4.mono G0.size))
  dsimp only
  refine hK _ _ ⟨fun _ => ?_, ?_⟩
  rotate_left
  clear hK K
  case refine_1 => exact .of G4
  refine wpAnyD_step 7 (by kernel_rfl) rfl (fun K hK => ?_)
  go_simp
  (go_at_call 54; refine (HPB.out _ G4).mono ?_; rintro e v7 ⟨rfl, hw⟩; have hw2 := hw.symm; subst hw2)
  dsimp only
  refine hK _ _ ⟨fun _ => ?_, ?_⟩
  rotate_left
  clear hK K
  case refine_1 => exact .of G4
  refine wpAnyD_step 10 (by kernel_rfl) rfl (fun K hK => ?_)
  go_simp
  (go_at_call 59; refine (HRV.out _ G4).mono ?_; rintro e v10 ⟨rfl, hB10⟩; have G10 := G4.trans (hB10.mono G4.size))
  dsimp only
  refine hK _ _ ⟨fun _ => ?_, ?_⟩
  rotate_left
  clear hK K
  case refine_1 => exact .of G10
  have hS2 := InGrown.of G10
  refine wpAnyD_take (i := 11) 12 (v := ?_) rfl (by kernel_rfl) (fun _ _ _ h => h) hS2 (Or.inl ⟨by first | kernel_rfl | rfl, ?_⟩) ?_
  case refine_2 => (rintro _ ⟨z, rfl⟩; go_simp <;> with_reducible rfl)
  refine wpAnyD_done (by kernel_rfl) ?_
  have b0 : (vb2 != vb2) = false := bne_self_eq_false _
  go_wp2_with fail
  have C3 := D2.step G10
  have HAs3 := Lib.hid (HAsV2.out.mono G10)
  have HAp3 := Lib.hid (HApV2.out.mono G10)
  have HBs3 := Lib.hid (HBsV2.out.mono G10)
  have HBp3 := Lib.hid (HBpV2.out.mono G10)
  have Hlt3 : Hid (N < v10.heap.size) := Nat.lt_of_lt_of_le Hlt2.out (Nat.le_trans HA2.out.size G10.size)
  have HE3 := Lib.hid (fun j v hv => (((HA2.out.trans (G10.mono HA2.out.size)).cell (p := ⟨N, j, none⟩) Hlt2.out).trans (HE2.out j v hv)))
  generalize v10 = W3 at *
  clear y0 y1 y2 hS hS2 G0 G4 G10 hB4 hB10 q0 q1 q2 HPV HRV HPB HAsV2 HApV2 HBsV2 HBpV2 D2 HA2 b0
  rw [rounds_succ]
  go_wp2_with fail
  go_ret
  exact ⟨rfl, C3.st.below⟩
theorem law_sealSigns (seed mark : ByteArray) (key k2 : Int) (sv pv : Value) (sig path : List ByteArray) (w : World) (hs : Reads w sv sig.length 1 (sig.map Value.string)) (hp : Reads w pv path.length 1 (path.map Value.string)) (hk : KAt w 0) (he : EAt w) :
    Calls Tryd.prog 8 #[.string seed, .int .i64 key, .string mark, .agg #[.int .i64 k2, sv, pv]] w fun e w' => e = .returned (.bool true) ∧ Below w.heap.size w w' := by
  by_cases h : seed.size ≤ 60 ∧ mark.size ≤ 60 ∧ (Few sig ∧ Few path) ∧ seed.size = 16
  · exact law_seal_yes seed mark key k2 sv pv sig path w hs hp hk he h.1 h.2.1 h.2.2.1 h.2.2.2
  · exact law_seal_no seed mark key k2 sv pv sig path w hs hp hk he h
end Go.Proofs.YtfhjnfocmlndpaaDoor
