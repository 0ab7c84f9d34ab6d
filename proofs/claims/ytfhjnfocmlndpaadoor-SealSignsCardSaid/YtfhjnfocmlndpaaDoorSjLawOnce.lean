/- The law OnceSigns: it returns true. -/
import Derived.Test.YtfhjnfocmlndpaaDoorSjOnceT
import Derived.Test.YtfhjnfocmlndpaaDoorSjLaid
import Derived.Test.YtfhjnfocmlndpaaDoorSjLawSum
namespace Go.Proofs.YtfhjnfocmlndpaaDoor
open Go Go.RowKit Go.Proofs

set_option maxHeartbeats 1000000 in
theorem same_any (v u : Value) (l : List ByteArray) (w : World) (hl : l.length ≤ 1000000) (hv : Reads w v l.length 1 (l.map Value.string)) (hu : Reads w u l.length 1 (l.map Value.string)) :
    Calls Tryd.prog 29 #[v, u] w fun e w' => e = .returned (.bool true) ∧ Below w.heap.size w w' := by
  obtain ⟨a, ca, rfl, ha⟩ := hv.shape
  obtain ⟨b, cb, rfl, hb⟩ := hu.shape
  obtain ⟨n, hn⟩ : ∃ n, n = l.length := ⟨_, rfl⟩
  rw [← hn]
  have HN := Lib.hid hn
  have hnb : n ≤ 1000000 := by omega
  have HA := Lib.hid ha
  have HBb := Lib.hid hb
  clear hn hv hu ha hb hl
  go_enter Tryd.func29, Tryd.ntmps29
  go_wp2_with fail
  go_loopw [5] (fun i wr => ∃ k q : Nat, k ≤ n ∧ i = .int .i64 k ∧ wr = w.drewN q) (fun i _ => n - (intOf i).toNat)
  case atStart => exact ⟨0, 0, Nat.zero_le _, rfl, rfl⟩
  case round =>
    obtain ⟨k, q, hk, rfl, rfl⟩ := hrel
    by_cases hlt : k < n
    · have hkl : k < l.length := by have := HN.out; omega
      obtain ⟨p, hp⟩ : ∃ p, l[k]? = some p := ⟨_, List.getElem?_eq_getElem hkl⟩
      obtain ⟨b1, o1, rfl, c1⟩ := HA.out k p hp
      obtain ⟨b2, o2, rfl, c2⟩ := HBb.out k p hp
      have d1 : (w.drewN q).cell? ⟨b1, o1 + k, none⟩ = some (.string p) := c1
      have d2 : (w.drewN q).cell? ⟨b2, o2 + k, none⟩ = some (.string p) := c2
      have e1 : (k : Int) < n := by omega
      clear hp c1 c2
      obtain ⟨W, hW⟩ : ∃ W, W = w.drewN q := ⟨_, rfl⟩
      rw [← hW] at d1 d2 ⊢
      have HWe := Lib.hid hW
      clear hW
      go_wp2_with fail
      go_quiet (fail)
      go_wp2_with fail
      go_roundw
      case rel => exact ⟨k + 1, q + nq, by omega, by go_num, by rw [HWe.out, World.drewN_drewN]⟩
      case measure => simp [intOf]; omega
    · have hd1 : decide (k < n) = false := decide_eq_false hlt
      have e1 : ¬ (k : Int) < n := by omega
      go_wp2_with fail
      go_ret
      exact ⟨rfl, belowN (Below.refl _ _) _⟩

/-! ### what each of them comes to, either way -/
def pubO (seed : ByteArray) (key : Int) : ByteArray := if seed.size = 16 then pubS seed key else ⟨#[]⟩
def pubK (seed : ByteArray) : Int := if seed.size = 16 then 0 else 1
def signO (seed : ByteArray) (key : Int) (m : ByteArray) : List ByteArray := if seed.size = 16 ∧ m.size = 16 then signL seed key m 35 else []
def signK (seed m : ByteArray) : Int := if seed.size = 16 ∧ m.size = 16 then 0 else 1
def sigOk (m : ByteArray) (l : List ByteArray) : Prop := m.size = 16 ∧ l.length = 35 ∧ ∀ p ∈ l, p.size = 16
open Classical in
noncomputable def fromO (m : ByteArray) (l : List ByteArray) : ByteArray := if sigOk m l then fromS m l else ⟨#[]⟩
open Classical in
noncomputable def fromK (m : ByteArray) (l : List ByteArray) : Int := if sigOk m l then 0 else 1
theorem signL_length (seed : ByteArray) (key : Int) (m : ByteArray) : (signL seed key m 35).length = 35 := by simp [signL]
def PubPost (seed : ByteArray) (key : Int) (w : World) (e : Ending) (w' : World) : Prop := ∃ ev, e = .returned (.tuple #[.string (pubO seed key), ev]) ∧ ErrV ev (pubK seed) ∧ Below w.heap.size w w'
theorem public_both (seed : ByteArray) (key : Int) (w : World) (h0 : -9223372036854775808 ≤ key) (h1 : key ≤ 9223372036854775807) (hK : KAt w 0) :
    Calls Tryd.prog 25 #[.string seed, .int .i64 key] w (PubPost seed key w) := by
  unfold PubPost pubO pubK
  by_cases h : seed.size = 16
  · refine (public_ok seed key w h h0 h1 hK).mono ?_
    rintro e w' ⟨rfl, hb⟩
    rw [if_pos h, if_pos h]
    exact ⟨_, rfl, .inl ⟨rfl, rfl⟩, hb⟩
  · refine (public_no seed key w h).mono ?_
    rintro e w' ⟨rfl, rfl⟩
    rw [if_neg h, if_neg h]
    exact ⟨_, rfl, .inr rfl, Below.refl _ _⟩
theorem rpublic_both (r : Nat) (seed : ByteArray) (key : Int) (w : World) (h0 : -9223372036854775808 ≤ key) (h1 : key ≤ 9223372036854775807) (hR : RAt w r) :
    Calls Tryd.prog 24 #[.pointer (some ⟨r, 0, none⟩), .string seed, .int .i64 key] w fun e w' => e = .returned (.tuple #[.string (pubO seed key), .int .i64 (pubK seed)]) ∧ Below w.heap.size w w' := by
  unfold pubO pubK
  by_cases h : seed.size = 16
  · rw [if_pos h, if_pos h]
    exact rpublic_ok r seed key w h h0 h1 hR
  · rw [if_neg h, if_neg h]
    refine (rpublic_no r seed key w h).mono ?_
    rintro e w' ⟨rfl, rfl⟩
    exact ⟨rfl, Below.refl _ _⟩
def SignPost (L : List ByteArray) (k : Int) (w : World) (e : Ending) (w' : World) : Prop :=
  ∃ v ev, e = .returned (.tuple #[v, ev]) ∧ Reads w' v L.length 1 (L.map Value.string) ∧ ErrV ev k ∧ Below w.heap.size w w'
theorem sign_both (seed : ByteArray) (key : Int) (m : ByteArray) (w : World) (h0 : -9223372036854775808 ≤ key) (h1 : key ≤ 9223372036854775807) (hK : KAt w 0) :
    Calls Tryd.prog 28 #[.string seed, .int .i64 key, .string m] w (SignPost (signO seed key m) (signK seed m) w) := by
  unfold signO signK
  by_cases h : seed.size = 16 ∧ m.size = 16
  · refine (sign_ok seed key m w h.1 h.2 h0 h1 hK).mono ?_
    rintro e w' ⟨v, rfl, hO, hb⟩
    rw [if_pos h, if_pos h]
    exact ⟨v, _, rfl, by rw [signL_length]; exact Reads.of_own hO, .inl ⟨rfl, rfl⟩, hb⟩
  · refine (sign_no seed key m w h).mono ?_
    rintro e w' ⟨rfl, rfl⟩
    rw [if_neg h, if_neg h]
    exact ⟨_, _, rfl, ⟨rfl, .inl ⟨rfl, _, _, rfl⟩⟩, .inr rfl, Below.refl _ _⟩
def RSignPost (L : List ByteArray) (k : Int) (w : World) (e : Ending) (w' : World) : Prop :=
  ∃ v, e = .returned (.tuple #[v, .int .i64 k]) ∧ Reads w' v L.length 1 (L.map Value.string) ∧ Below w.heap.size w w'
theorem rsign_both (r : Nat) (seed : ByteArray) (key : Int) (m : ByteArray) (w : World) (h0 : -9223372036854775808 ≤ key) (h1 : key ≤ 9223372036854775807) (hR : RAt w r) :
    Calls Tryd.prog 27 #[.pointer (some ⟨r, 0, none⟩), .string seed, .int .i64 key, .string m] w (RSignPost (signO seed key m) (signK seed m) w) := by
  unfold signO signK
  by_cases h : seed.size = 16 ∧ m.size = 16
  · refine (rsign_ok r seed key m w h.1 h.2 h0 h1 hR).mono ?_
    rintro e w' ⟨v, rfl, hO, hb⟩
    rw [if_pos h, if_pos h]
    exact ⟨v, rfl, by rw [signL_length]; exact Reads.of_own hO, hb⟩
  · refine (rsign_no r seed key m w h).mono ?_
    rintro e w' ⟨rfl, rfl⟩
    rw [if_neg h, if_neg h]
    exact ⟨_, rfl, ⟨rfl, .inl ⟨rfl, _, _, rfl⟩⟩, Below.refl _ _⟩
def FromPost (m : ByteArray) (l : List ByteArray) (w : World) (e : Ending) (w' : World) : Prop := ∃ ev, e = .returned (.tuple #[.string (fromO m l), ev]) ∧ ErrV ev (fromK m l) ∧ Below w.heap.size w w'
theorem from_both (m : ByteArray) (v : Value) (l : List ByteArray) (w : World) (hl : l.length ≤ 1000000) (hv : Reads w v l.length 1 (l.map Value.string)) (hK : KAt w 0) :
    Calls Tryd.prog 31 #[.string m, v] w (FromPost m l w) := by
  unfold FromPost fromO fromK
  by_cases h : sigOk m l
  · refine (from_ok m v l w h.1 h.2.1 h.2.2 hv hK).mono ?_
    rintro e w' ⟨rfl, hb⟩
    rw [if_pos h, if_pos h]
    exact ⟨_, rfl, .inl ⟨rfl, rfl⟩, hb⟩
  · refine (from_no m v l w h hl hv).mono ?_
    rintro e w' ⟨rfl, rfl⟩
    rw [if_neg h, if_neg h]
    exact ⟨_, rfl, .inr rfl, Below.refl _ _⟩
theorem rfrom_both (r : Nat) (m : ByteArray) (v : Value) (l : List ByteArray) (w : World) (hl : l.length ≤ 1000000) (hv : Reads w v l.length 1 (l.map Value.string)) (hR : RAt w r) :
    Calls Tryd.prog 30 #[.pointer (some ⟨r, 0, none⟩), .string m, v] w fun e w' => e = .returned (.tuple #[.string (fromO m l), .int .i64 (fromK m l)]) ∧ Below w.heap.size w w' := by
  unfold fromO fromK
  by_cases h : sigOk m l
  · rw [if_pos h, if_pos h]
    exact rfrom_ok r m v l w h.1 h.2.1 h.2.2 hv hR
  · rw [if_neg h, if_neg h]
    refine (rfrom_no r m v l w h hl hv).mono ?_
    rintro e w' ⟨rfl, rfl⟩
    exact ⟨rfl, Below.refl _ _⟩

/-! ### the law -/
theorem long_no (p : ByteArray) (w : World) (h : p.size ≤ 60) : Calls Tryd.prog 23 #[.string p] w fun e w' => e = .returned (.bool false) ∧ w' = w := by
  refine (long_any p w).mono ?_
  rintro e w' ⟨rfl, rfl⟩
  exact ⟨by rw [decide_eq_false (by omega)], rfl⟩
theorem long_yes (p : ByteArray) (w : World) (h : ¬ p.size ≤ 60) : Calls Tryd.prog 23 #[.string p] w fun e w' => e = .returned (.bool true) ∧ w' = w := by
  refine (long_any p w).mono ?_
  rintro e w' ⟨rfl, rfl⟩
  exact ⟨by rw [decide_eq_true (by omega)], rfl⟩
def Few (l : List ByteArray) : Prop := l.length ≤ 140 ∧ ∀ p ∈ l, p.size ≤ 60
theorem longs_yes (v : Value) (l : List ByteArray) (w : World) (hv : Reads w v l.length 1 (l.map Value.string)) (h : ¬ Few l) : Calls Tryd.prog 13 #[v] w fun e w' => e = .returned (.bool true) ∧ w' = w := by
  refine (longs_any v l w hv).mono ?_
  rintro e w' ⟨b, rfl, rfl, hb⟩
  cases b with
  | true => exact ⟨rfl, rfl⟩
  | false => exact absurd (hb rfl) h
theorem bare_same (v : Value) (k : Int) (w : World) (hv : ErrV v k) (hg : EAt w) :
    Calls Tryd.prog 26 #[v, .int .i64 k] w fun en w' => en = .returned (.bool true) ∧ Below w.heap.size w w' := by
  refine (bare_any v k k w hv hg).mono ?_
  rintro e w' ⟨rfl, hb⟩
  exact ⟨by simp, hb⟩
theorem signO_le (seed : ByteArray) (key : Int) (m : ByteArray) : (signO seed key m).length ≤ 1000000 := by
  unfold signO
  split
  · rw [signL_length]; decide
  · simp
/-- where a law's walk stands: nothing of its beginning has turned, the reference is there -/
structure St (w0 : World) (r : Nat) (w : World) : Prop where
  below : Below w0.heap.size w0 w
  ref : RAt w r
theorem St.step {w0 w w' : World} {r : Nat} (h : St w0 r w) (hb : Below w.heap.size w w') : St w0 r w' := ⟨h.below.trans (hb.mono h.below.size), h.ref.mono hb⟩

set_option maxRecDepth 100000 in
set_option maxHeartbeats 4000000 in
theorem law_onceSigns (seed mark : ByteArray) (key : Int) (v : Value) (l : List ByteArray) (w : World) (h0 : -9223372036854775808 ≤ key) (h1 : key ≤ 9223372036854775807) (hv : Reads w v l.length 1 (l.map Value.string))
    (hk : KAt w 0) (he : EAt w) :
    Calls Tryd.prog 4 #[.string seed, .int .i64 key, .string mark, v] w fun e w' => e = .returned (.bool true) ∧ Below w.heap.size w w' := by
  by_cases hs : seed.size ≤ 60
  rotate_left
  · have HS := Lib.hid (long_yes seed w hs)
    clear hv hk he h0 h1
    go_enter Tryd.func4, Tryd.ntmps4
    go_wp2_with (go_at_call 23; refine HS.out.mono ?_; rintro e w1 ⟨rfl, hw⟩; obtain rfl : w = w1 := hw.symm)
    go_ret
    exact ⟨rfl, Below.refl _ _⟩
  have HS := Lib.hid (long_no seed w hs)
  by_cases hm : mark.size ≤ 60
  rotate_left
  · have HM := Lib.hid (long_yes mark w hm)
    clear hv hk he h0 h1
    go_enter Tryd.func4, Tryd.ntmps4
    go_wp2_with (first | (go_at_call 23; with_reducible refine HS.out.mono ?_; rintro e w1 ⟨rfl, hw⟩; obtain rfl : w = w1 := hw.symm) | (go_at_call 23; with_reducible refine HM.out.mono ?_; rintro e w1 ⟨rfl, hw⟩; obtain rfl : w = w1 := hw.symm))
    go_ret
    exact ⟨rfl, Below.refl _ _⟩
  have HM := Lib.hid (long_no mark w hm)
  by_cases hl : Few l
  rotate_left
  · have HL := Lib.hid (longs_yes v l w hv hl)
    clear hv hk he h0 h1
    go_enter Tryd.func4, Tryd.ntmps4
    go_wp2_with (first | (go_at_call 23; with_reducible refine HS.out.mono ?_; rintro e w1 ⟨rfl, hw⟩; obtain rfl : w = w1 := hw.symm) | (go_at_call 23; with_reducible refine HM.out.mono ?_; rintro e w1 ⟨rfl, hw⟩; obtain rfl : w = w1 := hw.symm) | (go_at_call 13; refine HL.out.mono ?_; rintro e w1 ⟨rfl, hw⟩; obtain rfl : w = w1 := hw.symm))
    go_ret
    exact ⟨rfl, Below.refl _ _⟩
  obtain ⟨a0, c0, rfl, -⟩ := hv.shape
  have HL := Lib.hid (longs_any _ l w hv)
  have hll : l.length ≤ 1000000 := by have := hl.1; omega
  obtain ⟨n0, hn0⟩ : ∃ n0, n0 = l.length := ⟨_, rfl⟩
  rw [← hn0] at HL ⊢
  have Hv : Hid (Reads w (.slice a0 n0 c0) l.length 1 (l.map Value.string)) := by unfold Hid; rw [hn0]; exact hv
  have Hn := Lib.hid hn0
  have Hk := Lib.hid hk
  have He := Lib.hid he
  have HN0 := Lib.hid h0
  have HN1 := Lib.hid h1
  have hRefl := Below.refl w.heap.size w
  clear hv hk he h0 h1 hl hs hm hn0
  go_enter Tryd.func4, Tryd.ntmps4
  go_wp2_with (first
    | (go_at_call 23; with_reducible refine HS.out.mono ?_; rintro e w1 ⟨rfl, hw⟩; obtain rfl : w = w1 := hw.symm)
    | (go_at_call 23; with_reducible refine HM.out.mono ?_; rintro e w1 ⟨rfl, hw⟩; obtain rfl : w = w1 := hw.symm)
    | (go_at_call 13; refine HL.out.mono ?_; rintro e w1 ⟨b, rfl, hw, -⟩; obtain rfl : w = w1 := hw.symm)
    | (go_at_call 14; refine (new_any _).mono ?_; rintro e w1 ⟨r, rfl, hR1, hr1, hB1⟩; have S1 : St w r w1 := ⟨hB1, hR1⟩)
    | (go_at_call 24; refine (rpublic_both r seed key _ HN0.out HN1.out S1.ref).mono ?_; rintro e w2 ⟨rfl, hB2⟩; have S2 := S1.step hB2)
    | (go_at_call 25; refine (public_both seed key _ HN0.out HN1.out (Hk.out.mono S2.below)).mono ?_; rintro e w3 ⟨ev, rfl, hev, hB3⟩; have S3 := S2.step hB3)
    | (go_at_call 26; with_reducible refine (bare_same ev _ _ hev (He.out.mono S3.below)).mono ?_; rintro e w4 ⟨rfl, hB4⟩; have S4 := S3.step hB4)
    | (go_at_call 27; refine (rsign_both r seed key mark _ HN0.out HN1.out S4.ref).mono ?_; rintro e w5 ⟨u, rfl, hu, hB5⟩; obtain ⟨ua, uc, rfl, -⟩ := hu.shape; have S5 := S4.step hB5; have Hu := Lib.hid hu; clear hu)
    | (go_at_call 28; refine (sign_both seed key mark _ HN0.out HN1.out (Hk.out.mono S5.below)).mono ?_; rintro e w6 ⟨x, ex, rfl, hx, hex, hB6⟩; obtain ⟨xa, xc, rfl, -⟩ := hx.shape; have S6 := S5.step hB6; have Hx := Lib.hid hx; have Hu6 := Lib.hid (Hu.out.mono hB6); clear hx)
    | (go_at_call 26; with_reducible refine (bare_same ex _ _ hex (He.out.mono S6.below)).mono ?_; rintro e w7 ⟨rfl, hB7⟩; have S7 := S6.step hB7)
    | (go_at_call 29; refine (same_any _ _ (signO seed key mark) _ (signO_le _ _ _) (Hx.out.mono hB7) (Hu6.out.mono hB7)).mono ?_; rintro e w8 ⟨rfl, hB8⟩; have S8 := S7.step hB8; have Hu8 := Lib.hid ((Hu6.out.mono hB7).mono hB8)))
  · go_ret
    exact ⟨rfl, hRefl⟩
  · have HU := Hu8.out
    have hLl := signO_le seed key mark
    generalize signO seed key mark = L at *
    obtain ⟨W, hW⟩ : ∃ W, W = w8.alloc (.cells #[.slice a0 n0 c0, .slice ua L.length uc] 22) := ⟨_, rfl⟩
    have d0 : W.cell? ⟨w8.heap.size, 0, none⟩ = some (.slice a0 n0 c0) := by rw [hW, cell_of_row _ _ _ _ _ _ (heap_alloc_new _ _)]; rfl
    have d1 : W.cell? ⟨w8.heap.size, 1, none⟩ = some (.slice ua L.length uc) := by rw [hW, cell_of_row _ _ _ _ _ _ (heap_alloc_new _ _)]; rfl
    have hb9 : Below w8.heap.size w8 W := by rw [hW]; exact (Below.refl _ _).alloc (Nat.le_refl _) _
    have hz9 : w8.heap.size < W.heap.size := by rw [hW]; simp
    have S9 := S8.step hb9
    have HU9 := Lib.hid (HU.mono hb9)
    have HV9 := Lib.hid (Hv.out.mono S9.below)
    rw [← hW]
    clear hW HU Hu8 Hu6 Hx Hu S1 S2 S3 S4 S5 S6 S7 S8 hB1 hB2 hB3 hB4 hB5 hB6 hB7 hB8 hb9 hev hex hR1 hr1 HS HM HL
    refine wp_loop_rounds 3 ?_
    rw [rounds_succ]
    go_wp2_with (first
      | (go_at_call 30; refine (rfrom_both r mark _ l _ hll HV9.out S9.ref).mono ?_; rintro e w1 ⟨rfl, hB1⟩; have S1 := S9.step hB1)
      | (go_at_call 31; refine (from_both mark _ l _ hll (HV9.out.mono hB1) (Hk.out.mono S1.below)).mono ?_; rintro e w2 ⟨ev, rfl, hev, hB2⟩; have S2 := S1.step hB2)
      | (go_at_call 26; refine (bare_same ev _ _ hev (He.out.mono S2.below)).mono ?_; rintro e w3 ⟨rfl, hB3⟩; have S3 := S2.step hB3))
    have hb3 : Below W.heap.size W w3 := (hB1.trans (hB2.mono hB1.size)).trans (hB3.mono (Nat.le_trans hB1.size hB2.size))
    have d3 : w3.cell? ⟨w8.heap.size, 1, none⟩ = some (.slice ua L.length uc) := by rw [hb3.cell (by exact hz9)]; exact d1
    have HU3 := Lib.hid (HU9.out.mono hb3)
    clear hb3 hB1 hB2 hB3 S1 S2 hev d0 d1 hz9 HU9
    rw [rounds_succ]
    go_wp2_with (first
      | (go_at_call 30; refine (rfrom_both r mark _ L _ hLl HU3.out S3.ref).mono ?_; rintro e w4 ⟨rfl, hB4⟩; have S4 := S3.step hB4)
      | (go_at_call 31; refine (from_both mark _ L _ hLl (HU3.out.mono hB4) (Hk.out.mono S4.below)).mono ?_; rintro e w5 ⟨ev5, rfl, hev5, hB5⟩; have S5 := S4.step hB5)
      | (go_at_call 26; refine (bare_same ev5 _ _ hev5 (He.out.mono S5.below)).mono ?_; rintro e w6 ⟨rfl, hB6⟩; have S6 := S5.step hB6))
    rw [rounds_succ]
    go_wp2_with fail
    go_ret
    exact ⟨rfl, S6.below⟩
end Go.Proofs.YtfhjnfocmlndpaaDoor
