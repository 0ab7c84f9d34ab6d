/- The law SumTells: it returns true. -/
import Derived.Test.YtfhjnfocmlndpaaDoorSjOnceR
import Derived.Test.YtfhjnfocmlndpaaDoorSjFmt
namespace Go.Proofs.YtfhjnfocmlndpaaDoor
open Go Go.RowKit Go.Proofs

theorem long_any (p : ByteArray) (w : World) : Calls Tryd.prog 23 #[.string p] w fun e w' => e = .returned (.bool (decide (60 < (p.size : Int)))) ∧ w' = w := by
  go_enter Tryd.func23, Tryd.ntmps23
  go_wp2_with fail
  go_ret
  exact ⟨rfl, rfl⟩

def LongsPost (l : List ByteArray) (w : World) (e : Ending) (w' : World) : Prop := ∃ b, e = .returned (.bool b) ∧ w' = w ∧ (b = false → l.length ≤ 140 ∧ ∀ p ∈ l, p.size ≤ 60)
theorem longs_any (v : Value) (l : List ByteArray) (w : World) (hv : Reads w v l.length 1 (l.map Value.string)) : Calls Tryd.prog 13 #[v] w (LongsPost l w) := by
  obtain ⟨a, cap, rfl⟩ : ∃ a cap, v = .slice a l.length cap := by
    rcases hv.2 with ⟨_, a, c, rfl⟩ | ⟨b, off, cap, rfl, _⟩
    · exact ⟨a, c, rfl⟩
    · exact ⟨_, cap, rfl⟩
  obtain ⟨n, hn⟩ : ∃ n, n = l.length := ⟨_, rfl⟩
  rw [← hn] at hv
  have Hv := Lib.hid hv
  have Hn := Lib.hid hn
  rw [← hn]
  clear hn hv
  by_cases h140 : 140 < n
  · have e1 : (140 : Int) < n := by omega
    go_enter Tryd.func13, Tryd.ntmps13
    go_wp2_with fail
    go_ret
    exact ⟨true, rfl, rfl, fun h => by cases h⟩
  · have e1 : ¬ (140 : Int) < n := by omega
    go_enter Tryd.func13, Tryd.ntmps13
    go_wp2_with fail
    go_loopw [3] (fun i wr => ∃ k : Nat, k ≤ n ∧ i = .int .i64 k ∧ wr = w ∧ ∀ p ∈ l.take k, p.size ≤ 60) (fun i _ => n - (intOf i).toNat)
    case atStart => exact ⟨0, Nat.zero_le _, rfl, rfl, by simp⟩
    case round =>
      obtain ⟨k, hk, rfl, rfl, hall⟩ := hrel
      have HA := Lib.hid hall
      clear hall
      by_cases hlt : k < n
      · have hkl : k < l.length := by have := Hn.out; omega
        obtain ⟨p, hp⟩ : ∃ p, l[k]? = some p := ⟨l[k], List.getElem?_eq_getElem hkl⟩
        obtain ⟨b, off, hcell⟩ : ∃ b off, a = some ⟨b, off, none⟩ ∧ wr.cell? ⟨b, off + k, none⟩ = some (.string p) := by
          rcases Hv.out.2 with ⟨h0, _⟩ | ⟨b, off, cap', he, hc⟩
          · have : l = [] := by simpa using h0
            rw [this] at hkl; simp at hkl
          · simp only [Value.slice.injEq] at he
            exact ⟨b, off, he.1, hc k _ (by simp [hp])⟩
        obtain ⟨rfl, hcell⟩ := hcell
        have HP := Lib.hid hp
        clear hp
        by_cases h60 : 60 < p.size
        · have e2 : (60 : Int) < p.size := by omega
          have hL : Calls Tryd.prog 23 #[.string p] wr fun e w' => e = .returned (.bool true) ∧ w' = wr := by
            refine (long_any p wr).mono ?_
            rintro e w' ⟨rfl, rfl⟩
            exact ⟨by rw [decide_eq_true e2], rfl⟩
          have HL := Lib.hid hL
          clear hL
          go_wp2_with (go_at_call 23; refine HL.out.mono ?_; rintro e w1 ⟨rfl, rfl⟩)
          go_ret
          exact ⟨true, rfl, rfl, fun h => by cases h⟩
        · have e2 : ¬ (60 : Int) < p.size := by omega
          have hL : Calls Tryd.prog 23 #[.string p] wr fun e w' => e = .returned (.bool false) ∧ w' = wr := by
            refine (long_any p wr).mono ?_
            rintro e w' ⟨rfl, rfl⟩
            exact ⟨by rw [decide_eq_false e2], rfl⟩
          have HL := Lib.hid hL
          clear hL
          go_wp2_with (go_at_call 23; refine HL.out.mono ?_; rintro e w1 ⟨rfl, rfl⟩)
          go_roundw
          case rel =>
            refine ⟨k + 1, by omega, by go_num, by first | rfl | trivial, ?_⟩
            intro q hq
            rw [List.take_succ_eq_append_getElem hkl, List.mem_append] at hq
            rcases hq with hq | hq
            · exact HA.out q hq
            · have : q = p := by
                have h1 := HP.out
                rw [List.getElem?_eq_getElem hkl] at h1
                simp at hq
                rw [hq]; exact Option.some.inj h1
              rw [this]; omega
          case measure => simp [intOf]; omega
      · have hge : n ≤ k := by omega
        have hd1 : decide (k < n) = false := decide_eq_false hlt
        go_wp2_with fail
        go_ret
        refine ⟨false, rfl, rfl, fun _ => ⟨by have := Hn.out; omega, ?_⟩⟩
        have := HA.out
        rwa [List.take_of_length_le (by have := Hn.out; omega)] at this

theorem markL_small (c : UInt8) (l : List ByteArray) (h1 : l.length ≤ 140) (h2 : ∀ p ∈ l, p.size ≤ 60) : (markL c l).length ≤ 1000000000 := by
  have : ∀ l : List ByteArray, (∀ p ∈ l, p.size ≤ 60) → (l.flatMap fun p => numL p.size ++ p.data.toList).length ≤ 68 * l.length := by
    intro l
    induction l with
    | nil => intro _; simp
    | cons x l ih =>
      intro h
      have h3 := ih (fun p hp => h p (List.mem_cons_of_mem _ hp))
      have h4 := h x List.mem_cons_self
      have h5 : x.data.toList.length = x.size := by simp
      simp only [List.flatMap_cons, List.length_cons, List.length_append, numL_length]
      omega
  have h3 := this l h2
  unfold markL
  simp only [List.length_cons]
  omega

set_option maxRecDepth 100000 in
set_option maxHeartbeats 2000000 in
theorem law_sumTells (s : ByteArray) (n : Int) (c : UInt8) (v : Value) (l : List ByteArray) (w : World) (h0 : -9223372036854775808 ≤ n) (h1 : n ≤ 9223372036854775807) (hv : Reads w v l.length 1 (l.map Value.string))
    (hk : KAt w 0) (ht : TAt w) :
    Calls Tryd.prog 3 #[.string s, .int .i64 n, .int .u8 (c.toNat : Int), v] w fun e w' => e = .returned (.bool true) ∧ Below w.heap.size w w' := by
  by_cases hs : 400 < s.size
  · have e1 : (400 : Int) < s.size := by omega
    go_enter Tryd.func3, Tryd.ntmps3
    go_wp2_with fail
    go_ret
    exact ⟨rfl, Below.refl _ _⟩
  · have e1 : ¬ (400 : Int) < s.size := by omega
    have Hv := Lib.hid hv
    have Hk := Lib.hid hk
    have Ht := Lib.hid ht
    have hsz : s.size ≤ 1000000000 := by omega
    by_cases hl : l.length ≤ 140 ∧ ∀ p ∈ l, p.size ≤ 60
    · have HM := Lib.hid (markL_small c l hl.1 hl.2)
      have HN0 := Lib.hid h0
      have HN1 := Lib.hid h1
      have hRefl := Below.refl w.heap.size w
      clear hv hk ht hl h0 h1
      go_enter Tryd.func3, Tryd.ntmps3
      go_wp2_with (first
        | (go_at_call 13; refine (longs_any _ _ _ Hv.out).mono ?_; rintro e w1 ⟨b, rfl, rfl, hb⟩; clear hb)
        | (go_at_call 14; refine (new_any _).mono ?_; rintro e w1 ⟨r, rfl, hR1, hr1, hB1⟩)
        | (go_at_call 15; refine (sum_any s hsz _ (Hk.out.mono hB1)).mono ?_; rintro e w2 ⟨rfl, hB2⟩; have hC2 := hB1.trans (hB2.mono hB1.size); have hR2 := hR1.below hB2 hR1.lt)
        | (go_at_call 16; refine (rsum_any s r hsz _ hR2).mono ?_; rintro e w3 ⟨rfl, hB3⟩; have hC3 := hC2.trans (hB3.mono hC2.size); have hR3 := hR2.below hB3 hR2.lt)
        | (go_at_call 17; refine (hex_any s hsz _).mono ?_; rintro e w4 ⟨rfl, hB4⟩; have hC4 := hC3.trans (hB4.mono hC3.size); have hR4 := hR3.below hB4 hR3.lt)
        | (go_at_call 18; refine (rhex_any s hsz _ (Ht.out.mono hC4)).mono ?_; rintro e w5 ⟨rfl, hB5⟩; have hC5 := hC4.trans (hB5.mono hC4.size); have hR5 := hR4.below hB5 hR4.lt)
        | (go_at_call 19; refine (num_any n _ HN0.out HN1.out).mono ?_; rintro e w6 ⟨rfl, hB6⟩; have hC6 := hC5.trans (hB6.mono hC5.size); have hR6 := hR5.below hB6 hR5.lt)
        | (go_at_call 20; refine (rnum_any n _ HN0.out HN1.out).mono ?_; rintro e w7 ⟨rfl, hB7⟩; have hC7 := hC6.trans (hB7.mono hC6.size); have hR7 := hR6.below hB7 hR6.lt)
        | (go_at_call 21; refine (mark_any c v l _ (Hv.out.mono hC7) HM.out (Hk.out.mono hC7)).mono ?_; rintro e w8 ⟨rfl, hB8⟩; have hC8 := hC7.trans (hB8.mono hC7.size); have hR8 := hR7.below hB8 hR7.lt)
        | (go_at_call 22; refine (rmark_any r c v l _ hR8 (Hv.out.mono hC8) HM.out).mono ?_; rintro e w9 ⟨rfl, hB9⟩; have hC9 := hC8.trans (hB9.mono hC8.size)))
      all_goals go_ret
      · exact ⟨rfl, hRefl⟩
      · exact ⟨rfl, hC9⟩
    · clear hv hk ht
      go_enter Tryd.func3, Tryd.ntmps3
      go_wp2_with (go_at_call 13; refine (longs_any _ _ _ Hv.out).mono ?_; rintro e w1 ⟨b, rfl, rfl, hb⟩; obtain rfl : b = true := (by cases b with | true => rfl | false => exact absurd (hb rfl) hl))
      go_ret
      exact ⟨rfl, Below.refl _ _⟩
end Go.Proofs.YtfhjnfocmlndpaaDoor
