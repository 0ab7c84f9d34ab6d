/- once, as the reference tells it: a chain's steps, digits, a key's public mark, its signature, what a signature leads to. -/
import Derived.Test.YtfhjnfocmlndpaaDoorOnceG
import Derived.Test.YtfhjnfocmlndpaaDoorRefMark
namespace Go.Proofs.YtfhjnfocmlndpaaDoor
open Go Go.RowKit Go.Proofs

theorem rmark3 (r : Nat) (c : UInt8) (n : Int) (hn : n = (c.toNat : Int)) (p q s : ByteArray) (w : World) (hp : p.size ≤ 1000) (hq : q.size ≤ 1000) (hs : s.size ≤ 1000) (hr : RAt w r) :
    Calls Tryd.prog 22 #[.pointer (some ⟨r, 0, none⟩), .int .u8 n, .slice (some ⟨w.heap.size, 0, none⟩) 3 3] (w.alloc (.cells #[.string p, .string q, .string s] 9)) fun e w' => e = .returned (.string (markS c [p, q, s])) ∧ Below w.heap.size w w' := by
  subst hn
  have hb : Below w.heap.size w (w.alloc (.cells #[.string p, .string q, .string s] 9)) := (Below.refl _ _).alloc (Nat.le_refl _) _
  refine (rmark_any r c _ [p, q, s] _ (hr.below hb hr.lt) (Reads.lit w 9 3 1 [.string p, .string q, .string s] rfl) (small_mark c _ (show 3 ≤ 1000 by decide) ?_)).mono ?_
  · intro x hx
    simp only [List.mem_cons, List.not_mem_nil, or_false] at hx
    rcases hx with rfl | rfl | rfl <;> assumption
  · rintro e w' ⟨he, hb2⟩
    exact ⟨he, hb.trans (hb2.mono hb.size)⟩
theorem RAt.mono {w w' : World} {r : Nat} (h : RAt w r) (hb : Below w.heap.size w w') : RAt w' r := U32At.below h hb (U32At.lt h)

set_option maxHeartbeats 1000000 in
theorem along_any (r : Nat) (s : ByteArray) (c f t : Nat) (w : World) (hs : s.size ≤ 60) (hc : c ≤ 1000) (_hf : f ≤ 1000) (ht : t ≤ 1000) (hR : RAt w r) :
    Calls Tryd.prog 99 #[.pointer (some ⟨r, 0, none⟩), .string s, .int .i64 c, .int .i64 f, .int .i64 t] w fun e w' => e = .returned (.string (chainS s c f (t - f))) ∧ Below w.heap.size w w' := by
  have HR := Lib.hid hR
  clear hR
  go_enter Tryd.func99, Tryd.ntmps99
  go_wp2_with fail
  go_loopw [1, 11] (fun v i wr => ∃ n : Nat, n ≤ t - f ∧ i = .int .i64 ((f + n : Nat) : Int) ∧ v = .string (chainS s c f n) ∧ Below w.heap.size w wr) (fun _ i _ => t - (intOf i).toNat)
  case atStart => exact ⟨0, Nat.zero_le _, rfl, rfl, Below.refl _ _⟩
  case round =>
    obtain ⟨n, hn, rfl, rfl, hB⟩ := hrel
    have HB := Lib.hid hB
    obtain ⟨m, hm⟩ : ∃ m, m = f + n := ⟨_, rfl⟩
    have hsz := chainS_size s c f n hs
    obtain ⟨y, hy⟩ : ∃ y, y = chainS s c f n := ⟨_, rfl⟩
    rw [← hm, ← hy]
    rw [← hy] at hsz
    have HM := Lib.hid hm
    have HY := Lib.hid hy
    have hn1 := numS_size (c : Int)
    have hn2 := numS_size (m : Int)
    have hC := Below.refl wr.heap.size wr
    have HRw := Lib.hid (HR.out.mono hB)
    by_cases hlt : m < t
    · have e1 : (m : Int) < t := by omega
      clear hm hy hB
      go_wp2_with (first
        | (go_at_call 20; refine (rnum_any _ _ (by omega) (by omega)).mono ?_; rintro e w1 ⟨rfl, hB1⟩; have hC := hC.trans (hB1.mono hC.size))
        | (go_at_call 22; refine (rmark3 r 119 _ rfl _ _ _ _ (by omega) (by omega) (by omega) (HRw.out.mono hC)).mono ?_; rintro e w1 ⟨rfl, hB1⟩; have hC := hC.trans (hB1.mono hC.size)))
      go_roundw
      case rel => exact ⟨n + 1, by have := HM.out; omega, by have := HM.out; congr 1; omega, by rw [chainS, ← HM.out, ← HY.out]; rfl, HB.out.trans (hC.mono HB.out.size)⟩
      case measure => simp [intOf]; omega
    · have e1 : ¬ (m : Int) < t := by omega
      have hd1 : decide (m < t) = false := decide_eq_false hlt
      have hfin : Hid (chainS s c f (t - f) = y) := by unfold Hid; rw [hy, show t - f = n from by omega]
      clear hm hy hB hlt
      go_wp2_with fail
      go_ret
      exact ⟨by rw [hfin.out]; rfl, HB.out⟩

set_option maxRecDepth 100000 in
set_option maxHeartbeats 2000000 in
theorem rdigits_any (s : ByteArray) (hs : s.size ≤ 1000) (w : World) : Calls Tryd.prog 103 #[.string s] w (DigitsPost w s) := by
  go_enter Tryd.func103, Tryd.ntmps103
  go_wp2_with fail
  go_loopw [3, 4, 10] (fun v a i wr => ∃ k L : Nat, k ≤ s.size ∧ i = .int .i64 k ∧ a = .int .i64 L ∧ L = lackL (s.data.toList.take k) ∧ Own wr w.heap.size 3 1 v (2 * k) (ic (digL (s.data.toList.take k))) ∧ Below w.heap.size w wr) (fun _ _ i _ => s.size - (intOf i).toNat)
  case atStart => exact ⟨0, 0, Nat.zero_le _, rfl, rfl, rfl, Own.nil _ _ _ _, Below.refl _ _⟩
  case round =>
    obtain ⟨k, L, hk, rfl, rfl, hL, hO, hB⟩ := hrel
    have HB := Lib.hid hB
    have HO := Lib.hid hO
    have HL := Lib.hid hL
    have hbw := hB.size
    have hL1 : L ≤ 30000 := by
      have := lackL_le (s.data.toList.take k)
      rw [List.length_take] at this
      omega
    clear hL hO hB
    by_cases hlt : k < s.size
    · have hkl : k < s.data.toList.length := by simpa using hlt
      obtain ⟨c, hc⟩ : ∃ c, s.data.toList[k]? = some c := ⟨_, List.getElem?_eq_getElem hkl⟩
      have hsn : Hid (digL (s.data.toList.take (k + 1)) = digL (s.data.toList.take k) ++ [c.toNat / 16] ++ [c.toNat % 16]) := digL_snoc _ k c hc
      have hln : Hid (lackL (s.data.toList.take (k + 1)) = lackL (s.data.toList.take k) + (30 - c.toNat / 16 - c.toNat % 16)) := lackL_snoc _ k c hc
      have hsk : s[k] = c := by
        have := (List.getElem?_eq_some_iff.1 hc).2
        rw [← this]; rfl
      have hx2 : c.toNat < 256 := c.toNat_lt
      obtain ⟨hi, hhi⟩ : ∃ hi, hi = c.toNat / 16 := ⟨_, rfl⟩
      obtain ⟨lo, hlo⟩ : ∃ lo, lo = c.toNat % 16 := ⟨_, rfl⟩
      have e1 : ((c.toNat : Int) / 16) = (hi : Int) := by omega
      have e2 : ((c.toNat : Int) % 16) = (lo : Int) := by omega
      have l1 : hi ≤ 15 := by omega
      have l2 : lo ≤ 15 := by omega
      rw [← hhi, ← hlo] at hsn hln
      generalize hmm : digL (s.data.toList.take k) = m at *
      have HHI := Lib.hid hhi
      have HLO := Lib.hid hlo
      clear hhi hlo hc hmm
      have e3 : (k : Int) < s.size := by omega
      go_wp2_with fail
      go_quiet (fail)
      have HO2 : Hid (Own (wr.drewN nq) w.heap.size 3 1 u3 (2 * k) (ic m)) := HO.out
      have HB2 : Hid (Below w.heap.size w (wr.drewN nq)) := belowN HB.out nq
      have hbw2 : w.heap.size ≤ (wr.drewN nq).heap.size := hbw
      generalize wr.drewN nq = wq at *
      go_wp2_with (first | (at_builtin; refine app_lit rfl _ _ 141 rfl w.heap.size 3 (.int .i64 0) 1 8 u_ints i_int rfl (by decide) _ _ _ rfl HO2.out 2 _ rfl rfl (by intro u hu; simp at hu; rcases hu with rfl | rfl <;> rfl) (by omega) (by omega) hbw2 ?_; intro v1 w1 hown1 hgrow1))
      have hrow1 : ∀ j, u3.ownBlock = some j → w.heap.size ≤ j := fun j hj => (HO2.out.lt j hj).1
      have HC1 := Lib.hid (HB2.out.grown hgrow1 hbw2 hrow1)
      go_roundw
      case rel =>
        refine ⟨k + 1, L + (30 - hi - lo), hlt, by go_num, by congr 1; omega, by rw [hln.out, ← HL.out], ?_, HC1.out⟩
        rw [hsn.out, List.append_assoc]
        unfold ic
        rw [List.map_append]
        exact hown1
      case measure => simp [intOf]; omega
    · have e3 : ¬ (k : Int) < s.size := by omega
      have hfl : s.data.toList.take k = s.data.toList := List.take_of_length_le (by simp; omega)
      have hk2 : k = s.size := by omega
      rw [hfl] at HO HL
      obtain ⟨a, ha⟩ : ∃ a, a = L / 256 := ⟨_, rfl⟩
      obtain ⟨b, hb⟩ : ∃ b, b = L / 16 % 16 := ⟨_, rfl⟩
      obtain ⟨b0, hb0⟩ : ∃ b0, b0 = L / 16 := ⟨_, rfl⟩
      obtain ⟨d, hd⟩ : ∃ d, d = L % 16 := ⟨_, rfl⟩
      have f1 : (L : Int) / 256 = (a : Int) := by omega
      have f2 : (L : Int) / 16 = (b0 : Int) := by omega
      have f3 : (b0 : Int) % 16 = (b : Int) := by omega
      have f4 : (L : Int) % 16 = (d : Int) := by omega
      have HA := Lib.hid ha
      have HBb := Lib.hid hb
      have HD := Lib.hid hd
      have HK2 := Lib.hid hk2
      clear ha hb hb0 hd hfl hk2 hlt
      go_wp2_with (first | (at_builtin; refine app_lit rfl _ _ 141 rfl w.heap.size 3 (.int .i64 0) 1 8 u_ints i_int rfl (by decide) _ _ _ rfl HO.out 3 _ rfl rfl (by intro u hu; simp at hu; rcases hu with rfl | rfl | rfl <;> rfl) (by omega) (by omega) hbw ?_; intro v1 w1 hown1 hgrow1))
      have hrow1 : ∀ j, u3.ownBlock = some j → w.heap.size ≤ j := fun j hj => (HO.out.lt j hj).1
      go_ret
      refine ⟨v1, rfl, ?_, HB.out.grown hgrow1 hbw hrow1⟩
      rw [← HK2.out]
      unfold digitsL ic
      rw [List.map_append, ← HL.out, ← HA.out, ← HBb.out, ← HD.out]
      exact hown1
end Go.Proofs.YtfhjnfocmlndpaaDoor
