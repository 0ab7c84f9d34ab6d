/- once, as the reference tells it: a chain's steps, digits, a key's public mark, its signature, what a signature leads to. -/
import Derived.Test.YtfhjnfocmlndpaaDoorSjRefSum
import Derived.Test.YtfhjnfocmlndpaaDoorSjOnceG
namespace Go.Proofs.YtfhjnfocmlndpaaDoor
open Go Go.RowKit Go.Proofs

theorem be64_drop (N k : Nat) (h : k < 8) : (be64 N).drop (8 - (k + 1)) = UInt8.ofNat (N / 256 ^ k) :: (be64 N).drop (8 - k) := by
  rw [List.drop_eq_getElem_cons (by rw [be64_length]; omega), show 8 - (k + 1) + 1 = 8 - k from by omega]
  congr 1
  simp only [be64, List.getElem_map, List.getElem_range]
  rw [show 7 - (8 - (k + 1)) = k from by omega]

set_option maxHeartbeats 1000000 in
theorem rnum_any (n : Int) (w : World) (_h0 : -9223372036854775808 ≤ n) (_h1 : n ≤ 9223372036854775807) :
    Calls Tryd.prog 20 #[.int .i64 n] w fun e w' => e = .returned (.string (numS n)) ∧ Below w.heap.size w w' := by
  obtain ⟨N, hN⟩ : ∃ N : Nat, IntKind.u64.wrap n = (N : Int) := ⟨(n % 18446744073709551616).toNat, by rw [IntKind.wrap_u64]; omega⟩
  have hNe : Hid (numL n = be64 N) := by
    unfold Hid numL
    congr 1
    rw [IntKind.wrap_u64] at hN
    omega
  have hNb : Hid (N < 18446744073709551616) := by
    unfold Hid
    rw [IntKind.wrap_u64] at hN
    omega
  clear _h0 _h1
  go_enter Tryd.func20, Tryd.ntmps20
  go_wp2_with fail
  go_loopw [3, 4, 7] (fun v u i wr => ∃ k : Nat, k ≤ 8 ∧ i = .int .i64 k ∧ u = .int .u64 ((N / 256 ^ k : Nat) : Int) ∧ v = .string ⟨((be64 N).drop (8 - k)).toArray⟩ ∧ Below w.heap.size w wr) (fun _ _ i _ => 8 - (intOf i).toNat)
  case atStart => exact ⟨0, by omega, rfl, by simp, by simp [be64], Below.refl _ _⟩
  case round =>
    obtain ⟨k, hk, rfl, rfl, rfl, hB⟩ := hrel
    have HB := Lib.hid hB
    have hbw := hB.size
    clear hB
    obtain ⟨d, hd⟩ : ∃ d, N / 256 ^ k = d := ⟨_, rfl⟩
    obtain ⟨dl, hdl⟩ : ∃ dl, (be64 N).drop (8 - k) = dl := ⟨_, rfl⟩
    have hdll : dl.length ≤ 8 := by rw [← hdl, List.length_drop, be64_length]; omega
    have hdb : d < 18446744073709551616 := by rw [← hd]; exact Nat.lt_of_le_of_lt (Nat.div_le_self _ _) hNb.out
    by_cases hlt : k < 8
    · have hsn : Hid ((be64 N).drop (8 - (k + 1)) = UInt8.ofNat d :: dl) := by unfold Hid; rw [be64_drop N k hlt, hd, hdl]
      have hnx : Hid (N / 256 ^ (k + 1) = d / 256) := by unfold Hid; rw [Nat.pow_succ, ← Nat.div_div_eq_div_mul, hd]
      rw [hd, hdl]
      clear hd hdl
      obtain ⟨b, hb⟩ : ∃ b : UInt8, b = UInt8.ofNat d := ⟨_, rfl⟩
      rw [← hb] at hsn
      have hc1 := fun W => string_lit1 W b
      have e1 : ((d : Int) % 256) = (b.toNat : Int) := by rw [hb, UInt8.toNat_ofNat']; omega
      have HB8 := Lib.hid hb
      clear hb
      have e2 : (k : Int) < 8 := by omega
      go_wp2_with fail
      go_roundw
      case rel =>
        refine ⟨k + 1, by omega, by go_num, by rw [hnx.out]; rfl, ?_, HB.out.alloc hbw _⟩
        rw [hsn.out]
        show Value.string (⟨[b].toArray⟩ ++ ⟨dl.toArray⟩) = _
        rw [bytes_app]; rfl
      case measure => simp [intOf]; omega
    · have e2 : ¬ (k : Int) < 8 := by omega
      have hd8 : decide (k < 8) = false := decide_eq_false hlt
      have hfin : Hid (be64 N = dl) := by unfold Hid; rw [← hdl, show 8 - k = 0 from by omega]; rfl
      rw [hd, hdl]
      clear hd hdl hlt
      go_wp2_with fail
      go_ret
      refine ⟨?_, HB.out⟩
      show Ending.returned (.string ⟨dl.toArray⟩) = _
      rw [numS, hNe.out, hfin.out]

set_option maxRecDepth 100000 in
set_option maxHeartbeats 1000000 in
theorem rmark_any (r : Nat) (c : UInt8) (v : Value) (l : List ByteArray) (w : World) (hr : RAt w r) (hv : Reads w v l.length 1 (l.map Value.string)) (hl : (markL c l).length ≤ 1000000000) :
    Calls Tryd.prog 22 #[.pointer (some ⟨r, 0, none⟩), .int .u8 (c.toNat : Int), v] w fun e w' => e = .returned (.string (markS c l)) ∧ Below w.heap.size w w' := by
  obtain ⟨a, cap, rfl⟩ : ∃ a cap, v = .slice a l.length cap := by
    rcases hv.2 with ⟨_, a, c, rfl⟩ | ⟨b, off, cap, rfl, _⟩
    · exact ⟨a, c, rfl⟩
    · exact ⟨_, cap, rfl⟩
  obtain ⟨n, hn⟩ : ∃ n, n = l.length := ⟨_, rfl⟩
  rw [← hn] at hv
  have hnl : n ≤ 1000000000 := by
    have : l.length ≤ (markL c l).length := by
      unfold markL
      have : ∀ l : List ByteArray, l.length ≤ (l.flatMap fun p => numL p.size ++ p.data.toList).length := by
        intro l
        induction l with
        | nil => exact Nat.le_refl _
        | cons x l ih => simp only [List.flatMap_cons, List.length_cons, List.length_append, numL_length]; omega
      simp only [List.length_cons]
      have := this l
      omega
    omega
  have Hv := Lib.hid hv
  have Hr := Lib.hid hr
  have Hl := Lib.hid hl
  have Hn := Lib.hid hn
  clear hv hr hl
  rw [← hn]
  clear hn
  go_enter Tryd.func22, Tryd.ntmps22
  have hc1 := fun W => string_lit1 W c
  go_wp2_with fail
  clear hc1
  go_loopw [7, 15] (fun t i wr => ∃ k : Nat, k ≤ n ∧ i = .int .i64 k ∧ t = .string ⟨(markTo c l k).toArray⟩ ∧ Below w.heap.size w wr) (fun _ i _ => n - (intOf i).toNat)
  case atStart => exact ⟨0, by omega, rfl, rfl, (Below.refl _ _).alloc (Nat.le_refl _) _⟩
  case round =>
    obtain ⟨k, hk, rfl, rfl, hB⟩ := hrel
    by_cases hlt : k < n
    · have hkl : k < l.length := by have := Hn.out; omega
      obtain ⟨p, hp⟩ : ∃ p, l[k]? = some p := ⟨l[k], List.getElem?_eq_getElem hkl⟩
      have hpe : l[k] = p := by rw [List.getElem?_eq_getElem hkl] at hp; exact Option.some.inj hp
      have hR := Hv.out.mono hB
      obtain ⟨b, off, hcell⟩ : ∃ b off, a = some ⟨b, off, none⟩ ∧ wr.cell? ⟨b, off + k, none⟩ = some (.string p) := by
        rcases hR.2 with ⟨h0, _⟩ | ⟨b, off, cap', he, hc⟩
        · have : l = [] := by simpa using h0
          rw [this] at hkl; simp at hkl
        · simp only [Value.slice.injEq] at he
          exact ⟨b, off, he.1, hc k _ (by simp [hp])⟩
      obtain ⟨rfl, hcell⟩ := hcell
      have hsn : Hid (markTo c l (k + 1) = markTo c l k ++ (numL p.size ++ p.data.toList)) := by unfold Hid; rw [markTo_snoc c l k hkl, hpe]
      have hle := Nat.le_trans (markL_le c l (k + 1)) Hl.out
      rw [hsn.out, List.length_append, List.length_append, numL_length] at hle
      have hps : p.size ≤ 1000000000 := by have : p.data.toList.length = p.size := by simp
                                           omega
      have hts : (markTo c l k).length ≤ 1000000000 := by omega
      have hns : (numS (p.size : Int)).size = 8 := numS_size _
      have HB := Lib.hid hB
      clear hB hp hpe hR hle
      go_wp2_with (go_at_call 20; refine (rnum_any _ _ (by omega) (by omega)).mono ?_; rintro e w1 ⟨rfl, hB1⟩)
      go_roundw
      case rel =>
        refine ⟨k + 1, by omega, by go_num, ?_, HB.out.trans (hB1.mono HB.out.size)⟩
        rw [hsn.out]
        have : (⟨(markTo c l k).toArray⟩ : ByteArray) ++ numS (p.size : Int) ++ p = ⟨(markTo c l k ++ (numL p.size ++ p.data.toList)).toArray⟩ := by
          rw [← bytes_app, ← bytes_app, bytes_self, ByteArray.append_assoc]; rfl
        rw [this]
      case measure => simp [intOf]; omega
    · have hge : n ≤ k := by omega
      have hd1 : decide (k < n) = false := decide_eq_false hlt
      have hfin : Hid (markTo c l k = markL c l) := by
        unfold Hid markTo
        rw [List.take_of_length_le (by have := Hn.out; omega)]
      have hms : (markTo c l k).length ≤ 1000000000 := by rw [hfin.out]; exact Hl.out
      obtain ⟨m, hm⟩ : ∃ m, m = markTo c l k := ⟨_, rfl⟩
      rw [← hm]
      have hss := sumS_size ⟨m.toArray⟩
      have hK := Lib.hid (rsum_any ⟨m.toArray⟩ r (by show m.toArray.size ≤ _; rw [List.size_toArray, hm]; exact hms) wr (Hr.out.below hB Hr.out.lt))
      have Hm := Lib.hid hm
      have HB := Lib.hid hB
      clear hm hms hB hlt
      go_wp2_with (go_at_call 16; refine hK.out.mono ?_; rintro e w1 ⟨rfl, hB1⟩)
      go_ret
      refine ⟨?_, HB.out.trans (hB1.mono HB.out.size)⟩
      show Ending.returned (.string ((sumS ⟨m.toArray⟩).extract 0 16)) = _
      rw [Hm.out, hfin.out, markS_is]
end Go.Proofs.YtfhjnfocmlndpaaDoor

namespace Go.Proofs.YtfhjnfocmlndpaaDoor
open Go Go.RowKit Go.Proofs

theorem rmark3 (r : Nat) (c : UInt8) (n : Int) (hn : n = (c.toNat : Int)) (p q s : ByteArray) (w : World) (hp : p.size ≤ 1000) (hq : q.size ≤ 1000) (hs : s.size ≤ 1000) (hr : RAt w r) :
    Calls Tryd.prog 22 #[.pointer (some ⟨r, 0, none⟩), .int .u8 n, .slice (some ⟨w.heap.size, 0, none⟩) 3 3] (w.alloc (.cells #[.string p, .string q, .string s] 9)) fun e w' => e = .returned (.string (markS c [p, q, s])) ∧ Below w.heap.size w w' := by
  subst hn
  have hb : Below w.heap.size w (w.alloc (.cells #[.string p, .string q, .string s] 9)) := (Below.refl _ _).alloc (Nat.le_refl _) _
  refine (rmark_any r c _ [p, q, s] _ (hr.below hb hr.lt) (Reads.lit w 9 3 1 [.string p, .string q, .string s] rfl) (small_mark c _ (show 3 ≤ 1000 by decide) ?_)).mono ?_
  · intro x hx
    simp only [List.mem_cons, List.not_mem_nil, or_false] at hx
    rcases hx with rfl | rfl | rfl <;> assumption
  · rintro e w' ⟨he, hb2⟩
    exact ⟨he, hb.trans (hb2.mono hb.size)⟩
theorem RAt.mono {w w' : World} {r : Nat} (h : RAt w r) (hb : Below w.heap.size w w') : RAt w' r := U32At.below h hb (U32At.lt h)

set_option maxHeartbeats 1000000 in
theorem along_any (r : Nat) (s : ByteArray) (c f t : Nat) (w : World) (hs : s.size ≤ 60) (hc : c ≤ 1000) (_hf : f ≤ 1000) (ht : t ≤ 1000) (hR : RAt w r) :
    Calls Tryd.prog 99 #[.pointer (some ⟨r, 0, none⟩), .string s, .int .i64 c, .int .i64 f, .int .i64 t] w fun e w' => e = .returned (.string (chainS s c f (t - f))) ∧ Below w.heap.size w w' := by
  have HR := Lib.hid hR
  clear hR
  go_enter Tryd.func99, Tryd.ntmps99
  go_wp2_with fail
  go_loopw [1, 11] (fun v i wr => ∃ n : Nat, n ≤ t - f ∧ i = .int .i64 ((f + n : Nat) : Int) ∧ v = .string (chainS s c f n) ∧ Below w.heap.size w wr) (fun _ i _ => t - (intOf i).toNat)
  case atStart => exact ⟨0, Nat.zero_le _, rfl, rfl, Below.refl _ _⟩
  case round =>
    obtain ⟨n, hn, rfl, rfl, hB⟩ := hrel
    have HB := Lib.hid hB
    obtain ⟨m, hm⟩ : ∃ m, m = f + n := ⟨_, rfl⟩
    have hsz := chainS_size s c f n hs
    obtain ⟨y, hy⟩ : ∃ y, y = chainS s c f n := ⟨_, rfl⟩
    rw [← hm, ← hy]
    rw [← hy] at hsz
    have HM := Lib.hid hm
    have HY := Lib.hid hy
    have hn1 := numS_size (c : Int)
    have hn2 := numS_size (m : Int)
    have hC := Below.refl wr.heap.size wr
    have HRw := Lib.hid (HR.out.mono hB)
    by_cases hlt : m < t
    · have e1 : (m : Int) < t := by omega
      clear hm hy hB
      go_wp2_with (first
        | (go_at_call 20; refine (rnum_any _ _ (by omega) (by omega)).mono ?_; rintro e w1 ⟨rfl, hB1⟩; have hC := hC.trans (hB1.mono hC.size))
        | (go_at_call 22; refine (rmark3 r 119 _ rfl _ _ _ _ (by omega) (by omega) (by omega) (HRw.out.mono hC)).mono ?_; rintro e w1 ⟨rfl, hB1⟩; have hC := hC.trans (hB1.mono hC.size)))
      go_roundw
      case rel => exact ⟨n + 1, by have := HM.out; omega, by have := HM.out; congr 1; omega, by rw [chainS, ← HM.out, ← HY.out]; rfl, HB.out.trans (hC.mono HB.out.size)⟩
      case measure => simp [intOf]; omega
    · have e1 : ¬ (m : Int) < t := by omega
      have hd1 : decide (m < t) = false := decide_eq_false hlt
      have hfin : Hid (chainS s c f (t - f) = y) := by unfold Hid; rw [hy, show t - f = n from by omega]
      clear hm hy hB hlt
      go_wp2_with fail
      go_ret
      exact ⟨by rw [hfin.out]; rfl, HB.out⟩

set_option maxRecDepth 100000 in
set_option maxHeartbeats 2000000 in
theorem rdigits_any (s : ByteArray) (hs : s.size ≤ 1000) (w : World) : Calls Tryd.prog 103 #[.string s] w (DigitsPost w s) := by
  go_enter Tryd.func103, Tryd.ntmps103
  go_wp2_with fail
  go_loopw [3, 4, 10] (fun v a i wr => ∃ k L : Nat, k ≤ s.size ∧ i = .int .i64 k ∧ a = .int .i64 L ∧ L = lackL (s.data.toList.take k) ∧ Own wr w.heap.size 3 1 v (2 * k) (ic (digL (s.data.toList.take k))) ∧ Below w.heap.size w wr) (fun _ _ i _ => s.size - (intOf i).toNat)
  case atStart => exact ⟨0, 0, Nat.zero_le _, rfl, rfl, rfl, Own.nil _ _ _ _, Below.refl _ _⟩
  case round =>
    obtain ⟨k, L, hk, rfl, rfl, hL, hO, hB⟩ := hrel
    have HB := Lib.hid hB
    have HO := Lib.hid hO
    have HL := Lib.hid hL
    have hbw := hB.size
    have hL1 : L ≤ 30000 := by
      have := lackL_le (s.data.toList.take k)
      rw [List.length_take] at this
      omega
    clear hL hO hB
    by_cases hlt : k < s.size
    · have hkl : k < s.data.toList.length := by simpa using hlt
      obtain ⟨c, hc⟩ : ∃ c, s.data.toList[k]? = some c := ⟨_, List.getElem?_eq_getElem hkl⟩
      have hsn : Hid (digL (s.data.toList.take (k + 1)) = digL (s.data.toList.take k) ++ [c.toNat / 16] ++ [c.toNat % 16]) := digL_snoc _ k c hc
      have hln : Hid (lackL (s.data.toList.take (k + 1)) = lackL (s.data.toList.take k) + (30 - c.toNat / 16 - c.toNat % 16)) := lackL_snoc _ k c hc
      have hsk : s[k] = c := by
        have := (List.getElem?_eq_some_iff.1 hc).2
        rw [← this]; rfl
      have hx2 : c.toNat < 256 := c.toNat_lt
      obtain ⟨hi, hhi⟩ : ∃ hi, hi = c.toNat / 16 := ⟨_, rfl⟩
      obtain ⟨lo, hlo⟩ : ∃ lo, lo = c.toNat % 16 := ⟨_, rfl⟩
      have e1 : ((c.toNat : Int) / 16) = (hi : Int) := by omega
      have e2 : ((c.toNat : Int) % 16) = (lo : Int) := by omega
      have l1 : hi ≤ 15 := by omega
      have l2 : lo ≤ 15 := by omega
      rw [← hhi, ← hlo] at hsn hln
      generalize hmm : digL (s.data.toList.take k) = m at *
      have HHI := Lib.hid hhi
      have HLO := Lib.hid hlo
      clear hhi hlo hc hmm
      have e3 : (k : Int) < s.size := by omega
      go_wp2_with fail
      go_quiet (fail)
      have HO2 : Hid (Own (wr.drewN nq) w.heap.size 3 1 u3 (2 * k) (ic m)) := HO.out
      have HB2 : Hid (Below w.heap.size w (wr.drewN nq)) := belowN HB.out nq
      have hbw2 : w.heap.size ≤ (wr.drewN nq).heap.size := hbw
      generalize wr.drewN nq = wq at *
      go_wp2_with (first | (at_builtin; refine app_lit rfl _ _ 141 rfl w.heap.size 3 (.int .i64 0) 1 8 u_ints i_int rfl (by decide) _ _ _ rfl HO2.out 2 _ rfl rfl (by intro u hu; simp at hu; rcases hu with rfl | rfl <;> rfl) (by omega) (by omega) hbw2 ?_; intro v1 w1 hown1 hgrow1))
      have hrow1 : ∀ j, u3.ownBlock = some j → w.heap.size ≤ j := fun j hj => (HO2.out.lt j hj).1
      have HC1 := Lib.hid (HB2.out.grown hgrow1 hbw2 hrow1)
      go_roundw
      case rel =>
        refine ⟨k + 1, L + (30 - hi - lo), hlt, by go_num, by congr 1; omega, by rw [hln.out, ← HL.out], ?_, HC1.out⟩
        rw [hsn.out, List.append_assoc]
        unfold ic
        rw [List.map_append]
        exact hown1
      case measure => simp [intOf]; omega
    · have e3 : ¬ (k : Int) < s.size := by omega
      have hfl : s.data.toList.take k = s.data.toList := List.take_of_length_le (by simp; omega)
      have hk2 : k = s.size := by omega
      rw [hfl] at HO HL
      obtain ⟨a, ha⟩ : ∃ a, a = L / 256 := ⟨_, rfl⟩
      obtain ⟨b, hb⟩ : ∃ b, b = L / 16 % 16 := ⟨_, rfl⟩
      obtain ⟨b0, hb0⟩ : ∃ b0, b0 = L / 16 := ⟨_, rfl⟩
      obtain ⟨d, hd⟩ : ∃ d, d = L % 16 := ⟨_, rfl⟩
      have f1 : (L : Int) / 256 = (a : Int) := by omega
      have f2 : (L : Int) / 16 = (b0 : Int) := by omega
      have f3 : (b0 : Int) % 16 = (b : Int) := by omega
      have f4 : (L : Int) % 16 = (d : Int) := by omega
      have HA := Lib.hid ha
      have HBb := Lib.hid hb
      have HD := Lib.hid hd
      have HK2 := Lib.hid hk2
      clear ha hb hb0 hd hfl hk2 hlt
      go_wp2_with (first | (at_builtin; refine app_lit rfl _ _ 141 rfl w.heap.size 3 (.int .i64 0) 1 8 u_ints i_int rfl (by decide) _ _ _ rfl HO.out 3 _ rfl rfl (by intro u hu; simp at hu; rcases hu with rfl | rfl | rfl <;> rfl) (by omega) (by omega) hbw ?_; intro v1 w1 hown1 hgrow1))
      have hrow1 : ∀ j, u3.ownBlock = some j → w.heap.size ≤ j := fun j hj => (HO.out.lt j hj).1
      go_ret
      refine ⟨v1, rfl, ?_, HB.out.grown hgrow1 hbw hrow1⟩
      rw [← HK2.out]
      unfold digitsL ic
      rw [List.map_append, ← HL.out, ← HA.out, ← HBb.out, ← HD.out]
      exact hown1
end Go.Proofs.YtfhjnfocmlndpaaDoor
