/- The reference's Num and Mark, and both Hex: what they compute is numS, markS, hexS. -/
import Derived.Test.YtfhjnfocmlndpaaDoorRefSum
namespace Go.Proofs.YtfhjnfocmlndpaaDoor
open Go Go.RowKit Go.Proofs

theorem be64_drop (N k : Nat) (h : k < 8) : (be64 N).drop (8 - (k + 1)) = UInt8.ofNat (N / 256 ^ k) :: (be64 N).drop (8 - k) := by
  rw [List.drop_eq_getElem_cons (by rw [be64_length]; omega), show 8 - (k + 1) + 1 = 8 - k from by omega]
  congr 1
  simp only [be64, List.getElem_map, List.getElem_range]
  rw [show 7 - (8 - (k + 1)) = k from by omega]

set_option maxHeartbeats 1000000 in
theorem rnum_any (n : Int) (w : World) (_h0 : -9223372036854775808 ≤ n) (_h1 : n ≤ 9223372036854775807) :
    Calls Tryd.prog 20 #[.int .i64 n] w fun e w' => e = .returned (.string (numS n)) ∧ Below w.heap.size w w' := by
  obtain ⟨N, hN⟩ : ∃ N : Nat, IntKind.u64.wrap n = (N : Int) := ⟨(n % 18446744073709551616).toNat, by rw [IntKind.wrap_u64]; omega⟩
  have hNe : Hid (numL n = be64 N) := by
    unfold Hid numL
    congr 1
    rw [IntKind.wrap_u64] at hN
    omega
  have hNb : Hid (N < 18446744073709551616) := by
    unfold Hid
    rw [IntKind.wrap_u64] at hN
    omega
  clear _h0 _h1
  go_enter Tryd.func20, Tryd.ntmps20
  go_wp2_with fail
  go_loopw [3, 4, 7] (fun v u i wr => ∃ k : Nat, k ≤ 8 ∧ i = .int .i64 k ∧ u = .int .u64 ((N / 256 ^ k : Nat) : Int) ∧ v = .string ⟨((be64 N).drop (8 - k)).toArray⟩ ∧ Below w.heap.size w wr) (fun _ _ i _ => 8 - (intOf i).toNat)
  case atStart => exact ⟨0, by omega, rfl, by simp, by simp [be64], Below.refl _ _⟩
  case round =>
    obtain ⟨k, hk, rfl, rfl, rfl, hB⟩ := hrel
    have HB := Lib.hid hB
    have hbw := hB.size
    clear hB
    obtain ⟨d, hd⟩ : ∃ d, N / 256 ^ k = d := ⟨_, rfl⟩
    obtain ⟨dl, hdl⟩ : ∃ dl, (be64 N).drop (8 - k) = dl := ⟨_, rfl⟩
    have hdll : dl.length ≤ 8 := by rw [← hdl, List.length_drop, be64_length]; omega
    have hdb : d < 18446744073709551616 := by rw [← hd]; exact Nat.lt_of_le_of_lt (Nat.div_le_self _ _) hNb.out
    by_cases hlt : k < 8
    · have hsn : Hid ((be64 N).drop (8 - (k + 1)) = UInt8.ofNat d :: dl) := by unfold Hid; rw [be64_drop N k hlt, hd, hdl]
      have hnx : Hid (N / 256 ^ (k + 1) = d / 256) := by unfold Hid; rw [Nat.pow_succ, ← Nat.div_div_eq_div_mul, hd]
      rw [hd, hdl]
      clear hd hdl
      obtain ⟨b, hb⟩ : ∃ b : UInt8, b = UInt8.ofNat d := ⟨_, rfl⟩
      rw [← hb] at hsn
      have hc1 := fun W => string_lit1 W b
      have e1 : ((d : Int) % 256) = (b.toNat : Int) := by rw [hb, UInt8.toNat_ofNat']; omega
      have HB8 := Lib.hid hb
      clear hb
      have e2 : (k : Int) < 8 := by omega
      go_wp2_with fail
      go_roundw
      case rel =>
        refine ⟨k + 1, by omega, by go_num, by rw [hnx.out]; rfl, ?_, HB.out.alloc hbw _⟩
        rw [hsn.out]
        show Value.string (⟨[b].toArray⟩ ++ ⟨dl.toArray⟩) = _
        rw [bytes_app]; rfl
      case measure => simp [intOf]; omega
    · have e2 : ¬ (k : Int) < 8 := by omega
      have hd8 : decide (k < 8) = false := decide_eq_false hlt
      have hfin : Hid (be64 N = dl) := by unfold Hid; rw [← hdl, show 8 - k = 0 from by omega]; rfl
      rw [hd, hdl]
      clear hd hdl hlt
      go_wp2_with fail
      go_ret
      refine ⟨?_, HB.out⟩
      show Ending.returned (.string ⟨dl.toArray⟩) = _
      rw [numS, hNe.out, hfin.out]

set_option maxRecDepth 100000 in
set_option maxHeartbeats 1000000 in
theorem rmark_any (r : Nat) (c : UInt8) (v : Value) (l : List ByteArray) (w : World) (hr : RAt w r) (hv : Reads w v l.length 1 (l.map Value.string)) (hl : (markL c l).length ≤ 1000000000) :
    Calls Tryd.prog 22 #[.pointer (some ⟨r, 0, none⟩), .int .u8 (c.toNat : Int), v] w fun e w' => e = .returned (.string (markS c l)) ∧ Below w.heap.size w w' := by
  obtain ⟨a, cap, rfl⟩ : ∃ a cap, v = .slice a l.length cap := by
    rcases hv.2 with ⟨_, a, c, rfl⟩ | ⟨b, off, cap, rfl, _⟩
    · exact ⟨a, c, rfl⟩
    · exact ⟨_, cap, rfl⟩
  obtain ⟨n, hn⟩ : ∃ n, n = l.length := ⟨_, rfl⟩
  rw [← hn] at hv
  have hnl : n ≤ 1000000000 := by
    have : l.length ≤ (markL c l).length := by
      unfold markL
      have : ∀ l : List ByteArray, l.length ≤ (l.flatMap fun p => numL p.size ++ p.data.toList).length := by
        intro l
        induction l with
        | nil => exact Nat.le_refl _
        | cons x l ih => simp only [List.flatMap_cons, List.length_cons, List.length_append, numL_length]; omega
      simp only [List.length_cons]
      have := this l
      omega
    omega
  have Hv := Lib.hid hv
  have Hr := Lib.hid hr
  have Hl := Lib.hid hl
  have Hn := Lib.hid hn
  clear hv hr hl
  rw [← hn]
  clear hn
  go_enter Tryd.func22, Tryd.ntmps22
  have hc1 := fun W => string_lit1 W c
  go_wp2_with fail
  clear hc1
  go_loopw [7, 15] (fun t i wr => ∃ k : Nat, k ≤ n ∧ i = .int .i64 k ∧ t = .string ⟨(markTo c l k).toArray⟩ ∧ Below w.heap.size w wr) (fun _ i _ => n - (intOf i).toNat)
  case atStart => exact ⟨0, by omega, rfl, rfl, (Below.refl _ _).alloc (Nat.le_refl _) _⟩
  case round =>
    obtain ⟨k, hk, rfl, rfl, hB⟩ := hrel
    by_cases hlt : k < n
    · have hkl : k < l.length := by have := Hn.out; omega
      obtain ⟨p, hp⟩ : ∃ p, l[k]? = some p := ⟨l[k], List.getElem?_eq_getElem hkl⟩
      have hpe : l[k] = p := by rw [List.getElem?_eq_getElem hkl] at hp; exact Option.some.inj hp
      have hR := Hv.out.mono hB
      obtain ⟨b, off, hcell⟩ : ∃ b off, a = some ⟨b, off, none⟩ ∧ wr.cell? ⟨b, off + k, none⟩ = some (.string p) := by
        rcases hR.2 with ⟨h0, _⟩ | ⟨b, off, cap', he, hc⟩
        · have : l = [] := by simpa using h0
          rw [this] at hkl; simp at hkl
        · simp only [Value.slice.injEq] at he
          exact ⟨b, off, he.1, hc k _ (by simp [hp])⟩
      obtain ⟨rfl, hcell⟩ := hcell
      have hsn : Hid (markTo c l (k + 1) = markTo c l k ++ (numL p.size ++ p.data.toList)) := by unfold Hid; rw [markTo_snoc c l k hkl, hpe]
      have hle := Nat.le_trans (markL_le c l (k + 1)) Hl.out
      rw [hsn.out, List.length_append, List.length_append, numL_length] at hle
      have hps : p.size ≤ 1000000000 := by have : p.data.toList.length = p.size := by simp
                                           omega
      have hts : (markTo c l k).length ≤ 1000000000 := by omega
      have hns : (numS (p.size : Int)).size = 8 := numS_size _
      have HB := Lib.hid hB
      clear hB hp hpe hR hle
      go_wp2_with (go_at_call 20; refine (rnum_any _ _ (by omega) (by omega)).mono ?_; rintro e w1 ⟨rfl, hB1⟩)
      go_roundw
      case rel =>
        refine ⟨k + 1, by omega, by go_num, ?_, HB.out.trans (hB1.mono HB.out.size)⟩
        rw [hsn.out]
        have : (⟨(markTo c l k).toArray⟩ : ByteArray) ++ numS (p.size : Int) ++ p = ⟨(markTo c l k ++ (numL p.size ++ p.data.toList)).toArray⟩ := by
          rw [← bytes_app, ← bytes_app, bytes_self, ByteArray.append_assoc]; rfl
        rw [this]
      case measure => simp [intOf]; omega
    · have hge : n ≤ k := by omega
      have hd1 : decide (k < n) = false := decide_eq_false hlt
      have hfin : Hid (markTo c l k = markL c l) := by
        unfold Hid markTo
        rw [List.take_of_length_le (by have := Hn.out; omega)]
      have hms : (markTo c l k).length ≤ 1000000000 := by rw [hfin.out]; exact Hl.out
      obtain ⟨m, hm⟩ : ∃ m, m = markTo c l k := ⟨_, rfl⟩
      rw [← hm]
      have hss := sumS_size ⟨m.toArray⟩
      have hK := Lib.hid (rsum_any ⟨m.toArray⟩ r (by show m.toArray.size ≤ _; rw [List.size_toArray, hm]; exact hms) wr (Hr.out.below hB Hr.out.lt))
      have Hm := Lib.hid hm
      have HB := Lib.hid hB
      clear hm hms hB hlt
      go_wp2_with (go_at_call 16; refine hK.out.mono ?_; rintro e w1 ⟨rfl, hB1⟩)
      go_ret
      refine ⟨?_, HB.out.trans (hB1.mono HB.out.size)⟩
      show Ending.returned (.string ((sumS ⟨m.toArray⟩).extract 0 16)) = _
      rw [Hm.out, hfin.out, markS_is]
end Go.Proofs.YtfhjnfocmlndpaaDoor
