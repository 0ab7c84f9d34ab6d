/- The reference's ProofRoot, Verify, Commit. -/
import Derived.Test.YtfhjnfocmlndpaaDoorRPRight
namespace Go.Proofs.YtfhjnfocmlndpaaDoor
open Go Go.RowKit Go.Proofs

theorem leadTo_succ (ix : ByteArray) (path : List ByteArray) (li lc : ByteArray) (j : Nat) : leadTo ix path li lc (j + 1) = stepP ix (leadTo ix path li lc j) (sideOf path j) := by
  unfold leadTo
  rw [upto_succ, List.foldl_append]; rfl
theorem leadTo_size (ix : ByteArray) (path : List ByteArray) (li lc : ByteArray) (j : Nat) : (leadTo ix path li lc j).size = 16 := fold_size ix _ _ (startS_size _ _ _)
set_option maxRecDepth 20000 in
set_option maxHeartbeats 4000000 in
theorem rproot_ok (r : Nat) (ix : ByteArray) (pv : Value) (path : List ByteArray) (li lc : ByteArray) (w : World) (hv : Reads w pv path.length 1 (path.map Value.string)) (hr : rightP ix path li lc) (hR : RAt w r) :
    Calls Tryd.prog 32 #[.pointer (some ⟨r, 0, none⟩), .string ix, .agg #[pv, .string li, .string lc]] w fun e w' => e = .returned (.tuple #[.string (leadS ix path li lc), .int .i64 0]) ∧ Below w.heap.size w w' := by
  obtain ⟨a, cap, rfl⟩ : ∃ a cap, pv = .slice a path.length cap := by
    rcases hv.2 with ⟨_, a, c, rfl⟩ | ⟨b, off, cap, rfl, _⟩
    · exact ⟨a, c, rfl⟩
    · exact ⟨_, cap, rfl⟩
  have hPR := Lib.hid (fun W (hb : Below w.heap.size w W) => rpright_any ix (.slice a path.length cap) path li lc W (hv.mono hb) (by have := hr.2.1; omega))
  have hRB : rightB ix path li lc = true := by unfold rightB; exact @decide_eq_true _ (Classical.propDecidable _) hr
  rw [hRB] at hPR
  have hWb : Below w.heap.size w (w.alloc (.cells #[.slice a path.length cap, .string li, .string lc] 51)) := (Below.refl _ _).alloc (Nat.le_refl _) _
  have hP : Row3 (w.alloc (.cells #[.slice a path.length cap, .string li, .string lc] 51)) w.heap.size (.slice a path.length cap) (.string li) (.string lc) := Row3.of_row (T := 51) (heap_alloc_new _ _)
  have HR := Lib.hid hR
  have Hr := Lib.hid hr
  have Hv := Lib.hid hv
  have hlen : path.length ≤ 1000 := by have := hr.2.1; omega
  have HLS : Hid (leadS ix path li lc = leadTo ix path li lc path.length) := rfl
  obtain ⟨n, hn⟩ : ∃ n, n = path.length := ⟨_, rfl⟩
  have Hn := Lib.hid hn
  obtain ⟨LS, hLS⟩ : ∃ LS, LS = leadS ix path li lc := ⟨_, rfl⟩
  rw [← hLS] at HLS ⊢
  rw [← hn] at hPR hWb hP hlen HLS ⊢
  clear hv hr hR hRB hn hLS
  by_cases h0 : li.size = 0
  · have g1 := toList_nil h0
    have hS : Hid (leadTo ix path li lc 0 = emptyS n) := by unfold Hid leadTo startS; rw [if_pos h0, ← Hn.out]; rfl
    clear h0
    go_enter Tryd.func32, Tryd.ntmps32
    go_wp2_with (first
      | (go_at_call 35; refine (hPR.out _ hWb).mono ?_; rintro e w1 ⟨rfl, hB1⟩; have hC1 := hWb.trans (hB1.mono hWb.size); have hP1 := hP.mono hB1; have hP1k := hP1; obtain ⟨p0, p1, p2, -, -, -⟩ := hP1k)
      | (go_at_call 108; refine (rempty_any r n _ hlen (HR.out.mono hC1)).mono ?_; rintro e w2 ⟨rfl, hB2⟩; have hC2 := hC1.trans (hB2.mono hC1.size); have hP2 := hP1.mono hB2; have hP2k := hP2; obtain ⟨q0, q1, q2, -, -, -⟩ := hP2k))
    rw [← hS.out]
    go_loopw [8, 9] (fun s i wr => ∃ j : Nat, j ≤ n ∧ i = .int .i64 ((n : Int) - 1 - j) ∧ s = .string (leadTo ix path li lc j) ∧ Below w.heap.size w wr ∧ Row3 wr w.heap.size (.slice a n cap) (.string li) (.string lc)) (fun _ i _ => (intOf i + 1).toNat)
    case atStart =>
      refine ⟨0, Nat.zero_le _, ?_, rfl, hC2, hP2⟩
      congr 1
      first
        | omega
        | (rw [IntWalk.i64_in _ (by omega)]; omega)
        | (unfold wrap64; omega)
    case round =>
      obtain ⟨j, hj, rfl, rfl, hB, hPr⟩ := hrel
      by_cases hlt : j < n
      · obtain ⟨k, hk⟩ : ∃ k : Nat, k = n - 1 - j := ⟨_, rfl⟩
        have hkn : k < n := by omega
        have hki : (n : Int) - 1 - j = k := by omega
        rw [hki]
        have hk128 : k < 128 := by have := Hr.out.2.1; have := Hn.out; omega
        have hsd : (sideOf path j).val = fromEnd path j := sideOf_is Hr.out.2.1 Hr.out.2.2.1 (by have := Hn.out; omega)
        have hkp : k < path.length := by have := Hn.out; omega
        obtain ⟨z, hz⟩ : ∃ z, path[k]? = some z := ⟨_, List.getElem?_eq_getElem hkp⟩
        have hz16 : z.size = 16 := Hr.out.2.2.1 z (List.mem_of_getElem? hz)
        have hfe : fromEnd path j = (k, z) := by
          unfold fromEnd
          rw [← Hn.out, ← hk, hz]; rfl
        have hstep : Hid (leadTo ix path li lc (j + 1) = if bitAt ix k = 1 then joinS z (leadTo ix path li lc j) else joinS (leadTo ix path li lc j) z) := by
          unfold Hid
          rw [leadTo_succ]
          unfold stepP
          rw [hsd, hfe]
        have hsz := leadTo_size ix path li lc j
        have hRd := Hv.out.mono hB
        obtain ⟨b, off, rfl, hcell⟩ : ∃ b off, a = some ⟨b, off, none⟩ ∧ wr.cell? ⟨b, off + k, none⟩ = some (.string z) := by
          rcases hRd.2 with ⟨h1, _⟩ | ⟨b, off, cap', he, hc⟩
          · have := congrArg List.length h1
            simp only [List.length_map, List.length_nil] at this
            omega
          · simp only [Value.slice.injEq] at he
            exact ⟨b, off, he.1, hc k _ (by rw [List.getElem?_map, hz]; rfl)⟩
        have hA := at_any ix k wr Hr.out.1 hk128
        have hb2 := bitAt_lt ix k
        have hRr := HR.out.mono hB
        have hPk := hPr
        obtain ⟨u0, u1, u2, -, -, -⟩ := hPk
        have hk0 : (0 : Int) ≤ k := by omega
        have hkn2 : (k : Int) < n := by omega
        have HKI := Lib.hid hki
        have Hz := Lib.hid hz
        clear hki hk hz hfe hsd hRd
        generalize leadTo ix path li lc j = S at *
        by_cases h1 : bitAt ix k = 1
        · rw [h1] at hA
          have hJ := Lib.hid (rjoin_any r z S wr (by omega) (by omega) hRr)
          have HA := Lib.hid hA
          rw [if_pos h1] at hstep
          generalize joinS z S = M at *
          clear h1 hb2 hA
          go_wp2_with (first
            | (go_at_call 110; refine HA.out.mono ?_; rintro e w1 ⟨rfl, hw⟩; have hw2 := hw.symm; subst hw2)
            | (go_at_call 111; refine hJ.out.mono ?_; rintro e w1 ⟨rfl, hB1⟩))
          go_roundw
          case rel =>
            refine ⟨j + 1, by omega, ?_, by rw [hstep.out], hB.trans (hB1.mono hB.size), hPr.mono hB1⟩
            have := HKI.out
            congr 1
            first
              | omega
              | (rw [IntWalk.i64_in _ (by omega)]; omega)
              | (unfold wrap64; omega)
          case measure => (have := HKI.out; simp [intOf] <;> first | omega | (unfold wrap64; omega))
        · have h00 : bitAt ix k = 0 := by omega
          rw [h00] at hA
          have hJ := Lib.hid (rjoin_any r S z wr (by omega) (by omega) hRr)
          have HA := Lib.hid hA
          rw [if_neg h1] at hstep
          generalize joinS S z = M at *
          clear h1 h00 hb2 hA
          go_wp2_with (first
            | (go_at_call 110; refine HA.out.mono ?_; rintro e w1 ⟨rfl, hw⟩; have hw2 := hw.symm; subst hw2)
            | (go_at_call 111; refine hJ.out.mono ?_; rintro e w1 ⟨rfl, hB1⟩))
          go_roundw
          case rel =>
            refine ⟨j + 1, by omega, ?_, by rw [hstep.out], hB.trans (hB1.mono hB.size), hPr.mono hB1⟩
            have := HKI.out
            congr 1
            first
              | omega
              | (rw [IntWalk.i64_in _ (by omega)]; omega)
              | (unfold wrap64; omega)
          case measure => (have := HKI.out; simp [intOf] <;> first | omega | (unfold wrap64; omega))
      · obtain rfl : j = n := by omega
        have hneg : (j : Int) - 1 - j = -1 := by omega
        rw [hneg]
        go_wp2_with fail
        go_ret2
        exact ⟨by rw [HLS.out]; rfl, hB⟩
  · have g1 := toList_ne h0
    have g1b : li.toList.isEmpty = false := by rw [List.isEmpty_eq_false_iff]; exact g1
    have hl16 : li.size = 16 ∧ lc.size = 16 := by
      rcases Hr.out.2.2.2 with h | h
      · exact absurd h.1 h0
      · exact ⟨h.1, h.2.2⟩
    have hli : li.size ≤ 1000 := by omega
    have hlc : lc.size ≤ 1000 := by omega
    have hS : Hid (leadTo ix path li lc 0 = leafS li lc n) := by unfold Hid leadTo startS; rw [if_neg h0, ← Hn.out]; rfl
    clear h0 hl16
    go_enter Tryd.func32, Tryd.ntmps32
    go_wp2_with (first
      | (go_at_call 35; refine (hPR.out _ hWb).mono ?_; rintro e w1 ⟨rfl, hB1⟩; have hC1 := hWb.trans (hB1.mono hWb.size); have hP1 := hP.mono hB1; have hP1k := hP1; obtain ⟨p0, p1, p2, -, -, -⟩ := hP1k)
      | (go_at_call 108; refine (rempty_any r n _ hlen (HR.out.mono hC1)).mono ?_; rintro e w3 ⟨rfl, hB3⟩; have hC3 := hC1.trans (hB3.mono hC1.size); have hP3 := hP1.mono hB3; have hP3k := hP3; obtain ⟨r0, r1, r2, -, -, -⟩ := hP3k)
      | (go_at_call 109; refine (rleaf_any r li lc n _ hlen hli hlc (HR.out.mono hC3)).mono ?_; rintro e w2 ⟨rfl, hB2⟩; have hC2 := hC3.trans (hB2.mono hC3.size); have hP2 := hP3.mono hB2; have hP2k := hP2; obtain ⟨q0, q1, q2, -, -, -⟩ := hP2k))
    rw [← hS.out]
    go_loopw [8, 9] (fun s i wr => ∃ j : Nat, j ≤ n ∧ i = .int .i64 ((n : Int) - 1 - j) ∧ s = .string (leadTo ix path li lc j) ∧ Below w.heap.size w wr ∧ Row3 wr w.heap.size (.slice a n cap) (.string li) (.string lc)) (fun _ i _ => (intOf i + 1).toNat)
    case atStart =>
      refine ⟨0, Nat.zero_le _, ?_, rfl, hC2, hP2⟩
      congr 1
      first
        | omega
        | (rw [IntWalk.i64_in _ (by omega)]; omega)
        | (unfold wrap64; omega)
    case round =>
      obtain ⟨j, hj, rfl, rfl, hB, hPr⟩ := hrel
      by_cases hlt : j < n
      · obtain ⟨k, hk⟩ : ∃ k : Nat, k = n - 1 - j := ⟨_, rfl⟩
        have hkn : k < n := by omega
        have hki : (n : Int) - 1 - j = k := by omega
        rw [hki]
        have hk128 : k < 128 := by have := Hr.out.2.1; have := Hn.out; omega
        have hsd : (sideOf path j).val = fromEnd path j := sideOf_is Hr.out.2.1 Hr.out.2.2.1 (by have := Hn.out; omega)
        have hkp : k < path.length := by have := Hn.out; omega
        obtain ⟨z, hz⟩ : ∃ z, path[k]? = some z := ⟨_, List.getElem?_eq_getElem hkp⟩
        have hz16 : z.size = 16 := Hr.out.2.2.1 z (List.mem_of_getElem? hz)
        have hfe : fromEnd path j = (k, z) := by
          unfold fromEnd
          rw [← Hn.out, ← hk, hz]; rfl
        have hstep : Hid (leadTo ix path li lc (j + 1) = if bitAt ix k = 1 then joinS z (leadTo ix path li lc j) else joinS (leadTo ix path li lc j) z) := by
          unfold Hid
          rw [leadTo_succ]
          unfold stepP
          rw [hsd, hfe]
        have hsz := leadTo_size ix path li lc j
        have hRd := Hv.out.mono hB
        obtain ⟨b, off, rfl, hcell⟩ : ∃ b off, a = some ⟨b, off, none⟩ ∧ wr.cell? ⟨b, off + k, none⟩ = some (.string z) := by
          rcases hRd.2 with ⟨h1, _⟩ | ⟨b, off, cap', he, hc⟩
          · have := congrArg List.length h1
            simp only [List.length_map, List.length_nil] at this
            omega
          · simp only [Value.slice.injEq] at he
            exact ⟨b, off, he.1, hc k _ (by rw [List.getElem?_map, hz]; rfl)⟩
        have hA := at_any ix k wr Hr.out.1 hk128
        have hb2 := bitAt_lt ix k
        have hRr := HR.out.mono hB
        have hPk := hPr
        obtain ⟨u0, u1, u2, -, -, -⟩ := hPk
        have hk0 : (0 : Int) ≤ k := by omega
        have hkn2 : (k : Int) < n := by omega
        have HKI := Lib.hid hki
        have Hz := Lib.hid hz
        clear hki hk hz hfe hsd hRd
        generalize leadTo ix path li lc j = S at *
        by_cases h1 : bitAt ix k = 1
        · rw [h1] at hA
          have hJ := Lib.hid (rjoin_any r z S wr (by omega) (by omega) hRr)
          have HA := Lib.hid hA
          rw [if_pos h1] at hstep
          generalize joinS z S = M at *
          clear h1 hb2 hA
          go_wp2_with (first
            | (go_at_call 110; refine HA.out.mono ?_; rintro e w1 ⟨rfl, hw⟩; have hw2 := hw.symm; subst hw2)
            | (go_at_call 111; refine hJ.out.mono ?_; rintro e w1 ⟨rfl, hB1⟩))
          go_roundw
          case rel =>
            refine ⟨j + 1, by omega, ?_, by rw [hstep.out], hB.trans (hB1.mono hB.size), hPr.mono hB1⟩
            have := HKI.out
            congr 1
            first
              | omega
              | (rw [IntWalk.i64_in _ (by omega)]; omega)
              | (unfold wrap64; omega)
          case measure => (have := HKI.out; simp [intOf] <;> first | omega | (unfold wrap64; omega))
        · have h00 : bitAt ix k = 0 := by omega
          rw [h00] at hA
          have hJ := Lib.hid (rjoin_any r S z wr (by omega) (by omega) hRr)
          have HA := Lib.hid hA
          rw [if_neg h1] at hstep
          generalize joinS S z = M at *
          clear h1 h00 hb2 hA
          go_wp2_with (first
            | (go_at_call 110; refine HA.out.mono ?_; rintro e w1 ⟨rfl, hw⟩; have hw2 := hw.symm; subst hw2)
            | (go_at_call 111; refine hJ.out.mono ?_; rintro e w1 ⟨rfl, hB1⟩))
          go_roundw
          case rel =>
            refine ⟨j + 1, by omega, ?_, by rw [hstep.out], hB.trans (hB1.mono hB.size), hPr.mono hB1⟩
            have := HKI.out
            congr 1
            first
              | omega
              | (rw [IntWalk.i64_in _ (by omega)]; omega)
              | (unfold wrap64; omega)
          case measure => (have := HKI.out; simp [intOf] <;> first | omega | (unfold wrap64; omega))
      · obtain rfl : j = n := by omega
        have hneg : (j : Int) - 1 - j = -1 := by omega
        rw [hneg]
        go_wp2_with fail
        go_ret2
        exact ⟨by rw [HLS.out]; rfl, hB⟩
end Go.Proofs.YtfhjnfocmlndpaaDoor
