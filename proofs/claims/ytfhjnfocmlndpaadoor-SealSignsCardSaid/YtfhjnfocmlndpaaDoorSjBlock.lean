/- The program's sum.turn and sum.block: what they compute is rr and blk. -/
import Derived.Test.YtfhjnfocmlndpaaDoorProg
import Derived.Test.YtfhjnfocmlndpaaDoorSjMem
import Derived.IntWalk
namespace Go.Proofs.YtfhjnfocmlndpaaDoor
open Go Go.RowKit Go.Proofs

set_option maxHeartbeats 400000 in
theorem turn_any (x : W32) (n : Int) (w : World) (hn0 : 0 < n) (hn : n < 32) :
    Calls Tryd.prog 144 #[.int .u32 (iv x), .int .i64 n] w fun e w' => e = .returned (.int .u32 (iv (rr x n.toNat))) ∧ ∃ k, w' = w.drewN k := by
  obtain ⟨n, rfl⟩ := Int.eq_ofNat_of_zero_le (Int.le_of_lt hn0)
  have h1 : (0 : Int) ≤ 32 - n := by omega
  have h2 : (32 - (n : Int)).toNat = 32 - n := by omega
  have h3 : (n : Int) ≤ 32 := by omega
  go_enter Tryd.func144, Tryd.ntmps144
  go_wp2
  go_quiet (fail)
  go_wp2
  go_ret

  exact ⟨rfl, _, rfl⟩

def onW0 (bw : Nat) (s : List UInt8) (k : Nat) (w : World) : Prop := U32At w bw 138 (words s k ++ List.replicate (64 - k) 0)

set_option maxRecDepth 100000 in
set_option maxHeartbeats 1000000 in
theorem block_any (hs : List W32) (hl : hs.length = 8) (s : ByteArray) (hsz : s.size = 64) (w : World) (b : Nat) (hb : U32At w b 137 hs) (hr : KAt w 0) (_hne : b ≠ 0) :
    Calls Tryd.prog 95 #[.pointer (some ⟨b, 0, none⟩), .string s] w fun e w' =>
      e = .returned (.tuple #[]) ∧ U32At w' b 137 (blk K0 hs s.data.toList) ∧ w.grownBy w' (some b) := by
  have Hl := Lib.hid hl
  have Hb := Lib.hid hb
  have Hr := Lib.hid hr
  clear hl hb hr
  go_enter Tryd.func95, Tryd.ntmps95
  go_wp2_with fail
  go_loopw [16] (fun i wr => ∃ k : Nat, k ≤ 16 ∧ i = .int .i64 k ∧ U32At wr w.heap.size 138 (words s.data.toList k ++ List.replicate (64 - k) 0) ∧ Below w.heap.size w wr) (fun i _ => 16 - (intOf i).toNat)
  case atStart => exact ⟨0, by omega, rfl, u32_made w _ 64 _ (by kernel_rfl), (Below.refl _ _).alloc (Nat.le_refl _) _⟩
  case round =>
    obtain ⟨k, hk, rfl, hW, hB⟩ := hrel
    by_cases hlt : k < 16
    ·
      have hs1 : 4 * k + 3 < s.size := by omega
      have HW := Lib.hid hW
      have HB := Lib.hid hB
      clear hW hB
      have hc1 := HW.out.cell k (by simp [words]; omega)
      have hc2 := HW.out.free k
      have a0 : IntKind.i64.wrap (4 * (k : Int)) = 4 * k := IntWalk.i64_in _ (by omega)
      have a1 : IntKind.i64.wrap (4 * (k : Int) + 1) = 4 * k + 1 := IntWalk.i64_in _ (by omega)
      have a2 : IntKind.i64.wrap (4 * (k : Int) + 2) = 4 * k + 2 := IntWalk.i64_in _ (by omega)
      have a3 : IntKind.i64.wrap (4 * (k : Int) + 3) = 4 * k + 3 := IntWalk.i64_in _ (by omega)
      have b0 : (4 * (k : Int)).toNat = 4 * k := by omega
      have b1 : (4 * (k : Int) + 1).toNat = 4 * k + 1 := by omega
      have b2 : (4 * (k : Int) + 2).toNat = 4 * k + 2 := by omega
      have b3 : (4 * (k : Int) + 3).toNat = 4 * k + 3 := by omega
      have c0 : (0 : Int) ≤ 4 * k := by omega
      have c1 : (0 : Int) ≤ 4 * k + 1 := by omega
      have c2 : (0 : Int) ≤ 4 * k + 2 := by omega
      have c3 : (0 : Int) ≤ 4 * k + 3 := by omega
      have e0 : 4 * (k : Int) < s.size := by omega
      have e1 : 4 * (k : Int) + 1 < s.size := by omega
      have e2 : 4 * (k : Int) + 2 < s.size := by omega
      have e3 : 4 * (k : Int) + 3 < s.size := by omega
      have d0 : 4 * k < s.size := by omega
      have d1 : 4 * k + 1 < s.size := by omega
      have d2 : 4 * k + 2 < s.size := by omega
      have Hsz := Lib.hid hsz
      clear hsz
      go_wp2_with fail
      go_still_tail 30, (by kernel_rfl)
      change wpList _ _ _ _ _ wr.drew
      go_wp2
      go_roundw
      case rel => exact ⟨k + 1, by omega, by go_num, (fill_word HW.out hs1 (by omega)).drew, (below_set HB.out (Nat.le_refl _) _).drew⟩
      case measure => simp [intOf]; omega
    · have hge : 16 ≤ k := by omega
      have HW : Hid (U32At wr w.heap.size 138 (words s.data.toList 16 ++ List.replicate (64 - 16) 0)) := by
        have e : k = 16 := by omega
        rw [e] at hW; exact hW
      have HB := Lib.hid hB
      have HS := Lib.hid hsz
      clear hW hB hsz hlt
      go_wp2_with fail
      clear hge hk
      go_loopw [6] (fun i wr => ∃ k : Nat, 16 ≤ k ∧ k ≤ 64 ∧ i = .int .i64 k ∧ U32At wr w.heap.size 138 (sched (words s.data.toList 16) (k - 16) ++ List.replicate (64 - k) 0) ∧ Below w.heap.size w wr) (fun i _ => 64 - (intOf i).toNat)
      case atStart => exact ⟨16, by omega, by omega, rfl, HW.out, HB.out⟩
      case round =>
        clear HW HB
        obtain ⟨k, hk0, hk, rfl, hW, hB⟩ := hrel
        by_cases hlt : k < 64
        ·
          have HW := Lib.hid hW
          have HB := Lib.hid hB
          clear hW hB
          have hlen : (sched (words s.data.toList 16) (k - 16) ++ List.replicate (64 - k) 0).length = 64 := by
            rw [List.length_append, sched_length, words_length, List.length_replicate]; omega
          obtain ⟨x1, h1⟩ : ∃ x, (sched (words s.data.toList 16) (k - 16) ++ List.replicate (64 - k) 0).getD (k - 16) 0 = x := ⟨_, rfl⟩
          obtain ⟨x2, h2⟩ : ∃ x, (sched (words s.data.toList 16) (k - 16) ++ List.replicate (64 - k) 0).getD (k - 15) 0 = x := ⟨_, rfl⟩
          obtain ⟨x3, h3⟩ : ∃ x, (sched (words s.data.toList 16) (k - 16) ++ List.replicate (64 - k) 0).getD (k - 7) 0 = x := ⟨_, rfl⟩
          obtain ⟨x4, h4⟩ : ∃ x, (sched (words s.data.toList 16) (k - 16) ++ List.replicate (64 - k) 0).getD (k - 2) 0 = x := ⟨_, rfl⟩
          obtain ⟨x5, h5⟩ : ∃ x, (sched (words s.data.toList 16) (k - 16) ++ List.replicate (64 - k) 0).getD k 0 = x := ⟨_, rfl⟩
          have hc1 := HW.out.cell (k - 16) (by omega)
          have hc2 := HW.out.cell (k - 15) (by omega)
          have hc3 := HW.out.cell (k - 7) (by omega)
          have hc4 := HW.out.cell (k - 2) (by omega)
          have hc5 := HW.out.cell k (by omega)
          rw [h1] at hc1
          rw [h2] at hc2
          rw [h3] at hc3
          rw [h4] at hc4
          rw [h5] at hc5
          have hst := sched_step (words s.data.toList 16) (words_length _ _) k hk0 hlt
          simp only [h1, h2, h3, h4] at hst
          have HT := Lib.hid hst
          clear hst h1 h2 h3 h4 h5
          have hc6 := HW.out.free k
          have HL := Lib.hid hlen
          clear hlen
          have a0 : IntKind.i64.wrap ((k : Int) - 16) = (k : Int) - 16 := IntWalk.i64_in _ (by omega)
          have a1 : IntKind.i64.wrap ((k : Int) - 15) = (k : Int) - 15 := IntWalk.i64_in _ (by omega)
          have a2 : IntKind.i64.wrap ((k : Int) - 7) = (k : Int) - 7 := IntWalk.i64_in _ (by omega)
          have a3 : IntKind.i64.wrap ((k : Int) - 2) = (k : Int) - 2 := IntWalk.i64_in _ (by omega)
          have b0 : ((k : Int) - 16).toNat = k - 16 := by omega
          have b1 : ((k : Int) - 15).toNat = k - 15 := by omega
          have b2 : ((k : Int) - 7).toNat = k - 7 := by omega
          have b3 : ((k : Int) - 2).toNat = k - 2 := by omega
          have c0 : (16 : Int) ≤ k := by omega
          have c1 : (15 : Int) ≤ k := by omega
          have c2 : (7 : Int) ≤ k := by omega
          have c3 : (2 : Int) ≤ k := by omega
          have e0 : (k : Int) - 16 < 64 := by omega
          have e1 : (k : Int) - 15 < 64 := by omega
          have e2 : (k : Int) - 7 < 64 := by omega
          have e3 : (k : Int) - 2 < 64 := by omega
          have e4 : (k : Int) < 64 := by omega
          go_wp2_with fail
          go_quiet ((go_at_call 144; exact Calls.quiet_of (turn_any _ _ _ (by decide) (by decide))))
          generalize nq = q1
          go_wp2_with fail
          go_quiet ((go_at_call 144; exact quiet_add (turn_any _ _ _ (by decide) (by decide))))
          go_wp2_with fail
          have HW2 : Hid (U32At ((wr.drewN q1).drewN nq) w.heap.size 138 (sched (words s.data.toList 16) (k - 16) ++ List.replicate (64 - k) 0)) := HW.out
          have HB2 : Hid (Below w.heap.size w ((wr.drewN q1).drewN nq)) := belowN (belowN HB.out q1) nq
          change ((wr.drewN q1).drewN nq).cell? _ = _ at hc1
          change ((wr.drewN q1).drewN nq).cell? _ = _ at hc3
          change ((wr.drewN q1).drewN nq).cell? _ = _ at hc5
          change ((wr.drewN q1).drewN nq).frozen? _ = _ at hc6
          generalize (wr.drewN q1).drewN nq = w2 at *
          clear hc2 hc4 HW HB
          go_still_tail 14, (by kernel_rfl)
          change wpList _ _ _ _ _ w2.drew
          go_wp2
          go_roundw
          case rel =>
            have := U32At.set HW2.out k (x1 + ss0 x2 + x3 + ss1 x4)
            rw [HT.out] at this
            exact ⟨k + 1, by omega, by omega, by go_num, this.drew, (below_set HB2.out (Nat.le_refl _) _).drew⟩
          case measure => simp [intOf]; omega
        · have hge : 64 ≤ k := by omega
          have HW : Hid (U32At wr w.heap.size 138 (sched (words s.data.toList 16) 48)) := by
            have e : k = 64 := by omega
            rw [e, Nat.sub_self, List.replicate_zero, List.append_nil] at hW; exact hW
          have HB := Lib.hid hB
          clear hW hB hlt
          obtain ⟨x0, x1, x2, x3, x4, x5, x6, x7, hx⟩ := len8 hs Hl.out
          have hbB : b < w.heap.size := Hb.out.lt
          have hv := Hb.out.below HB.out hbB
          rw [hx] at hv
          have v0 : wr.cell? ⟨b, 0, none⟩ = some (.int .u32 (iv x0)) := hv.cell 0 (by simp)
          have v1 : wr.cell? ⟨b, 1, none⟩ = some (.int .u32 (iv x1)) := hv.cell 1 (by simp)
          have v2 : wr.cell? ⟨b, 2, none⟩ = some (.int .u32 (iv x2)) := hv.cell 2 (by simp)
          have v3 : wr.cell? ⟨b, 3, none⟩ = some (.int .u32 (iv x3)) := hv.cell 3 (by simp)
          have v4 : wr.cell? ⟨b, 4, none⟩ = some (.int .u32 (iv x4)) := hv.cell 4 (by simp)
          have v5 : wr.cell? ⟨b, 5, none⟩ = some (.int .u32 (iv x5)) := hv.cell 5 (by simp)
          have v6 : wr.cell? ⟨b, 6, none⟩ = some (.int .u32 (iv x6)) := hv.cell 6 (by simp)
          have v7 : wr.cell? ⟨b, 7, none⟩ = some (.int .u32 (iv x7)) := hv.cell 7 (by simp)
          have HX := Lib.hid hx
          have HV := Lib.hid hv
          have hlt1 : w.heap.size < wr.heap.size := HW.out.lt
          have hbB2 : b < wr.heap.size := by omega
          have HBr := Lib.hid (Hr.out.below HB.out Hr.out.lt)
          have HBrlt := Lib.hid HBr.out.lt
          obtain ⟨Wl, hWl⟩ : ∃ l, l = sched (words s.data.toList 16) 48 := ⟨_, rfl⟩
          have HWll : Hid (Wl.length = 64) := by unfold Hid; rw [hWl, sched_length, words_length]
          rw [← hWl] at HW
          have HWl := Lib.hid hWl
          clear hx hv hbB hWl
          obtain ⟨wo, rfl⟩ : ∃ wo : World, wo = wr := ⟨_, rfl⟩
          go_wp2_with fail
          clear v0 v1 v2 v3 v4 v5 v6 v7
          go_loopw [107] (fun i w2 => ∃ j : Nat, j ≤ 64 ∧ i = .int .i64 j ∧ U32At w2 wo.heap.size 137 (rounds K0 Wl hs j) ∧ Below wo.heap.size wo w2) (fun i _ => 64 - (intOf i).toNat)
          case atStart =>
            refine ⟨0, by omega, rfl, ?_, (Below.refl _ _).alloc (Nat.le_refl _) _⟩
            show U32At _ _ _ hs
            unfold U32At
            rw [HX.out]
            exact heap_alloc_new wo _
          case round =>
            obtain ⟨j, hj, rfl, hR, hB2⟩ := hrel
            have HR := Lib.hid hR
            have HB2 := Lib.hid hB2
            clear hR hB2
            by_cases hlt : j < 64
            ·
              obtain ⟨y0, y1, y2, y3, y4, y5, y6, y7, hy⟩ := len8 (rounds K0 Wl hs j) (rounds_length _ _ _ Hl.out _)
              have hv := HR.out
              rw [hy] at hv
              have HY := Lib.hid hy
              clear hy
              have v0 := hv.cell 0 (by simp)
              have v1 := hv.cell 1 (by simp)
              have v2 := hv.cell 2 (by simp)
              have v3 := hv.cell 3 (by simp)
              have v4 := hv.cell 4 (by simp)
              have v5 := hv.cell 5 (by simp)
              have v6 := hv.cell 6 (by simp)
              have v7 := hv.cell 7 (by simp)
              simp only [List.getD_cons_zero, List.getD_cons_succ] at v0 v1 v2 v3 v4 v5 v6 v7
              have f0 := hv.free 0
              have f1 := hv.free 1
              have f2 := hv.free 2
              have f3 := hv.free 3
              have f4 := hv.free 4
              have f5 := hv.free 5
              have f6 := hv.free 6
              have f7 := hv.free 7
              have HV2 := Lib.hid hv
              clear hv
              obtain ⟨kj, hkj⟩ : ∃ x, K0.getD j 0 = x := ⟨_, rfl⟩
              obtain ⟨wj, hwj⟩ : ∃ x, Wl.getD j 0 = x := ⟨_, rfl⟩
              have ck := (HBr.out.below HB2.out HBrlt.out).cell j (by show j < 64; omega)
              have cw := (HW.out.below HB2.out hlt1).cell j (by rw [HWll.out]; omega)
              rw [hkj] at ck
              rw [hwj] at cw
              have HK := Lib.hid hkj
              have HWJ := Lib.hid hwj
              clear hkj hwj
              have e1 : (j : Int) < 64 := by omega
              go_wp2_with fail
              go_quiet ((go_at_call 144; exact Calls.quiet_of (turn_any _ _ _ (by decide) (by decide))))
              generalize nq = q1
              go_wp2_with fail
              go_quiet (fail)
              generalize nq = q2
              go_wp2_with fail
              go_quiet ((go_at_call 144; first | exact quiet_add (turn_any _ _ _ (by decide) (by decide)) | exact quiet_add3 (turn_any _ _ _ (by decide) (by decide)) | exact quiet_add4 (turn_any _ _ _ (by decide) (by decide))))
              generalize nq = q3
              go_wp2_with fail
              go_roundw
              case rel =>
                have R := ((((((((HV2.out.drewN (q1 + q2 + q3)).set 0 (y7 + bs1 y4 + ch y4 y5 y6 + kj + wj + (bs0 y0 + mj y0 y1 y2))).set 1 y0).set 2 y1).set 3 y2).set 4 (y3 + (y7 + bs1 y4 + ch y4 y5 y6 + kj + wj))).set 5 y4).set 6 y5).set 7 y6
                have E : rounds K0 Wl hs (j + 1) = [y7 + bs1 y4 + ch y4 y5 y6 + kj + wj + (bs0 y0 + mj y0 y1 y2), y0, y1, y2, y3 + (y7 + bs1 y4 + ch y4 y5 y6 + kj + wj), y4, y5, y6] := by
                  rw [rounds, HY.out, HK.out, HWJ.out]; rfl
                refine ⟨j + 1, by omega, by go_num, ?_, ?_⟩
                · rw [E]; exact R
                · exact below_set (below_set (below_set (below_set (below_set (below_set (below_set (below_set (belowN HB2.out _) (Nat.le_refl _) _) (Nat.le_refl _) _) (Nat.le_refl _) _) (Nat.le_refl _) _) (Nat.le_refl _) _) (Nat.le_refl _) _) (Nat.le_refl _) _) (Nat.le_refl _) _
              case measure => simp [intOf]; omega
            · have hge : 64 ≤ j := by omega
              have HR64 : Hid (U32At wr wo.heap.size 137 (rounds K0 Wl hs 64)) := by
                have e : j = 64 := by omega
                have := HR.out
                rw [e] at this; exact this
              clear HR hlt
              obtain ⟨V, hV⟩ : ∃ l, l = rounds K0 Wl hs 64 := ⟨_, rfl⟩
              have HVl : Hid (V.length = 8) := by unfold Hid; rw [hV]; exact rounds_length _ _ _ Hl.out _
              rw [← hV] at HR64
              have HVe := Lib.hid hV
              clear hV
              have HBw : Hid (Below w.heap.size w wr) := HB.out.trans (HB2.out.mono (by omega))
              have hbn : b < w.heap.size := Hb.out.lt
              have HBw0 : Hid (U32At wr b 137 hs) := Hb.out.below HBw.out hbn
              have hbne : b ≠ wo.heap.size := by omega
              go_wp2_with fail
              clear hge hj
              go_loopw [197] (fun i w3 => ∃ q : Nat, q ≤ 8 ∧ i = .int .i64 q ∧ U32At w3 b 137 (addW hs V q) ∧ U32At w3 wo.heap.size 137 V ∧ w.grownBy w3 (some b)) (fun i _ => 8 - (intOf i).toNat)
              case atStart => exact ⟨0, by omega, rfl, by rw [addW_zero _ _ Hl.out]; exact HBw0.out, HR64.out, grown_below HBw.out _⟩
              case round =>
                clear HBw HBw0 HR64
                obtain ⟨q, hq, rfl, hA, hVv, hG⟩ := hrel
                have HA := Lib.hid hA
                have HVv := Lib.hid hVv
                have HG := Lib.hid hG
                clear hA hVv hG
                by_cases hlt : q < 8
                · obtain ⟨x, hx⟩ : ∃ x, (addW hs V q).getD q 0 = x := ⟨_, rfl⟩
                  obtain ⟨y, hy⟩ : ∃ x, V.getD q 0 = x := ⟨_, rfl⟩
                  have c1 := HA.out.cell q (by rw [addW_length]; exact hlt)
                  have c2 := HVv.out.cell q (by rw [HVl.out]; exact hlt)
                  have c3 := HA.out.free q
                  rw [hx] at c1
                  rw [hy] at c2
                  have hst := addW_step hs V q hlt
                  rw [hx, hy] at hst
                  have HT := Lib.hid hst
                  clear hst hx hy
                  have e1 : (q : Int) < 8 := by omega
                  go_wp2_with fail
                  go_still_tail 10, (by kernel_rfl)
                  change wpList _ _ _ _ _ wr.drew
                  go_wp2
                  go_roundw
                  case rel =>
                    have R := HA.out.set q (x + y)
                    rw [HT.out] at R
                    exact ⟨q + 1, by omega, by go_num, R.drew, (HVv.out.other (a := ⟨b, q, none⟩) hbne _).drew, grownBy_trans (grownBy_trans HG.out (grownBy_setCell wr b q _)) (grownBy_drewN _ 1 _)⟩
                  case measure => simp [intOf]; omega
                · have hge : 8 ≤ q := by omega
                  have HA8 : Hid (U32At wr b 137 (blk K0 hs s.data.toList)) := by
                    have e : q = 8 := by omega
                    have := HA.out
                    rw [e, HVe.out, HWl.out] at this; exact this
                  clear HA hlt
                  go_wp2_with fail
                  go_end0
                  exact ⟨rfl, HA8.out, HG.out⟩
end Go.Proofs.YtfhjnfocmlndpaaDoor
