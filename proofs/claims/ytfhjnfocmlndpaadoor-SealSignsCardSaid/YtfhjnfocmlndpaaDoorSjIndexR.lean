/- The reference's names and indexes. -/
import Derived.Test.YtfhjnfocmlndpaaDoorSjIndex
import Derived.Test.YtfhjnfocmlndpaaDoorSjOnceQ
namespace Go.Proofs.YtfhjnfocmlndpaaDoor
open Go Go.RowKit Go.Proofs

theorem rin_any (n l h : Int) (w : World) : Calls Tryd.prog 117 #[.int .i64 n, .int .i64 l, .int .i64 h] w fun e w' => e = .returned (.bool (decide (l ≤ n) && decide (n ≤ h))) ∧ w' = w := by
  by_cases h1 : l ≤ n
  · rw [decide_eq_true h1]
    go_enter Tryd.func117, Tryd.ntmps117
    go_wp2_with fail
    go_ret
    exact ⟨by simp, rfl⟩
  · have h2 : decide (l ≤ n) = false := decide_eq_false h1
    rw [h2]
    go_enter Tryd.func117, Tryd.ntmps117
    go_wp2_with fail
    go_ret
    exact ⟨by simp, rfl⟩

set_option maxRecDepth 20000 in
theorem at_any (s : ByteArray) (k : Nat) (w : World) (hs : s.size = 16) (hk : k < 128) : Calls Tryd.prog 110 #[.string s, .int .i64 k] w fun e w' => e = .returned (.int .i64 (bitAt s k : Nat)) ∧ w' = w := by
  obtain ⟨q, hq⟩ : ∃ q, q = k / 8 := ⟨_, rfl⟩
  obtain ⟨r, hr⟩ : ∃ r, r = k % 8 := ⟨_, rfl⟩
  obtain ⟨d, hd⟩ : ∃ d, d = 7 - r := ⟨_, rfl⟩
  have hq16 : q < s.size := by omega
  have f1 : (k : Int) / 8 = q := by omega
  have f2 : (k : Int) % 8 = r := by omega
  have f3 : IntKind.i64.wrap ((7 : Int) - r) = d := by rw [IntWalk.i64_in _ (by omega)]; omega
  have f6 : (s.size : Int) = 16 := by omega
  have f7 : (q : Int) < s.size := by omega
  obtain ⟨c, hc⟩ : ∃ c, s[q] = c := ⟨_, rfl⟩
  have hbit : Hid (bitAt s k = c.toNat / 2 ^ d % 2) := by
    unfold Hid bitAt
    rw [← hq, ← hr, ← hd, List.getD_eq_getElem?_getD, List.getElem?_eq_getElem (by simpa using hq16)]
    rw [← hc]; rfl
  have hd8 : d < 8 := by omega
  have hc8 : c.toNat < 256 := c.toNat_lt
  have g3 : wrap64 (c.toNat : Int) = (c.toNat : Int) := by unfold wrap64; omega
  obtain ⟨B, hB⟩ : ∃ B, B = bitAt s k := ⟨_, rfl⟩
  rw [← hB] at hbit ⊢
  clear hq hr hd hk hs hB
  go_enter Tryd.func110, Tryd.ntmps110
  go_wp2_with fail
  go_loopw [5, 14] (fun b i wr => ∃ (j x : Nat), j ≤ d ∧ i = .int .i64 j ∧ b = .int .i64 x ∧ x = c.toNat / 2 ^ j ∧ wr = w) (fun _ i _ => d - (intOf i).toNat)
  case atStart => exact ⟨0, c.toNat, Nat.zero_le _, rfl, rfl, by simp, rfl⟩
  case round =>
    obtain ⟨j, x, hj, rfl, rfl, hx, rfl⟩ := hrel
    have HX := Lib.hid hx
    have hxb : x < 256 := by rw [hx]; exact Nat.lt_of_le_of_lt (Nat.div_le_self _ _) hc8
    clear hx
    by_cases hlt : j < d
    · have e2 : (j : Int) < d := by omega
      obtain ⟨y, hy⟩ : ∃ y, y = x / 2 := ⟨_, rfl⟩
      have e3 : (x : Int) / 2 = (y : Int) := by omega
      have e4 : wrap64 (y : Int) = y := by unfold wrap64; omega
      have HY := Lib.hid hy
      clear hy hxb hlt
      go_wp2_with fail
      go_roundw
      case rel =>
        refine ⟨j + 1, y, by omega, by go_num, by first | rfl | rw [e4], ?_, by first | rfl | trivial⟩
        rw [HY.out, HX.out, Nat.div_div_eq_div_mul, Nat.pow_succ]
      case measure => simp [intOf]; omega
    · have e2 : ¬ (j : Int) < d := by omega
      have hd1 : decide (j < d) = false := decide_eq_false hlt
      have hjd : j = d := by omega
      obtain ⟨y, hy⟩ : ∃ y, y = x % 2 := ⟨_, rfl⟩
      have e3 : (x : Int) % 2 = (y : Int) := by omega
      have HY := Lib.hid (show y = c.toNat / 2 ^ d % 2 by rw [hy, HX.out, hjd])
      clear hy hjd hlt
      go_wp2_with fail
      go_ret
      exact ⟨by rw [hbit.out, ← HY.out]; rfl, rfl⟩

theorem rbit_any (s : ByteArray) (k : Int) (w : World) : Calls Tryd.prog 91 #[.string s, .int .i64 k] w fun e w' => e = .returned (.tuple #[.int .i64 (bitV s k), .int .i64 (bitK s k)]) ∧ w' = w := by
  by_cases hs : s.size = 16
  · have HM := Lib.hid (rmk_yes s w hs)
    by_cases hk : k < 0 ∨ 128 ≤ k
    · have hK : bitK s k = 2 := by unfold bitK; rw [if_neg (by simpa using hs), if_pos hk]
      have hV : bitV s k = 0 := by unfold bitV; rw [hK, if_neg (by decide)]
      have HI : Hid (Calls Tryd.prog 117 #[.int .i64 k, .int .i64 0, .int .i64 127] w fun e w' => e = .returned (.bool false) ∧ w = w') := by
        unfold Hid
        refine (rin_any k 0 127 w).mono ?_
        rintro e w' ⟨rfl, rfl⟩
        refine ⟨?_, rfl⟩
        congr 2
        rcases hk with hk | hk
        · rw [decide_eq_false (by omega : ¬ (0 : Int) ≤ k), Bool.false_and]
        · rw [decide_eq_false (by omega : ¬ k ≤ 127), Bool.and_false]
      rw [hK, hV]
      clear hs hk hK hV
      go_enter Tryd.func91, Tryd.ntmps91
      go_wp2_with (first
        | (go_at_call 98; refine HM.out.mono ?_; rintro e w1 ⟨rfl, rfl⟩)
        | (go_at_call 117; refine HI.out.mono ?_; rintro e w1 ⟨rfl, rfl⟩))
      go_ret2
      exact ⟨rfl, rfl⟩
    · obtain ⟨n, rfl⟩ : ∃ n : Nat, k = n := ⟨k.toNat, by omega⟩
      have hK : bitK s n = 0 := by unfold bitK; rw [if_neg (by simpa using hs), if_neg hk]
      have hV : bitV s n = (bitAt s n : Nat) := by unfold bitV; rw [hK, if_pos rfl, Int.toNat_natCast]
      have HI : Hid (Calls Tryd.prog 117 #[.int .i64 n, .int .i64 0, .int .i64 127] w fun e w' => e = .returned (.bool true) ∧ w = w') := by
        unfold Hid
        refine (rin_any n 0 127 w).mono ?_
        rintro e w' ⟨rfl, rfl⟩
        refine ⟨?_, rfl⟩
        congr 2
        rw [decide_eq_true (by omega : (0 : Int) ≤ n), decide_eq_true (by omega : (n : Int) ≤ 127)]; rfl
      have HA := Lib.hid (at_any s n w hs (by omega))
      rw [hK, hV]
      generalize bitAt s n = B at *
      clear hs hk hK hV
      go_enter Tryd.func91, Tryd.ntmps91
      go_wp2_with (first
        | (go_at_call 98; refine HM.out.mono ?_; rintro e w1 ⟨rfl, rfl⟩)
        | (go_at_call 117; refine HI.out.mono ?_; rintro e w1 ⟨rfl, rfl⟩)
        | (go_at_call 110; refine HA.out.mono ?_; rintro e w1 ⟨rfl, hw⟩; obtain rfl : w = w1 := hw.symm))
      go_ret2
      exact ⟨rfl, rfl⟩
  · have HM := Lib.hid (rmk_no s w hs)
    have hK : bitK s k = 1 := by unfold bitK; rw [if_pos hs]
    have hV : bitV s k = 0 := by unfold bitV; rw [hK, if_neg (by decide)]
    rw [hK, hV]
    clear hs hK hV
    go_enter Tryd.func91, Tryd.ntmps91
    go_wp2_with (go_at_call 98; refine HM.out.mono ?_; rintro e w1 ⟨rfl, rfl⟩)
    go_ret2
    exact ⟨rfl, rfl⟩

theorem rcommon_ok (a b : ByteArray) (w : World) (ha : a.size = 16) (hb : b.size = 16) : Calls Tryd.prog 92 #[.string a, .string b] w fun e w' => e = .returned (.tuple #[.int .i64 (cmn a b : Nat), .int .i64 0]) ∧ w' = w := by
  have HMA := Lib.hid (rmk_yes a w ha)
  have HMB := Lib.hid (rmk_yes b w hb)
  have HA := Lib.hid ha
  have HB := Lib.hid hb
  clear ha hb
  go_enter Tryd.func92, Tryd.ntmps92
  go_wp2_with (first
    | (go_at_call 98; with_reducible refine HMA.out.mono ?_; rintro e w1 ⟨rfl, rfl⟩)
    | (go_at_call 98; with_reducible refine HMB.out.mono ?_; rintro e w1 ⟨rfl, rfl⟩))
  go_loopw [6] (fun i wr => ∃ k : Nat, k ≤ 128 ∧ i = .int .i64 k ∧ wr = w ∧ ∀ j, j < k → bitAt a j = bitAt b j) (fun i _ => 128 - (intOf i).toNat)
  case atStart => exact ⟨0, Nat.zero_le _, rfl, rfl, fun j h => absurd h (Nat.not_lt_zero _)⟩
  case round =>
    obtain ⟨k, hk, rfl, rfl, hall⟩ := hrel
    have HAll := Lib.hid hall
    clear hall
    by_cases hlt : k < 128
    · have e2 : (k : Int) < 128 := by omega
      have hA := Lib.hid (at_any a k wr HA.out hlt)
      have hB := Lib.hid (at_any b k wr HB.out hlt)
      by_cases he : bitAt a k = bitAt b k
      · have He := Lib.hid he
        rw [← he] at hB
        clear he
        generalize bitAt a k = n at hA hB
        go_wp2_with (first
          | (go_at_call 110; with_reducible refine hA.out.mono ?_; rintro e w1 ⟨rfl, hw⟩; obtain rfl : wr = w1 := hw.symm)
          | (go_at_call 110; with_reducible refine hB.out.mono ?_; rintro e w1 ⟨rfl, hw⟩; obtain rfl : wr = w1 := hw.symm))
        go_roundw
        case rel =>
          refine ⟨k + 1, by omega, by go_num, by first | rfl | trivial, fun j hj => ?_⟩
          rcases Nat.lt_or_ge j k with h | h
          · exact HAll.out j h
          · rw [show j = k from by omega]; exact He.out
        case measure => simp [intOf]; omega
      · have hc := Lib.hid (cmn_eq (a := a) (b := b) ⟨hk, HAll.out, fun _ => he⟩)
        have hne : bitAt a k ≠ bitAt b k := he
        generalize bitAt a k = n at hA hne
        generalize bitAt b k = m at hB hne
        have hne4 : ¬ n = m := hne
        have hne5 : ¬ (n : Int) = m := by omega
        have hne3 : ((n : Int) == (m : Int)) = false := by simpa using hne5
        clear he hne
        go_wp2_with (first
          | (go_at_call 110; with_reducible refine hA.out.mono ?_; rintro e w1 ⟨rfl, hw⟩; obtain rfl : wr = w1 := hw.symm)
          | (go_at_call 110; with_reducible refine hB.out.mono ?_; rintro e w1 ⟨rfl, hw⟩; obtain rfl : wr = w1 := hw.symm))
        go_ret2
        exact ⟨by rw [hc.out]; rfl, rfl⟩
    · have hk8 : k = 128 := by omega
      subst hk8
      have hc := Lib.hid (cmn_eq (a := a) (b := b) ⟨hk, HAll.out, fun h => absurd h (by decide)⟩)
      clear hlt
      go_wp2_with fail
      go_ret2
      exact ⟨by rw [hc.out]; rfl, rfl⟩
theorem rcommon_any (a b : ByteArray) (w : World) : Calls Tryd.prog 92 #[.string a, .string b] w fun e w' => e = .returned (.tuple #[.int .i64 (cmnV a b), .int .i64 (cmnK a b)]) ∧ w' = w := by
  unfold cmnV cmnK
  by_cases h : a.size = 16 ∧ b.size = 16
  · rw [if_pos h, if_pos h]
    exact rcommon_ok a b w h.1 h.2
  · rw [if_neg h, if_neg h]
    by_cases ha : a.size = 16
    · have hb : b.size ≠ 16 := fun hb => h ⟨ha, hb⟩
      have HMA := Lib.hid (rmk_yes a w ha)
      have HMB := Lib.hid (rmk_no b w hb)
      clear h ha hb
      go_enter Tryd.func92, Tryd.ntmps92
      go_wp2_with (first
        | (go_at_call 98; with_reducible refine HMA.out.mono ?_; rintro e w1 ⟨rfl, rfl⟩)
        | (go_at_call 98; with_reducible refine HMB.out.mono ?_; rintro e w1 ⟨rfl, rfl⟩))
      go_ret2
      exact ⟨rfl, rfl⟩
    · have HMA := Lib.hid (rmk_no a w ha)
      clear h ha
      go_enter Tryd.func92, Tryd.ntmps92
      go_wp2_with (go_at_call 98; refine HMA.out.mono ?_; rintro e w1 ⟨rfl, rfl⟩)
      go_ret2
      exact ⟨rfl, rfl⟩

/-! ### Name, Of -/
theorem nameL_cons (c : UInt8) (l : List UInt8) : nameL (c :: l) = (lowB c && l.all (fun c => lowB c || digB c) && decide (l.length + 1 ≤ 12)) := rfl
theorem nameL_no {l : List UInt8} {j : Nat} {c : UInt8} (h : l[j]? = some c) (h1 : lowB c = false) (h2 : j = 0 ∨ digB c = false) : nameL l = false := by
  rcases l with _ | ⟨a, l⟩
  · rfl
  · rcases j with _ | j
    · simp only [List.getElem?_cons_zero, Option.some.injEq] at h
      rw [nameL_cons, h, h1]; rfl
    · simp only [List.getElem?_cons_succ] at h
      have h3 : digB c = false := h2.resolve_left (by omega)
      have h4 : (l.all fun c => lowB c || digB c) = false := by
        rw [Bool.eq_false_iff]
        intro h5
        have := List.all_eq_true.1 h5 c (List.mem_of_getElem? h)
        rw [h1, h3] at this
        cases this
      rw [nameL_cons, h4]; simp
theorem nameL_all {l : List UInt8} (h : ∀ j c, j < l.length → l[j]? = some c → (lowB c = true ∨ 0 < j ∧ digB c = true)) : nameL l = (decide (1 ≤ l.length) && decide (l.length ≤ 12)) := by
  rcases l with _ | ⟨a, l⟩
  · rfl
  · have h1 : lowB a = true := by
      rcases h 0 a (by simp) rfl with h | h
      · exact h
      · exact absurd h.1 (Nat.lt_irrefl _)
    have h2 : (l.all fun c => lowB c || digB c) = true := by
      rw [List.all_eq_true]
      intro c hc
      obtain ⟨j, hj⟩ := List.getElem?_of_mem hc
      rcases h (j + 1) c (by have := (List.getElem?_eq_some_iff.1 hj).1; simp; omega) (by simpa using hj) with h | h
      · rw [h]; rfl
      · rw [h.2]; simp
    rw [nameL_cons, h1, h2]
    simp
set_option maxRecDepth 20000 in
set_option maxHeartbeats 1000000 in
theorem rname_any (s : ByteArray) (w : World) (hs : s.size ≤ 1000000) : Calls Tryd.prog 90 #[.string s] w fun e w' => e = .returned (.bool (nameOk s)) ∧ w' = w := by
  have HIN := Lib.hid (rin_any (s.size : Int) 1 12 w)
  obtain ⟨N, hN⟩ : ∃ N, N = nameOk s := ⟨_, rfl⟩
  rw [← hN]
  have HN := Lib.hid hN
  clear hN
  go_enter Tryd.func90, Tryd.ntmps90
  go_wp2_with fail
  go_loopw [3, 4, 7] (fun _ _ i wr => ∃ k : Nat, k ≤ s.size ∧ i = .int .i64 k ∧ wr = w ∧ ∀ j c, j < k → s.data.toList[j]? = some c → (lowB c = true ∨ 0 < j ∧ digB c = true)) (fun _ _ i _ => s.size - (intOf i).toNat)
  case atStart => exact ⟨0, Nat.zero_le _, rfl, rfl, fun j _ h => absurd h (Nat.not_lt_zero _)⟩
  case round =>
    obtain ⟨k, hk, rfl, rfl, hall⟩ := hrel
    have HAll := Lib.hid hall
    clear hall
    by_cases hlt : k < s.size
    · have e2 : (k : Int) < s.size := by omega
      obtain ⟨c, hc⟩ : ∃ c, s[k] = c := ⟨_, rfl⟩
      have hcl : s.data.toList[k]? = some c := by rw [List.getElem?_eq_getElem (by simpa using hlt)]; rw [← hc]; rfl
      have HCL := Lib.hid hcl
      clear hcl
      have hstep : Hid ((lowB c = true ∨ 0 < k ∧ digB c = true) → ∀ j c, j < k + 1 → s.data.toList[j]? = some c → (lowB c = true ∨ 0 < j ∧ digB c = true)) := fun h0 j c' hj hc' => by
        rcases Nat.lt_or_ge j k with h | h
        · exact HAll.out j c' h hc'
        · obtain rfl : j = k := by omega
          have := HCL.out
          rw [hc'] at this
          obtain rfl := Option.some.inj this
          exact h0
      have hno : Hid (lowB c = false → (k = 0 ∨ digB c = false) → N = false) := fun h1 h2 => by
        rw [HN.out]; exact nameL_no HCL.out h1 h2
      obtain ⟨x, hx⟩ : ∃ x : Nat, x = c.toNat := ⟨_, rfl⟩
      have hlow : lowB c = (decide (97 ≤ x) && decide (x ≤ 122)) := by rw [hx]; rfl
      have hdig : digB c = (decide (48 ≤ x) && decide (x ≤ 57)) := by rw [hx]; rfl
      have hcx : (c.toNat : Int) = (x : Int) := by rw [hx]
      by_cases hlo : 97 ≤ x ∧ x ≤ 122
      · have p1 : (97 : Int) ≤ x := by omega
        have p2 : (x : Int) ≤ 122 := by omega
        have HS := Lib.hid (hstep.out (.inl (by rw [hlow, decide_eq_true hlo.1, decide_eq_true hlo.2]; rfl)))
        clear hlow hdig hlo hx hno hstep
        go_wp2_with fail
        go_roundw
        case rel => exact ⟨k + 1, by omega, by go_num, by first | rfl | trivial, HS.out⟩
        case measure => simp [intOf]; omega
      · have hlf : lowB c = false := by
          rw [hlow, Bool.eq_false_iff]; intro h
          simp only [Bool.and_eq_true, decide_eq_true_eq] at h
          exact hlo h
        have hor : ¬ (97 : Int) ≤ x ∨ (97 : Int) ≤ x ∧ ¬ (x : Int) ≤ 122 := by omega
        by_cases hk0 : k = 0
        · have hNf := hno.out hlf (.inl hk0)
          subst hNf hk0
          clear hlow hdig hlo hx hno hstep HN hlf
          rcases hor with p1 | ⟨p1, p2⟩
          all_goals
            go_wp2_with fail
            go_ret
            exact ⟨rfl, rfl⟩
        · have hk1 : ¬ (k : Int) = 0 := by omega
          have hk2 : ((k : Int) == 0) = false := by rw [beq_eq_false_iff_ne]; exact hk1
          by_cases hdg : 48 ≤ x ∧ x ≤ 57
          · have p3 : (48 : Int) ≤ x := by omega
            have p4 : (x : Int) ≤ 57 := by omega
            have HS := Lib.hid (hstep.out (.inr ⟨by omega, by rw [hdig, decide_eq_true hdg.1, decide_eq_true hdg.2]; rfl⟩))
            have p1 : ¬ (97 : Int) ≤ x := by omega
            clear hlow hdig hlo hx hno hstep hdg hor hlf
            go_wp2_with fail
            go_roundw
            case rel => exact ⟨k + 1, by omega, by go_num, by first | rfl | trivial, HS.out⟩
            case measure => simp [intOf]; omega
          · have hdf : digB c = false := by
              rw [hdig, Bool.eq_false_iff]; intro h
              simp only [Bool.and_eq_true, decide_eq_true_eq] at h
              exact hdg h
            have hNf := hno.out hlf (.inr hdf)
            subst hNf
            have hor2 : ¬ (48 : Int) ≤ x ∨ (48 : Int) ≤ x ∧ ¬ (x : Int) ≤ 57 := by omega
            clear hlow hdig hlo hx hno hstep hdg HN hlf hdf
            rcases hor with p1 | ⟨p1, p2⟩ <;> rcases hor2 with p3 | ⟨p3, p4⟩
            all_goals
              go_wp2_with fail
              go_ret
              exact ⟨rfl, rfl⟩
    · have e2 : ¬ (k : Int) < s.size := by omega
      have hd1 : decide (k < s.size) = false := decide_eq_false hlt
      have hks : k = s.size := by omega
      have hfin : Hid (N = (decide ((1 : Int) ≤ s.size) && decide ((s.size : Int) ≤ 12))) := by
        unfold Hid
        have hl : s.data.toList.length = s.size := by simp
        rw [HN.out]; unfold nameOk
        rw [nameL_all (fun j c hj hc => HAll.out j c (by omega) hc), hl]
        congr 1 <;> exact decide_eq_decide.2 (by omega)
      rw [← hfin.out] at HIN
      clear hks hlt
      go_wp2_with (go_at_call 117; refine HIN.out.mono ?_; rintro e w1 ⟨rfl, rfl⟩)
      go_ret
      exact ⟨rfl, rfl⟩

theorem rmark1 (r : Nat) (c : UInt8) (n : Int) (hn : n = (c.toNat : Int)) (p : ByteArray) (w : World) (hp : p.size ≤ 1000000) (hr : RAt w r) :
    Calls Tryd.prog 22 #[.pointer (some ⟨r, 0, none⟩), .int .u8 n, .slice (some ⟨w.heap.size, 0, none⟩) 1 1] (w.alloc (.cells #[.string p] 9)) fun e w' => e = .returned (.string (markS c [p])) ∧ Below w.heap.size w w' := by
  subst hn
  have hb : Below w.heap.size w (w.alloc (.cells #[.string p] 9)) := (Below.refl _ _).alloc (Nat.le_refl _) _
  refine (rmark_any r c _ [p] _ (hr.mono hb) (Reads.lit w 9 1 1 [.string p] rfl) (mark1_small c p hp)).mono ?_
  rintro e w' ⟨rfl, h⟩
  exact ⟨rfl, hb.trans (h.mono hb.size)⟩
theorem rof_any (r : Nat) (name : ByteArray) (w : World) (hs : name.size ≤ 1000000) (hr : RAt w r) :
    Calls Tryd.prog 88 #[.pointer (some ⟨r, 0, none⟩), .string name] w fun e w' => e = .returned (.tuple #[.string (ofS name), .int .i64 (ofK name)]) ∧ Below w.heap.size w w' := by
  have HN := Lib.hid (rname_any name w hs)
  have Hr := Lib.hid hr
  have hRefl := Below.refl w.heap.size w
  clear hr
  unfold ofS ofK
  cases hok : nameOk name with
  | false =>
    rw [hok] at HN
    go_enter Tryd.func88, Tryd.ntmps88
    go_wp2_with (go_at_call 90; refine HN.out.mono ?_; rintro e w1 ⟨rfl, hw⟩; obtain rfl : w = w1 := hw.symm)
    go_ret2
    exact ⟨rfl, hRefl⟩
  | true =>
    rw [hok] at HN
    go_enter Tryd.func88, Tryd.ntmps88
    go_wp2_with (first
      | (go_at_call 90; refine HN.out.mono ?_; rintro e w1 ⟨rfl, hw⟩; obtain rfl : w = w1 := hw.symm)
      | (go_at_call 22; refine (rmark1 r 105 _ rfl name _ hs Hr.out).mono ?_; rintro e w2 ⟨rfl, hB2⟩))
    go_ret2
    exact ⟨rfl, hB2⟩
end Go.Proofs.YtfhjnfocmlndpaaDoor
