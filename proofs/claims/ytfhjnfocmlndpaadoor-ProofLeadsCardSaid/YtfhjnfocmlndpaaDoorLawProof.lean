/- The law ProofLeads: it returns true. -/
import Derived.Test.YtfhjnfocmlndpaaDoorRPVerify
import Derived.Test.YtfhjnfocmlndpaaDoorGrownM
import Derived.Test.YtfhjnfocmlndpaaDoorLawOnce
namespace Go.Proofs.YtfhjnfocmlndpaaDoor
open Go Go.RowKit Go.Proofs

theorem longs_no (v : Value) (l : List ByteArray) (w : World) (hv : Reads w v l.length 1 (l.map Value.string)) (hf : Few l) : Calls Tryd.prog 13 #[v] w fun e w' => e = .returned (.bool false) ∧ w' = w := by
  obtain ⟨a, cap, rfl, hc⟩ := hv.shape
  obtain ⟨n, hn⟩ : ∃ n, n = l.length := ⟨_, rfl⟩
  have Hc := Lib.hid hc
  have Hn := Lib.hid hn
  have Hf := Lib.hid hf
  have e1 : ¬ (140 : Int) < n := by have := hf.1; omega
  rw [← hn]
  clear hn hv hc hf
  go_enter Tryd.func13, Tryd.ntmps13
  go_wp2_with fail
  go_loopw [3] (fun i wr => ∃ k : Nat, k ≤ n ∧ i = .int .i64 k ∧ wr = w) (fun i _ => n - (intOf i).toNat)
  case atStart => exact ⟨0, Nat.zero_le _, rfl, rfl⟩
  case round =>
    obtain ⟨k, hk, rfl, rfl⟩ := hrel
    by_cases hlt : k < n
    · have hkl : k < l.length := by have := Hn.out; omega
      obtain ⟨p, hp⟩ : ∃ p, l[k]? = some p := ⟨l[k], List.getElem?_eq_getElem hkl⟩
      obtain ⟨b, off, rfl, hcell⟩ := Hc.out k p hp
      have HL := Lib.hid (long_no p wr (Hf.out.2 p (List.mem_of_getElem? hp)))
      have e2 : (k : Int) < n := by omega
      clear hp
      go_wp2_with (go_at_call 23; refine HL.out.mono ?_; rintro e w1 ⟨rfl, hw⟩; have hw2 := hw.symm; subst hw2)
      go_roundw
      case rel => exact ⟨k + 1, by omega, by go_num, by first | rfl | trivial⟩
      case measure => simp [intOf]; omega
    · have e2 : ¬ (k : Int) < n := by omega
      go_wp2_with fail
      go_ret
      exact ⟨rfl, rfl⟩

set_option maxRecDepth 100000 in
set_option maxHeartbeats 4000000 in
theorem law_proofLeads_ok (root ix : ByteArray) (pv : Value) (path : List ByteArray) (li lc o v : ByteArray) (w : World) (hv : Reads w pv path.length 1 (path.map Value.string)) (hl : path.length ≤ 1000000)
    (hk : KAt w 0) (he : EAt w) (hroot : root.size ≤ 60) (hix : ix.size ≤ 60) (hf : Few path) (hli : li.size ≤ 60) (hlc : lc.size ≤ 60) (ho : o.size ≤ 60) (hvv : v.size ≤ 60) :
    Calls Tryd.prog 5 #[.string root, .string ix, .agg #[pv, .string li, .string lc], .string o, .string v] w fun e w' => e = .returned (.bool true) ∧ Below w.heap.size w w' := by
  obtain ⟨a, cap, rfl, -⟩ := hv.shape
  have H1 := Lib.hid (fun W => long_no root W hroot)
  have H2 := Lib.hid (fun W => long_no ix W hix)
  have H3 := Lib.hid (fun W (hb : Below w.heap.size w W) => longs_no _ path W (hv.mono hb) hf)
  have H4 := Lib.hid (fun W => long_no li W hli)
  have H5 := Lib.hid (fun W => long_no lc W hlc)
  have H6 := Lib.hid (fun W => long_no o W ho)
  have H7 := Lib.hid (fun W => long_no v W hvv)
  have HRR := Lib.hid (fun r W (hb : Below w.heap.size w W) hR => rproot_any r ix (.slice a path.length cap) path li lc W (hv.mono hb) hl hR)
  have HPR := Lib.hid (fun W (hb : Below w.heap.size w W) => proot_any ix (.slice a path.length cap) path li lc W (hv.mono hb) hl (hk.mono hb))
  have HPP := Lib.hid (fun W (hb : Below w.heap.size w W) => pright_any ix (.slice a path.length cap) path li lc W (hv.mono hb) hl)
  have HRP := Lib.hid (fun W (hb : Below w.heap.size w W) => rpright_any ix (.slice a path.length cap) path li lc W (hv.mono hb) hl)
  have HRV := Lib.hid (fun root r W (hb : Below w.heap.size w W) hR => rverify_any r root ix (.slice a path.length cap) path li lc W (hv.mono hb) hl hR)
  have HPV := Lib.hid (fun root W (hb : Below w.heap.size w W) => pverify_any root ix (.slice a path.length cap) path li lc W (hv.mono hb) hl (hk.mono hb))
  have HRC := Lib.hid (fun r W hR => rcommit_any r o v W hR)
  have HPC := Lib.hid (fun W (hb : Below w.heap.size w W) => pcommit_any o v W (hk.mono hb))
  have He := Lib.hid he
  have hRefl := Below.refl w.heap.size w
  clear hk he hv hl hroot hix hf hli hlc ho hvv
  unfold StrPost at HPR HPC
  generalize prootS ix path li lc = PS at *
  generalize prootK ix path li lc = PK at *
  generalize rightB ix path li lc = RB at *
  generalize commitS o v = CS at *
  generalize commitK o v = CK at *
  generalize path.length = n at *
  have hWb : Below w.heap.size w (w.alloc (.cells #[.slice a n cap, .string li, .string lc] 51)) := (Below.refl _ _).alloc (Nat.le_refl _) _
  have hP : Row3 (w.alloc (.cells #[.slice a n cap, .string li, .string lc] 51)) w.heap.size (.slice a n cap) (.string li) (.string lc) := Row3.of_row (T := 51) (heap_alloc_new _ _)
  have hPk := hP
  obtain ⟨p0, p1, p2, -, -, -⟩ := hPk
  go_enter Tryd.func5, Tryd.ntmps5
  go_wp2_with (first
    | (go_at_call 23; with_reducible refine (H1.out _).mono ?_; rintro e w1 ⟨rfl, hw⟩; have hw2 := hw.symm; subst hw2)
    | (go_at_call 23; with_reducible refine (H2.out _).mono ?_; rintro e w1 ⟨rfl, hw⟩; have hw2 := hw.symm; subst hw2)
    | (go_at_call 23; with_reducible refine (H4.out _).mono ?_; rintro e w1 ⟨rfl, hw⟩; have hw2 := hw.symm; subst hw2)
    | (go_at_call 23; with_reducible refine (H5.out _).mono ?_; rintro e w1 ⟨rfl, hw⟩; have hw2 := hw.symm; subst hw2)
    | (go_at_call 23; with_reducible refine (H6.out _).mono ?_; rintro e w1 ⟨rfl, hw⟩; have hw2 := hw.symm; subst hw2)
    | (go_at_call 23; with_reducible refine (H7.out _).mono ?_; rintro e w1 ⟨rfl, hw⟩; have hw2 := hw.symm; subst hw2)
    | (go_at_call 13; refine (H3.out _ hWb).mono ?_; rintro e w1 ⟨rfl, hw⟩; have hw2 := hw.symm; subst hw2)
    | (go_at_call 14; refine (new_any _).mono ?_; rintro e w1 ⟨r, rfl, hR1, hr1, hB1⟩; have S1 : St w r w1 := ⟨hWb.trans (hB1.mono hWb.size), hR1⟩; have P1 := hP.mono hB1; have P1k := P1; obtain ⟨q0, q1, q2, -, -, -⟩ := P1k)
    | (go_at_call 32; refine (HRR.out r _ S1.below S1.ref).mono ?_; rintro e w2 ⟨rfl, hB2⟩; have S2 := S1.step hB2; have P2 := P1.mono hB2; have P2k := P2; obtain ⟨r0, r1, r2, -, -, -⟩ := P2k)
    | (go_at_call 33; refine (HPR.out _ S2.below).mono ?_; rintro e w3 ⟨rfl, hB3⟩; have S3 := S2.step hB3; have P3 := P2.mono hB3; have P3k := P3; obtain ⟨s0, s1, s2, -, -, -⟩ := P3k))
  have x0 := fun x : Grown w3 => x.cell s0
  have x1 := fun x : Grown w3 => x.cell s1
  have x2 := fun x : Grown w3 => x.cell s2
  have He3 := Lib.hid (He.out.mono S3.below)
  refine wp_region_grown (by kernel_rfl) (by kernel_rfl) ?_
  repeat (quiet_step (first
    | (go_at_call 26; rename_i y; exact Grown.call y (bare_same (errV PK) _ _ (errV_is _) (He3.out.mono y.below)))
    | (go_at_call 34; rename_i y; exact Grown.call y (HPP.out _ (S3.step y.below).below))
    | (go_at_call 35; rename_i y; exact Grown.call y (HRP.out _ (S3.step y.below).below))))
  refine wpQuiet_nil ?_
  intro y
  have S4 := S3.step y.below
  have P4 := P3.mono y.below
  generalize y.val = w4 at S4 P4 ⊢
  clear x0 x1 x2 y
  clear p0 p1 p2 q0 q1 q2 r0 r1 r2 s0 s1 s2 P1 P2 P3 S1 S2 S3 hB1 hB2 hB3 hP hWb hR1 hr1 H1 H2 H3 H4 H5 H6 H7 HRR HPR HPP HRP He3
  go_wp2_with fail
  obtain ⟨W, hW⟩ : ∃ W, W = w4.alloc (.cells #[.string root, .string PS] 9) := ⟨_, rfl⟩
  have d0 : W.cell? ⟨w4.heap.size, 0, none⟩ = some (.string root) := by rw [hW, cell_of_row _ _ _ _ _ _ (heap_alloc_new _ _)]; rfl
  have d1 : W.cell? ⟨w4.heap.size, 1, none⟩ = some (.string PS) := by rw [hW, cell_of_row _ _ _ _ _ _ (heap_alloc_new _ _)]; rfl
  have hb9 : Below w4.heap.size w4 W := by rw [hW]; exact (Below.refl _ _).alloc (Nat.le_refl _) _
  have hz9 : w4.heap.size < W.heap.size := by rw [hW]; simp
  have S9 := S4.step hb9
  have P9 := P4.mono hb9
  have P9k := P9
  obtain ⟨t0, t1, t2, -, -, -⟩ := P9k
  rw [← hW]
  clear hW S4 P4 hb9
  refine wp_loop_rounds 3 ?_
  rw [rounds_succ]
  go_wp2_with (first
    | (go_at_call 36; refine (HRV.out root r _ S9.below S9.ref).mono ?_; rintro e w1 ⟨rfl, hB1⟩; have S1 := S9.step hB1; have P1 := P9.mono hB1; have P1k := P1; obtain ⟨q0, q1, q2, -, -, -⟩ := P1k)
    | (go_at_call 37; refine (HPV.out root _ S1.below).mono ?_; rintro e w2 ⟨rfl, hB2⟩; have S2 := S1.step hB2)
    | (go_at_call 26; refine (bare_same _ _ _ (errV_is _) (He.out.mono S2.below)).mono ?_; rintro e w3 ⟨rfl, hB3⟩; have S3 := S2.step hB3))
  have hb3 : Below W.heap.size W w3 := (hB1.trans (hB2.mono hB1.size)).trans (hB3.mono (Nat.le_trans hB1.size hB2.size))
  have e1 : w3.cell? ⟨w4.heap.size, 1, none⟩ = some (.string PS) := by rw [hb3.cell (by exact hz9)]; exact d1
  have P3 := P9.mono hb3
  have P3k := P3
  obtain ⟨s0, s1, s2, -, -, -⟩ := P3k
  clear hb3 hB1 hB2 hB3 S1 S2 d0 d1 hz9 t0 t1 t2 q0 q1 q2 P1 P9
  rw [rounds_succ]
  go_wp2_with (first
    | (go_at_call 36; refine (HRV.out PS r _ S3.below S3.ref).mono ?_; rintro e w5 ⟨rfl, hB5⟩; have S5 := S3.step hB5; have P5 := P3.mono hB5; have P5k := P5; obtain ⟨q0, q1, q2, -, -, -⟩ := P5k)
    | (go_at_call 37; refine (HPV.out PS _ S5.below).mono ?_; rintro e w6 ⟨rfl, hB6⟩; have S6 := S5.step hB6)
    | (go_at_call 26; refine (bare_same _ _ _ (errV_is _) (He.out.mono S6.below)).mono ?_; rintro e w7 ⟨rfl, hB7⟩; have S7 := S6.step hB7))
  rw [rounds_succ]
  go_wp2_with (first
    | (go_at_call 38; refine (HRC.out r _ S7.ref).mono ?_; rintro e w8 ⟨rfl, hB8⟩; have S8 := S7.step hB8)
    | (go_at_call 39; refine (HPC.out _ S8.below).mono ?_; rintro e w10 ⟨rfl, hB10⟩; have S10 := S8.step hB10)
    | (go_at_call 26; refine (bare_same _ _ _ (errV_is _) (He.out.mono S10.below)).mono ?_; rintro e w11 ⟨rfl, hB11⟩; have S11 := S10.step hB11))
  go_ret
  exact ⟨rfl, S11.below⟩

set_option maxRecDepth 100000 in
set_option maxHeartbeats 4000000 in
theorem law_proofLeads (root ix : ByteArray) (pv : Value) (path : List ByteArray) (li lc o v : ByteArray) (w : World) (hv : Reads w pv path.length 1 (path.map Value.string))
    (hk : KAt w 0) (he : EAt w) :
    Calls Tryd.prog 5 #[.string root, .string ix, .agg #[pv, .string li, .string lc], .string o, .string v] w fun e w' => e = .returned (.bool true) ∧ Below w.heap.size w w' := by
  obtain ⟨a, cap, rfl, -⟩ := hv.shape
  have hWb : Below w.heap.size w (w.alloc (.cells #[.slice a path.length cap, .string li, .string lc] 51)) := (Below.refl _ _).alloc (Nat.le_refl _) _
  have hP : Row3 (w.alloc (.cells #[.slice a path.length cap, .string li, .string lc] 51)) w.heap.size (.slice a path.length cap) (.string li) (.string lc) := Row3.of_row (T := 51) (heap_alloc_new _ _)
  obtain ⟨p0, p1, p2, -, -, -⟩ := hP
  by_cases c0 : root.size ≤ 60
  rotate_left
  · have HY := Lib.hid (fun W => long_yes root W c0)
    clear hv hk he c0
    generalize path.length = n at *
    go_enter Tryd.func5, Tryd.ntmps5
    go_wp2_with (first
      | (go_at_call 23; with_reducible refine (HY.out _).mono ?_; rintro e w1 ⟨rfl, hw⟩; have hw2 := hw.symm; subst hw2))
    go_ret
    exact ⟨rfl, hWb⟩
  by_cases c1 : ix.size ≤ 60
  rotate_left
  · have HY := Lib.hid (fun W => long_yes ix W c1)
    have H0 := Lib.hid (fun W => long_no root W c0)
    clear hv hk he c0 c1
    generalize path.length = n at *
    go_enter Tryd.func5, Tryd.ntmps5
    go_wp2_with (first
      | (go_at_call 23; with_reducible refine (H0.out _).mono ?_; rintro e w1 ⟨rfl, hw⟩; have hw2 := hw.symm; subst hw2)
      | (go_at_call 23; with_reducible refine (HY.out _).mono ?_; rintro e w1 ⟨rfl, hw⟩; have hw2 := hw.symm; subst hw2))
    go_ret
    exact ⟨rfl, hWb⟩
  by_cases c2 : Few path
  rotate_left
  · have HY := Lib.hid (fun W (hb : Below w.heap.size w W) => longs_yes _ path W (hv.mono hb) c2)
    have H0 := Lib.hid (fun W => long_no root W c0)
    have H1 := Lib.hid (fun W => long_no ix W c1)
    clear hv hk he c0 c1 c2
    generalize path.length = n at *
    go_enter Tryd.func5, Tryd.ntmps5
    go_wp2_with (first
      | (go_at_call 23; with_reducible refine (H0.out _).mono ?_; rintro e w1 ⟨rfl, hw⟩; have hw2 := hw.symm; subst hw2)
      | (go_at_call 23; with_reducible refine (H1.out _).mono ?_; rintro e w1 ⟨rfl, hw⟩; have hw2 := hw.symm; subst hw2)
      | (go_at_call 13; with_reducible refine (HY.out _ hWb).mono ?_; rintro e w1 ⟨rfl, hw⟩; have hw2 := hw.symm; subst hw2))
    go_ret
    exact ⟨rfl, hWb⟩
  by_cases c3 : li.size ≤ 60
  rotate_left
  · have HY := Lib.hid (fun W => long_yes li W c3)
    have H0 := Lib.hid (fun W => long_no root W c0)
    have H1 := Lib.hid (fun W => long_no ix W c1)
    have H2 := Lib.hid (fun W (hb : Below w.heap.size w W) => longs_no _ path W (hv.mono hb) c2)
    clear hv hk he c0 c1 c2 c3
    generalize path.length = n at *
    go_enter Tryd.func5, Tryd.ntmps5
    go_wp2_with (first
      | (go_at_call 23; with_reducible refine (H0.out _).mono ?_; rintro e w1 ⟨rfl, hw⟩; have hw2 := hw.symm; subst hw2)
      | (go_at_call 23; with_reducible refine (H1.out _).mono ?_; rintro e w1 ⟨rfl, hw⟩; have hw2 := hw.symm; subst hw2)
      | (go_at_call 13; with_reducible refine (H2.out _ hWb).mono ?_; rintro e w1 ⟨rfl, hw⟩; have hw2 := hw.symm; subst hw2)
      | (go_at_call 23; with_reducible refine (HY.out _).mono ?_; rintro e w1 ⟨rfl, hw⟩; have hw2 := hw.symm; subst hw2))
    go_ret
    exact ⟨rfl, hWb⟩
  by_cases c4 : lc.size ≤ 60
  rotate_left
  · have HY := Lib.hid (fun W => long_yes lc W c4)
    have H0 := Lib.hid (fun W => long_no root W c0)
    have H1 := Lib.hid (fun W => long_no ix W c1)
    have H2 := Lib.hid (fun W (hb : Below w.heap.size w W) => longs_no _ path W (hv.mono hb) c2)
    have H3 := Lib.hid (fun W => long_no li W c3)
    clear hv hk he c0 c1 c2 c3 c4
    generalize path.length = n at *
    go_enter Tryd.func5, Tryd.ntmps5
    go_wp2_with (first
      | (go_at_call 23; with_reducible refine (H0.out _).mono ?_; rintro e w1 ⟨rfl, hw⟩; have hw2 := hw.symm; subst hw2)
      | (go_at_call 23; with_reducible refine (H1.out _).mono ?_; rintro e w1 ⟨rfl, hw⟩; have hw2 := hw.symm; subst hw2)
      | (go_at_call 13; with_reducible refine (H2.out _ hWb).mono ?_; rintro e w1 ⟨rfl, hw⟩; have hw2 := hw.symm; subst hw2)
      | (go_at_call 23; with_reducible refine (H3.out _).mono ?_; rintro e w1 ⟨rfl, hw⟩; have hw2 := hw.symm; subst hw2)
      | (go_at_call 23; with_reducible refine (HY.out _).mono ?_; rintro e w1 ⟨rfl, hw⟩; have hw2 := hw.symm; subst hw2))
    go_ret
    exact ⟨rfl, hWb⟩
  by_cases c5 : o.size ≤ 60
  rotate_left
  · have HY := Lib.hid (fun W => long_yes o W c5)
    have H0 := Lib.hid (fun W => long_no root W c0)
    have H1 := Lib.hid (fun W => long_no ix W c1)
    have H2 := Lib.hid (fun W (hb : Below w.heap.size w W) => longs_no _ path W (hv.mono hb) c2)
    have H3 := Lib.hid (fun W => long_no li W c3)
    have H4 := Lib.hid (fun W => long_no lc W c4)
    clear hv hk he c0 c1 c2 c3 c4 c5
    generalize path.length = n at *
    go_enter Tryd.func5, Tryd.ntmps5
    go_wp2_with (first
      | (go_at_call 23; with_reducible refine (H0.out _).mono ?_; rintro e w1 ⟨rfl, hw⟩; have hw2 := hw.symm; subst hw2)
      | (go_at_call 23; with_reducible refine (H1.out _).mono ?_; rintro e w1 ⟨rfl, hw⟩; have hw2 := hw.symm; subst hw2)
      | (go_at_call 13; with_reducible refine (H2.out _ hWb).mono ?_; rintro e w1 ⟨rfl, hw⟩; have hw2 := hw.symm; subst hw2)
      | (go_at_call 23; with_reducible refine (H3.out _).mono ?_; rintro e w1 ⟨rfl, hw⟩; have hw2 := hw.symm; subst hw2)
      | (go_at_call 23; with_reducible refine (H4.out _).mono ?_; rintro e w1 ⟨rfl, hw⟩; have hw2 := hw.symm; subst hw2)
      | (go_at_call 23; with_reducible refine (HY.out _).mono ?_; rintro e w1 ⟨rfl, hw⟩; have hw2 := hw.symm; subst hw2))
    go_ret
    exact ⟨rfl, hWb⟩
  by_cases c6 : v.size ≤ 60
  rotate_left
  · have HY := Lib.hid (fun W => long_yes v W c6)
    have H0 := Lib.hid (fun W => long_no root W c0)
    have H1 := Lib.hid (fun W => long_no ix W c1)
    have H2 := Lib.hid (fun W (hb : Below w.heap.size w W) => longs_no _ path W (hv.mono hb) c2)
    have H3 := Lib.hid (fun W => long_no li W c3)
    have H4 := Lib.hid (fun W => long_no lc W c4)
    have H5 := Lib.hid (fun W => long_no o W c5)
    clear hv hk he c0 c1 c2 c3 c4 c5 c6
    generalize path.length = n at *
    go_enter Tryd.func5, Tryd.ntmps5
    go_wp2_with (first
      | (go_at_call 23; with_reducible refine (H0.out _).mono ?_; rintro e w1 ⟨rfl, hw⟩; have hw2 := hw.symm; subst hw2)
      | (go_at_call 23; with_reducible refine (H1.out _).mono ?_; rintro e w1 ⟨rfl, hw⟩; have hw2 := hw.symm; subst hw2)
      | (go_at_call 13; with_reducible refine (H2.out _ hWb).mono ?_; rintro e w1 ⟨rfl, hw⟩; have hw2 := hw.symm; subst hw2)
      | (go_at_call 23; with_reducible refine (H3.out _).mono ?_; rintro e w1 ⟨rfl, hw⟩; have hw2 := hw.symm; subst hw2)
      | (go_at_call 23; with_reducible refine (H4.out _).mono ?_; rintro e w1 ⟨rfl, hw⟩; have hw2 := hw.symm; subst hw2)
      | (go_at_call 23; with_reducible refine (H5.out _).mono ?_; rintro e w1 ⟨rfl, hw⟩; have hw2 := hw.symm; subst hw2)
      | (go_at_call 23; with_reducible refine (HY.out _).mono ?_; rintro e w1 ⟨rfl, hw⟩; have hw2 := hw.symm; subst hw2))
    go_ret
    exact ⟨rfl, hWb⟩
  exact law_proofLeads_ok root ix _ path li lc o v w hv (by have := c2.1; omega) hk he c0 c1 c2 c3 c4 c5 c6
end Go.Proofs.YtfhjnfocmlndpaaDoor
