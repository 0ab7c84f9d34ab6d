/- seal.Verify. (Printed by wip/gen_seal.py.) -/
import Derived.Test.YtfhjnfocmlndpaaDoorSjSealP
import Derived.Test.YtfhjnfocmlndpaaDoorSjOnceG
namespace Go.Proofs.YtfhjnfocmlndpaaDoor
open Go Go.RowKit Go.Proofs

set_option maxRecDepth 20000 in
set_option maxHeartbeats 4000000 in
theorem psv_0 (pub mark F x y z : ByteArray) (sa : Option Addr) (ns sc : Nat) (pb po pc : Nat) (w : World) (hF : F.size = 16) (hx : x.size = 16) (hy : y.size = 16) (hz : z.size = 16) (hk : KAt w 0)
    (HC : Hid (∀ W, Below w.heap.size w W → W.cell? ⟨pb, po, none⟩ = some (.string x) ∧ W.cell? ⟨pb, po + 1, none⟩ = some (.string y) ∧ W.cell? ⟨pb, po + 2, none⟩ = some (.string z)))
    (HH : Hid (∀ W, Below w.heap.size w W → Calls Tryd.prog 106 #[(.slice (some ⟨pb, po, none⟩) 3 pc), .func (Fn.func 131) #[] #[]] W fun e w' => e = .returned (.bool false) ∧ w' = W))
    (HF : Hid (∀ W, Below w.heap.size w W → Calls Tryd.prog 31 #[.string mark, .slice sa ns sc] W fun e w' => e = .returned (.tuple #[.string F, .nilIface]) ∧ Below W.heap.size W w')) :
    Calls Tryd.prog 58 #[.string pub, .string mark, .agg #[.int .i64 0, .slice sa ns sc, .slice (some ⟨pb, po, none⟩) 3 pc]] w (VerPost (sealTop 0 F [x, y, z]) pub w) := by
  have hb : Below w.heap.size w (w.alloc (.cells #[.int .i64 0, .slice sa ns sc, .slice (some ⟨pb, po, none⟩) 3 pc] 65)) := (Below.refl _ _).alloc (Nat.le_refl _) _
  have hP : Row3 (w.alloc (.cells #[.int .i64 0, .slice sa ns sc, .slice (some ⟨pb, po, none⟩) 3 pc] 65)) w.heap.size (.int .i64 0) (.slice sa ns sc) (.slice (some ⟨pb, po, none⟩) 3 pc) := Row3.of_row (T := 65) (heap_alloc_new _ _)
  have hPk := hP
  obtain ⟨p0, p1, p2, -, -, -⟩ := hPk
  have hT : ∃ T0 T1 T2 T3 : ByteArray, T0 = keyT 0 F ∧ T1 = upM T0 x ∧ T2 = upM T1 y ∧ T3 = upM T2 z ∧ sealTop 0 F [x, y, z] = T3 := ⟨_, _, _, _, rfl, rfl, rfl, rfl, by simp [sealTop, stepT]⟩
  obtain ⟨T0, T1, T2, T3, e0, e1, e2, e3, eS⟩ := hT
  rw [eS]
  have s0 : T0.size = 16 := by rw [e0]; exact keyT_size _ _
  have s1 : T1.size = 16 := by rw [e1]; exact upM_size _ _
  have s2 : T2.size = 16 := by rw [e2]; exact upM_size _ _
  have HM0 : Hid (∀ W, Below w.heap.size w W → Calls Tryd.prog 21 #[.int .u8 116, .slice (some ⟨W.heap.size, 0, none⟩) 2 2] (W.alloc (.cells #[.string (numS 0), .string F] 9)) fun e w' => e = .returned (.string T0) ∧ Below W.heap.size W w') := fun W hW => by rw [e0]; exact mark2 116 _ rfl _ _ W (by first | omega | (rw [numS_size]; omega)) (by omega) (hk.mono hW)
  have HM1 : Hid (∀ W, Below w.heap.size w W → Calls Tryd.prog 21 #[.int .u8 117, .slice (some ⟨W.heap.size, 0, none⟩) 2 2] (W.alloc (.cells #[.string T0, .string x] 9)) fun e w' => e = .returned (.string T1) ∧ Below W.heap.size W w') := fun W hW => by rw [e1]; exact mark2 117 _ rfl _ _ W (by first | omega | (rw [numS_size]; omega)) (by omega) (hk.mono hW)
  have HM2 : Hid (∀ W, Below w.heap.size w W → Calls Tryd.prog 21 #[.int .u8 117, .slice (some ⟨W.heap.size, 0, none⟩) 2 2] (W.alloc (.cells #[.string T1, .string y] 9)) fun e w' => e = .returned (.string T2) ∧ Below W.heap.size W w') := fun W hW => by rw [e2]; exact mark2 117 _ rfl _ _ W (by first | omega | (rw [numS_size]; omega)) (by omega) (hk.mono hW)
  have HM3 : Hid (∀ W, Below w.heap.size w W → Calls Tryd.prog 21 #[.int .u8 117, .slice (some ⟨W.heap.size, 0, none⟩) 2 2] (W.alloc (.cells #[.string T2, .string z] 9)) fun e w' => e = .returned (.string T3) ∧ Below W.heap.size W w') := fun W hW => by rw [e3]; exact mark2 117 _ rfl _ _ W (by first | omega | (rw [numS_size]; omega)) (by omega) (hk.mono hW)
  have HN := Lib.hid (fun W => num_any 0 W (by decide) (by decide))
  clear hk hF hx hy hz e0 e1 e2 e3 eS s0 s1 s2
  go_enter Tryd.func58, Tryd.ntmps58
  go_wp2_with (first
    | (go_at_call 106; refine (HH.out _ hb).mono ?_; rintro e w1 ⟨rfl, hw⟩; have hw2 := hw.symm; subst hw2)
    | (go_at_call 31; refine (HF.out _ hb).mono ?_; rintro e w1 ⟨rfl, hB1⟩; have C1 := hb.trans (hB1.mono hb.size); have P1 := hP.mono hB1; have P1k := P1; obtain ⟨q0, q1, q2, -, -, -⟩ := P1k)
    | (go_at_call 19; refine (HN.out _).mono ?_; rintro e w2 ⟨rfl, hB2⟩; have C2 := C1.trans (hB2.mono C1.size); have P2 := P1.mono hB2)
    | (go_at_call 21; with_reducible refine (HM0.out _ C2).mono ?_; rintro e w3 ⟨rfl, hB3⟩; have C3 := C2.trans (hB3.mono C2.size); have P3 := P2.mono hB3; have P3k := P3; obtain ⟨r0, r1, r2, -, -, -⟩ := P3k; obtain ⟨x3, y3, z3⟩ := HC.out _ C3))
  refine wp_loop_rounds 4 ?_
  rw [rounds_succ]
  go_wp2_with (go_at_call 21; refine (HM1.out _ C3).mono ?_; rintro e u1 ⟨rfl, hD1⟩; have D1 := C3.trans (hD1.mono C3.size); obtain ⟨x4, y4, z4⟩ := HC.out _ D1)
  rw [rounds_succ]
  go_wp2_with (go_at_call 21; refine (HM2.out _ D1).mono ?_; rintro e u2 ⟨rfl, hD2⟩; have D2 := D1.trans (hD2.mono D1.size); obtain ⟨x5, y5, z5⟩ := HC.out _ D2)
  rw [rounds_succ]
  go_wp2_with (go_at_call 21; refine (HM3.out _ D2).mono ?_; rintro e u3 ⟨rfl, hD3⟩; have D3 := D2.trans (hD3.mono D2.size); obtain ⟨x6, y6, z6⟩ := HC.out _ D3)
  rw [rounds_succ]
  go_wp2_with fail
  go_ret
  refine ⟨_, rfl, ?_, D3⟩
  first | (rw [beq_iff_eq]; exact toList_iff) | (rw [decide_eq_true_iff]; exact toList_iff) | (simp; exact toList_iff)
set_option maxRecDepth 20000 in
set_option maxHeartbeats 4000000 in
theorem psv_1 (pub mark F x y z : ByteArray) (sa : Option Addr) (ns sc : Nat) (pb po pc : Nat) (w : World) (hF : F.size = 16) (hx : x.size = 16) (hy : y.size = 16) (hz : z.size = 16) (hk : KAt w 0)
    (HC : Hid (∀ W, Below w.heap.size w W → W.cell? ⟨pb, po, none⟩ = some (.string x) ∧ W.cell? ⟨pb, po + 1, none⟩ = some (.string y) ∧ W.cell? ⟨pb, po + 2, none⟩ = some (.string z)))
    (HH : Hid (∀ W, Below w.heap.size w W → Calls Tryd.prog 106 #[(.slice (some ⟨pb, po, none⟩) 3 pc), .func (Fn.func 131) #[] #[]] W fun e w' => e = .returned (.bool false) ∧ w' = W))
    (HF : Hid (∀ W, Below w.heap.size w W → Calls Tryd.prog 31 #[.string mark, .slice sa ns sc] W fun e w' => e = .returned (.tuple #[.string F, .nilIface]) ∧ Below W.heap.size W w')) :
    Calls Tryd.prog 58 #[.string pub, .string mark, .agg #[.int .i64 1, .slice sa ns sc, .slice (some ⟨pb, po, none⟩) 3 pc]] w (VerPost (sealTop 1 F [x, y, z]) pub w) := by
  have hb : Below w.heap.size w (w.alloc (.cells #[.int .i64 1, .slice sa ns sc, .slice (some ⟨pb, po, none⟩) 3 pc] 65)) := (Below.refl _ _).alloc (Nat.le_refl _) _
  have hP : Row3 (w.alloc (.cells #[.int .i64 1, .slice sa ns sc, .slice (some ⟨pb, po, none⟩) 3 pc] 65)) w.heap.size (.int .i64 1) (.slice sa ns sc) (.slice (some ⟨pb, po, none⟩) 3 pc) := Row3.of_row (T := 65) (heap_alloc_new _ _)
  have hPk := hP
  obtain ⟨p0, p1, p2, -, -, -⟩ := hPk
  have hT : ∃ T0 T1 T2 T3 : ByteArray, T0 = keyT 1 F ∧ T1 = upM x T0 ∧ T2 = upM T1 y ∧ T3 = upM T2 z ∧ sealTop 1 F [x, y, z] = T3 := ⟨_, _, _, _, rfl, rfl, rfl, rfl, by simp [sealTop, stepT]⟩
  obtain ⟨T0, T1, T2, T3, e0, e1, e2, e3, eS⟩ := hT
  rw [eS]
  have s0 : T0.size = 16 := by rw [e0]; exact keyT_size _ _
  have s1 : T1.size = 16 := by rw [e1]; exact upM_size _ _
  have s2 : T2.size = 16 := by rw [e2]; exact upM_size _ _
  have HM0 : Hid (∀ W, Below w.heap.size w W → Calls Tryd.prog 21 #[.int .u8 116, .slice (some ⟨W.heap.size, 0, none⟩) 2 2] (W.alloc (.cells #[.string (numS 1), .string F] 9)) fun e w' => e = .returned (.string T0) ∧ Below W.heap.size W w') := fun W hW => by rw [e0]; exact mark2 116 _ rfl _ _ W (by first | omega | (rw [numS_size]; omega)) (by omega) (hk.mono hW)
  have HM1 : Hid (∀ W, Below w.heap.size w W → Calls Tryd.prog 21 #[.int .u8 117, .slice (some ⟨W.heap.size, 0, none⟩) 2 2] (W.alloc (.cells #[.string x, .string T0] 9)) fun e w' => e = .returned (.string T1) ∧ Below W.heap.size W w') := fun W hW => by rw [e1]; exact mark2 117 _ rfl _ _ W (by first | omega | (rw [numS_size]; omega)) (by omega) (hk.mono hW)
  have HM2 : Hid (∀ W, Below w.heap.size w W → Calls Tryd.prog 21 #[.int .u8 117, .slice (some ⟨W.heap.size, 0, none⟩) 2 2] (W.alloc (.cells #[.string T1, .string y] 9)) fun e w' => e = .returned (.string T2) ∧ Below W.heap.size W w') := fun W hW => by rw [e2]; exact mark2 117 _ rfl _ _ W (by first | omega | (rw [numS_size]; omega)) (by omega) (hk.mono hW)
  have HM3 : Hid (∀ W, Below w.heap.size w W → Calls Tryd.prog 21 #[.int .u8 117, .slice (some ⟨W.heap.size, 0, none⟩) 2 2] (W.alloc (.cells #[.string T2, .string z] 9)) fun e w' => e = .returned (.string T3) ∧ Below W.heap.size W w') := fun W hW => by rw [e3]; exact mark2 117 _ rfl _ _ W (by first | omega | (rw [numS_size]; omega)) (by omega) (hk.mono hW)
  have HN := Lib.hid (fun W => num_any 1 W (by decide) (by decide))
  clear hk hF hx hy hz e0 e1 e2 e3 eS s0 s1 s2
  go_enter Tryd.func58, Tryd.ntmps58
  go_wp2_with (first
    | (go_at_call 106; refine (HH.out _ hb).mono ?_; rintro e w1 ⟨rfl, hw⟩; have hw2 := hw.symm; subst hw2)
    | (go_at_call 31; refine (HF.out _ hb).mono ?_; rintro e w1 ⟨rfl, hB1⟩; have C1 := hb.trans (hB1.mono hb.size); have P1 := hP.mono hB1; have P1k := P1; obtain ⟨q0, q1, q2, -, -, -⟩ := P1k)
    | (go_at_call 19; refine (HN.out _).mono ?_; rintro e w2 ⟨rfl, hB2⟩; have C2 := C1.trans (hB2.mono C1.size); have P2 := P1.mono hB2)
    | (go_at_call 21; with_reducible refine (HM0.out _ C2).mono ?_; rintro e w3 ⟨rfl, hB3⟩; have C3 := C2.trans (hB3.mono C2.size); have P3 := P2.mono hB3; have P3k := P3; obtain ⟨r0, r1, r2, -, -, -⟩ := P3k; obtain ⟨x3, y3, z3⟩ := HC.out _ C3))
  refine wp_loop_rounds 4 ?_
  rw [rounds_succ]
  go_wp2_with (go_at_call 21; refine (HM1.out _ C3).mono ?_; rintro e u1 ⟨rfl, hD1⟩; have D1 := C3.trans (hD1.mono C3.size); obtain ⟨x4, y4, z4⟩ := HC.out _ D1)
  rw [rounds_succ]
  go_wp2_with (go_at_call 21; refine (HM2.out _ D1).mono ?_; rintro e u2 ⟨rfl, hD2⟩; have D2 := D1.trans (hD2.mono D1.size); obtain ⟨x5, y5, z5⟩ := HC.out _ D2)
  rw [rounds_succ]
  go_wp2_with (go_at_call 21; refine (HM3.out _ D2).mono ?_; rintro e u3 ⟨rfl, hD3⟩; have D3 := D2.trans (hD3.mono D2.size); obtain ⟨x6, y6, z6⟩ := HC.out _ D3)
  rw [rounds_succ]
  go_wp2_with fail
  go_ret
  refine ⟨_, rfl, ?_, D3⟩
  first | (rw [beq_iff_eq]; exact toList_iff) | (rw [decide_eq_true_iff]; exact toList_iff) | (simp; exact toList_iff)
set_option maxRecDepth 20000 in
set_option maxHeartbeats 4000000 in
theorem psv_2 (pub mark F x y z : ByteArray) (sa : Option Addr) (ns sc : Nat) (pb po pc : Nat) (w : World) (hF : F.size = 16) (hx : x.size = 16) (hy : y.size = 16) (hz : z.size = 16) (hk : KAt w 0)
    (HC : Hid (∀ W, Below w.heap.size w W → W.cell? ⟨pb, po, none⟩ = some (.string x) ∧ W.cell? ⟨pb, po + 1, none⟩ = some (.string y) ∧ W.cell? ⟨pb, po + 2, none⟩ = some (.string z)))
    (HH : Hid (∀ W, Below w.heap.size w W → Calls Tryd.prog 106 #[(.slice (some ⟨pb, po, none⟩) 3 pc), .func (Fn.func 131) #[] #[]] W fun e w' => e = .returned (.bool false) ∧ w' = W))
    (HF : Hid (∀ W, Below w.heap.size w W → Calls Tryd.prog 31 #[.string mark, .slice sa ns sc] W fun e w' => e = .returned (.tuple #[.string F, .nilIface]) ∧ Below W.heap.size W w')) :
    Calls Tryd.prog 58 #[.string pub, .string mark, .agg #[.int .i64 2, .slice sa ns sc, .slice (some ⟨pb, po, none⟩) 3 pc]] w (VerPost (sealTop 2 F [x, y, z]) pub w) := by
  have hb : Below w.heap.size w (w.alloc (.cells #[.int .i64 2, .slice sa ns sc, .slice (some ⟨pb, po, none⟩) 3 pc] 65)) := (Below.refl _ _).alloc (Nat.le_refl _) _
  have hP : Row3 (w.alloc (.cells #[.int .i64 2, .slice sa ns sc, .slice (some ⟨pb, po, none⟩) 3 pc] 65)) w.heap.size (.int .i64 2) (.slice sa ns sc) (.slice (some ⟨pb, po, none⟩) 3 pc) := Row3.of_row (T := 65) (heap_alloc_new _ _)
  have hPk := hP
  obtain ⟨p0, p1, p2, -, -, -⟩ := hPk
  have hT : ∃ T0 T1 T2 T3 : ByteArray, T0 = keyT 2 F ∧ T1 = upM T0 x ∧ T2 = upM y T1 ∧ T3 = upM T2 z ∧ sealTop 2 F [x, y, z] = T3 := ⟨_, _, _, _, rfl, rfl, rfl, rfl, by simp [sealTop, stepT]⟩
  obtain ⟨T0, T1, T2, T3, e0, e1, e2, e3, eS⟩ := hT
  rw [eS]
  have s0 : T0.size = 16 := by rw [e0]; exact keyT_size _ _
  have s1 : T1.size = 16 := by rw [e1]; exact upM_size _ _
  have s2 : T2.size = 16 := by rw [e2]; exact upM_size _ _
  have HM0 : Hid (∀ W, Below w.heap.size w W → Calls Tryd.prog 21 #[.int .u8 116, .slice (some ⟨W.heap.size, 0, none⟩) 2 2] (W.alloc (.cells #[.string (numS 2), .string F] 9)) fun e w' => e = .returned (.string T0) ∧ Below W.heap.size W w') := fun W hW => by rw [e0]; exact mark2 116 _ rfl _ _ W (by first | omega | (rw [numS_size]; omega)) (by omega) (hk.mono hW)
  have HM1 : Hid (∀ W, Below w.heap.size w W → Calls Tryd.prog 21 #[.int .u8 117, .slice (some ⟨W.heap.size, 0, none⟩) 2 2] (W.alloc (.cells #[.string T0, .string x] 9)) fun e w' => e = .returned (.string T1) ∧ Below W.heap.size W w') := fun W hW => by rw [e1]; exact mark2 117 _ rfl _ _ W (by first | omega | (rw [numS_size]; omega)) (by omega) (hk.mono hW)
  have HM2 : Hid (∀ W, Below w.heap.size w W → Calls Tryd.prog 21 #[.int .u8 117, .slice (some ⟨W.heap.size, 0, none⟩) 2 2] (W.alloc (.cells #[.string y, .string T1] 9)) fun e w' => e = .returned (.string T2) ∧ Below W.heap.size W w') := fun W hW => by rw [e2]; exact mark2 117 _ rfl _ _ W (by first | omega | (rw [numS_size]; omega)) (by omega) (hk.mono hW)
  have HM3 : Hid (∀ W, Below w.heap.size w W → Calls Tryd.prog 21 #[.int .u8 117, .slice (some ⟨W.heap.size, 0, none⟩) 2 2] (W.alloc (.cells #[.string T2, .string z] 9)) fun e w' => e = .returned (.string T3) ∧ Below W.heap.size W w') := fun W hW => by rw [e3]; exact mark2 117 _ rfl _ _ W (by first | omega | (rw [numS_size]; omega)) (by omega) (hk.mono hW)
  have HN := Lib.hid (fun W => num_any 2 W (by decide) (by decide))
  clear hk hF hx hy hz e0 e1 e2 e3 eS s0 s1 s2
  go_enter Tryd.func58, Tryd.ntmps58
  go_wp2_with (first
    | (go_at_call 106; refine (HH.out _ hb).mono ?_; rintro e w1 ⟨rfl, hw⟩; have hw2 := hw.symm; subst hw2)
    | (go_at_call 31; refine (HF.out _ hb).mono ?_; rintro e w1 ⟨rfl, hB1⟩; have C1 := hb.trans (hB1.mono hb.size); have P1 := hP.mono hB1; have P1k := P1; obtain ⟨q0, q1, q2, -, -, -⟩ := P1k)
    | (go_at_call 19; refine (HN.out _).mono ?_; rintro e w2 ⟨rfl, hB2⟩; have C2 := C1.trans (hB2.mono C1.size); have P2 := P1.mono hB2)
    | (go_at_call 21; with_reducible refine (HM0.out _ C2).mono ?_; rintro e w3 ⟨rfl, hB3⟩; have C3 := C2.trans (hB3.mono C2.size); have P3 := P2.mono hB3; have P3k := P3; obtain ⟨r0, r1, r2, -, -, -⟩ := P3k; obtain ⟨x3, y3, z3⟩ := HC.out _ C3))
  refine wp_loop_rounds 4 ?_
  rw [rounds_succ]
  go_wp2_with (go_at_call 21; refine (HM1.out _ C3).mono ?_; rintro e u1 ⟨rfl, hD1⟩; have D1 := C3.trans (hD1.mono C3.size); obtain ⟨x4, y4, z4⟩ := HC.out _ D1)
  rw [rounds_succ]
  go_wp2_with (go_at_call 21; refine (HM2.out _ D1).mono ?_; rintro e u2 ⟨rfl, hD2⟩; have D2 := D1.trans (hD2.mono D1.size); obtain ⟨x5, y5, z5⟩ := HC.out _ D2)
  rw [rounds_succ]
  go_wp2_with (go_at_call 21; refine (HM3.out _ D2).mono ?_; rintro e u3 ⟨rfl, hD3⟩; have D3 := D2.trans (hD3.mono D2.size); obtain ⟨x6, y6, z6⟩ := HC.out _ D3)
  rw [rounds_succ]
  go_wp2_with fail
  go_ret
  refine ⟨_, rfl, ?_, D3⟩
  first | (rw [beq_iff_eq]; exact toList_iff) | (rw [decide_eq_true_iff]; exact toList_iff) | (simp; exact toList_iff)
set_option maxRecDepth 20000 in
set_option maxHeartbeats 4000000 in
theorem psv_3 (pub mark F x y z : ByteArray) (sa : Option Addr) (ns sc : Nat) (pb po pc : Nat) (w : World) (hF : F.size = 16) (hx : x.size = 16) (hy : y.size = 16) (hz : z.size = 16) (hk : KAt w 0)
    (HC : Hid (∀ W, Below w.heap.size w W → W.cell? ⟨pb, po, none⟩ = some (.string x) ∧ W.cell? ⟨pb, po + 1, none⟩ = some (.string y) ∧ W.cell? ⟨pb, po + 2, none⟩ = some (.string z)))
    (HH : Hid (∀ W, Below w.heap.size w W → Calls Tryd.prog 106 #[(.slice (some ⟨pb, po, none⟩) 3 pc), .func (Fn.func 131) #[] #[]] W fun e w' => e = .returned (.bool false) ∧ w' = W))
    (HF : Hid (∀ W, Below w.heap.size w W → Calls Tryd.prog 31 #[.string mark, .slice sa ns sc] W fun e w' => e = .returned (.tuple #[.string F, .nilIface]) ∧ Below W.heap.size W w')) :
    Calls Tryd.prog 58 #[.string pub, .string mark, .agg #[.int .i64 3, .slice sa ns sc, .slice (some ⟨pb, po, none⟩) 3 pc]] w (VerPost (sealTop 3 F [x, y, z]) pub w) := by
  have hb : Below w.heap.size w (w.alloc (.cells #[.int .i64 3, .slice sa ns sc, .slice (some ⟨pb, po, none⟩) 3 pc] 65)) := (Below.refl _ _).alloc (Nat.le_refl _) _
  have hP : Row3 (w.alloc (.cells #[.int .i64 3, .slice sa ns sc, .slice (some ⟨pb, po, none⟩) 3 pc] 65)) w.heap.size (.int .i64 3) (.slice sa ns sc) (.slice (some ⟨pb, po, none⟩) 3 pc) := Row3.of_row (T := 65) (heap_alloc_new _ _)
  have hPk := hP
  obtain ⟨p0, p1, p2, -, -, -⟩ := hPk
  have hT : ∃ T0 T1 T2 T3 : ByteArray, T0 = keyT 3 F ∧ T1 = upM x T0 ∧ T2 = upM y T1 ∧ T3 = upM T2 z ∧ sealTop 3 F [x, y, z] = T3 := ⟨_, _, _, _, rfl, rfl, rfl, rfl, by simp [sealTop, stepT]⟩
  obtain ⟨T0, T1, T2, T3, e0, e1, e2, e3, eS⟩ := hT
  rw [eS]
  have s0 : T0.size = 16 := by rw [e0]; exact keyT_size _ _
  have s1 : T1.size = 16 := by rw [e1]; exact upM_size _ _
  have s2 : T2.size = 16 := by rw [e2]; exact upM_size _ _
  have HM0 : Hid (∀ W, Below w.heap.size w W → Calls Tryd.prog 21 #[.int .u8 116, .slice (some ⟨W.heap.size, 0, none⟩) 2 2] (W.alloc (.cells #[.string (numS 3), .string F] 9)) fun e w' => e = .returned (.string T0) ∧ Below W.heap.size W w') := fun W hW => by rw [e0]; exact mark2 116 _ rfl _ _ W (by first | omega | (rw [numS_size]; omega)) (by omega) (hk.mono hW)
  have HM1 : Hid (∀ W, Below w.heap.size w W → Calls Tryd.prog 21 #[.int .u8 117, .slice (some ⟨W.heap.size, 0, none⟩) 2 2] (W.alloc (.cells #[.string x, .string T0] 9)) fun e w' => e = .returned (.string T1) ∧ Below W.heap.size W w') := fun W hW => by rw [e1]; exact mark2 117 _ rfl _ _ W (by first | omega | (rw [numS_size]; omega)) (by omega) (hk.mono hW)
  have HM2 : Hid (∀ W, Below w.heap.size w W → Calls Tryd.prog 21 #[.int .u8 117, .slice (some ⟨W.heap.size, 0, none⟩) 2 2] (W.alloc (.cells #[.string y, .string T1] 9)) fun e w' => e = .returned (.string T2) ∧ Below W.heap.size W w') := fun W hW => by rw [e2]; exact mark2 117 _ rfl _ _ W (by first | omega | (rw [numS_size]; omega)) (by omega) (hk.mono hW)
  have HM3 : Hid (∀ W, Below w.heap.size w W → Calls Tryd.prog 21 #[.int .u8 117, .slice (some ⟨W.heap.size, 0, none⟩) 2 2] (W.alloc (.cells #[.string T2, .string z] 9)) fun e w' => e = .returned (.string T3) ∧ Below W.heap.size W w') := fun W hW => by rw [e3]; exact mark2 117 _ rfl _ _ W (by first | omega | (rw [numS_size]; omega)) (by omega) (hk.mono hW)
  have HN := Lib.hid (fun W => num_any 3 W (by decide) (by decide))
  clear hk hF hx hy hz e0 e1 e2 e3 eS s0 s1 s2
  go_enter Tryd.func58, Tryd.ntmps58
  go_wp2_with (first
    | (go_at_call 106; refine (HH.out _ hb).mono ?_; rintro e w1 ⟨rfl, hw⟩; have hw2 := hw.symm; subst hw2)
    | (go_at_call 31; refine (HF.out _ hb).mono ?_; rintro e w1 ⟨rfl, hB1⟩; have C1 := hb.trans (hB1.mono hb.size); have P1 := hP.mono hB1; have P1k := P1; obtain ⟨q0, q1, q2, -, -, -⟩ := P1k)
    | (go_at_call 19; refine (HN.out _).mono ?_; rintro e w2 ⟨rfl, hB2⟩; have C2 := C1.trans (hB2.mono C1.size); have P2 := P1.mono hB2)
    | (go_at_call 21; with_reducible refine (HM0.out _ C2).mono ?_; rintro e w3 ⟨rfl, hB3⟩; have C3 := C2.trans (hB3.mono C2.size); have P3 := P2.mono hB3; have P3k := P3; obtain ⟨r0, r1, r2, -, -, -⟩ := P3k; obtain ⟨x3, y3, z3⟩ := HC.out _ C3))
  refine wp_loop_rounds 4 ?_
  rw [rounds_succ]
  go_wp2_with (go_at_call 21; refine (HM1.out _ C3).mono ?_; rintro e u1 ⟨rfl, hD1⟩; have D1 := C3.trans (hD1.mono C3.size); obtain ⟨x4, y4, z4⟩ := HC.out _ D1)
  rw [rounds_succ]
  go_wp2_with (go_at_call 21; refine (HM2.out _ D1).mono ?_; rintro e u2 ⟨rfl, hD2⟩; have D2 := D1.trans (hD2.mono D1.size); obtain ⟨x5, y5, z5⟩ := HC.out _ D2)
  rw [rounds_succ]
  go_wp2_with (go_at_call 21; refine (HM3.out _ D2).mono ?_; rintro e u3 ⟨rfl, hD3⟩; have D3 := D2.trans (hD3.mono D2.size); obtain ⟨x6, y6, z6⟩ := HC.out _ D3)
  rw [rounds_succ]
  go_wp2_with fail
  go_ret
  refine ⟨_, rfl, ?_, D3⟩
  first | (rw [beq_iff_eq]; exact toList_iff) | (rw [decide_eq_true_iff]; exact toList_iff) | (simp; exact toList_iff)
set_option maxRecDepth 20000 in
set_option maxHeartbeats 4000000 in
theorem psv_4 (pub mark F x y z : ByteArray) (sa : Option Addr) (ns sc : Nat) (pb po pc : Nat) (w : World) (hF : F.size = 16) (hx : x.size = 16) (hy : y.size = 16) (hz : z.size = 16) (hk : KAt w 0)
    (HC : Hid (∀ W, Below w.heap.size w W → W.cell? ⟨pb, po, none⟩ = some (.string x) ∧ W.cell? ⟨pb, po + 1, none⟩ = some (.string y) ∧ W.cell? ⟨pb, po + 2, none⟩ = some (.string z)))
    (HH : Hid (∀ W, Below w.heap.size w W → Calls Tryd.prog 106 #[(.slice (some ⟨pb, po, none⟩) 3 pc), .func (Fn.func 131) #[] #[]] W fun e w' => e = .returned (.bool false) ∧ w' = W))
    (HF : Hid (∀ W, Below w.heap.size w W → Calls Tryd.prog 31 #[.string mark, .slice sa ns sc] W fun e w' => e = .returned (.tuple #[.string F, .nilIface]) ∧ Below W.heap.size W w')) :
    Calls Tryd.prog 58 #[.string pub, .string mark, .agg #[.int .i64 4, .slice sa ns sc, .slice (some ⟨pb, po, none⟩) 3 pc]] w (VerPost (sealTop 4 F [x, y, z]) pub w) := by
  have hb : Below w.heap.size w (w.alloc (.cells #[.int .i64 4, .slice sa ns sc, .slice (some ⟨pb, po, none⟩) 3 pc] 65)) := (Below.refl _ _).alloc (Nat.le_refl _) _
  have hP : Row3 (w.alloc (.cells #[.int .i64 4, .slice sa ns sc, .slice (some ⟨pb, po, none⟩) 3 pc] 65)) w.heap.size (.int .i64 4) (.slice sa ns sc) (.slice (some ⟨pb, po, none⟩) 3 pc) := Row3.of_row (T := 65) (heap_alloc_new _ _)
  have hPk := hP
  obtain ⟨p0, p1, p2, -, -, -⟩ := hPk
  have hT : ∃ T0 T1 T2 T3 : ByteArray, T0 = keyT 4 F ∧ T1 = upM T0 x ∧ T2 = upM T1 y ∧ T3 = upM z T2 ∧ sealTop 4 F [x, y, z] = T3 := ⟨_, _, _, _, rfl, rfl, rfl, rfl, by simp [sealTop, stepT]⟩
  obtain ⟨T0, T1, T2, T3, e0, e1, e2, e3, eS⟩ := hT
  rw [eS]
  have s0 : T0.size = 16 := by rw [e0]; exact keyT_size _ _
  have s1 : T1.size = 16 := by rw [e1]; exact upM_size _ _
  have s2 : T2.size = 16 := by rw [e2]; exact upM_size _ _
  have HM0 : Hid (∀ W, Below w.heap.size w W → Calls Tryd.prog 21 #[.int .u8 116, .slice (some ⟨W.heap.size, 0, none⟩) 2 2] (W.alloc (.cells #[.string (numS 4), .string F] 9)) fun e w' => e = .returned (.string T0) ∧ Below W.heap.size W w') := fun W hW => by rw [e0]; exact mark2 116 _ rfl _ _ W (by first | omega | (rw [numS_size]; omega)) (by omega) (hk.mono hW)
  have HM1 : Hid (∀ W, Below w.heap.size w W → Calls Tryd.prog 21 #[.int .u8 117, .slice (some ⟨W.heap.size, 0, none⟩) 2 2] (W.alloc (.cells #[.string T0, .string x] 9)) fun e w' => e = .returned (.string T1) ∧ Below W.heap.size W w') := fun W hW => by rw [e1]; exact mark2 117 _ rfl _ _ W (by first | omega | (rw [numS_size]; omega)) (by omega) (hk.mono hW)
  have HM2 : Hid (∀ W, Below w.heap.size w W → Calls Tryd.prog 21 #[.int .u8 117, .slice (some ⟨W.heap.size, 0, none⟩) 2 2] (W.alloc (.cells #[.string T1, .string y] 9)) fun e w' => e = .returned (.string T2) ∧ Below W.heap.size W w') := fun W hW => by rw [e2]; exact mark2 117 _ rfl _ _ W (by first | omega | (rw [numS_size]; omega)) (by omega) (hk.mono hW)
  have HM3 : Hid (∀ W, Below w.heap.size w W → Calls Tryd.prog 21 #[.int .u8 117, .slice (some ⟨W.heap.size, 0, none⟩) 2 2] (W.alloc (.cells #[.string z, .string T2] 9)) fun e w' => e = .returned (.string T3) ∧ Below W.heap.size W w') := fun W hW => by rw [e3]; exact mark2 117 _ rfl _ _ W (by first | omega | (rw [numS_size]; omega)) (by omega) (hk.mono hW)
  have HN := Lib.hid (fun W => num_any 4 W (by decide) (by decide))
  clear hk hF hx hy hz e0 e1 e2 e3 eS s0 s1 s2
  go_enter Tryd.func58, Tryd.ntmps58
  go_wp2_with (first
    | (go_at_call 106; refine (HH.out _ hb).mono ?_; rintro e w1 ⟨rfl, hw⟩; have hw2 := hw.symm; subst hw2)
    | (go_at_call 31; refine (HF.out _ hb).mono ?_; rintro e w1 ⟨rfl, hB1⟩; have C1 := hb.trans (hB1.mono hb.size); have P1 := hP.mono hB1; have P1k := P1; obtain ⟨q0, q1, q2, -, -, -⟩ := P1k)
    | (go_at_call 19; refine (HN.out _).mono ?_; rintro e w2 ⟨rfl, hB2⟩; have C2 := C1.trans (hB2.mono C1.size); have P2 := P1.mono hB2)
    | (go_at_call 21; with_reducible refine (HM0.out _ C2).mono ?_; rintro e w3 ⟨rfl, hB3⟩; have C3 := C2.trans (hB3.mono C2.size); have P3 := P2.mono hB3; have P3k := P3; obtain ⟨r0, r1, r2, -, -, -⟩ := P3k; obtain ⟨x3, y3, z3⟩ := HC.out _ C3))
  refine wp_loop_rounds 4 ?_
  rw [rounds_succ]
  go_wp2_with (go_at_call 21; refine (HM1.out _ C3).mono ?_; rintro e u1 ⟨rfl, hD1⟩; have D1 := C3.trans (hD1.mono C3.size); obtain ⟨x4, y4, z4⟩ := HC.out _ D1)
  rw [rounds_succ]
  go_wp2_with (go_at_call 21; refine (HM2.out _ D1).mono ?_; rintro e u2 ⟨rfl, hD2⟩; have D2 := D1.trans (hD2.mono D1.size); obtain ⟨x5, y5, z5⟩ := HC.out _ D2)
  rw [rounds_succ]
  go_wp2_with (go_at_call 21; refine (HM3.out _ D2).mono ?_; rintro e u3 ⟨rfl, hD3⟩; have D3 := D2.trans (hD3.mono D2.size); obtain ⟨x6, y6, z6⟩ := HC.out _ D3)
  rw [rounds_succ]
  go_wp2_with fail
  go_ret
  refine ⟨_, rfl, ?_, D3⟩
  first | (rw [beq_iff_eq]; exact toList_iff) | (rw [decide_eq_true_iff]; exact toList_iff) | (simp; exact toList_iff)
set_option maxRecDepth 20000 in
set_option maxHeartbeats 4000000 in
theorem psv_5 (pub mark F x y z : ByteArray) (sa : Option Addr) (ns sc : Nat) (pb po pc : Nat) (w : World) (hF : F.size = 16) (hx : x.size = 16) (hy : y.size = 16) (hz : z.size = 16) (hk : KAt w 0)
    (HC : Hid (∀ W, Below w.heap.size w W → W.cell? ⟨pb, po, none⟩ = some (.string x) ∧ W.cell? ⟨pb, po + 1, none⟩ = some (.string y) ∧ W.cell? ⟨pb, po + 2, none⟩ = some (.string z)))
    (HH : Hid (∀ W, Below w.heap.size w W → Calls Tryd.prog 106 #[(.slice (some ⟨pb, po, none⟩) 3 pc), .func (Fn.func 131) #[] #[]] W fun e w' => e = .returned (.bool false) ∧ w' = W))
    (HF : Hid (∀ W, Below w.heap.size w W → Calls Tryd.prog 31 #[.string mark, .slice sa ns sc] W fun e w' => e = .returned (.tuple #[.string F, .nilIface]) ∧ Below W.heap.size W w')) :
    Calls Tryd.prog 58 #[.string pub, .string mark, .agg #[.int .i64 5, .slice sa ns sc, .slice (some ⟨pb, po, none⟩) 3 pc]] w (VerPost (sealTop 5 F [x, y, z]) pub w) := by
  have hb : Below w.heap.size w (w.alloc (.cells #[.int .i64 5, .slice sa ns sc, .slice (some ⟨pb, po, none⟩) 3 pc] 65)) := (Below.refl _ _).alloc (Nat.le_refl _) _
  have hP : Row3 (w.alloc (.cells #[.int .i64 5, .slice sa ns sc, .slice (some ⟨pb, po, none⟩) 3 pc] 65)) w.heap.size (.int .i64 5) (.slice sa ns sc) (.slice (some ⟨pb, po, none⟩) 3 pc) := Row3.of_row (T := 65) (heap_alloc_new _ _)
  have hPk := hP
  obtain ⟨p0, p1, p2, -, -, -⟩ := hPk
  have hT : ∃ T0 T1 T2 T3 : ByteArray, T0 = keyT 5 F ∧ T1 = upM x T0 ∧ T2 = upM T1 y ∧ T3 = upM z T2 ∧ sealTop 5 F [x, y, z] = T3 := ⟨_, _, _, _, rfl, rfl, rfl, rfl, by simp [sealTop, stepT]⟩
  obtain ⟨T0, T1, T2, T3, e0, e1, e2, e3, eS⟩ := hT
  rw [eS]
  have s0 : T0.size = 16 := by rw [e0]; exact keyT_size _ _
  have s1 : T1.size = 16 := by rw [e1]; exact upM_size _ _
  have s2 : T2.size = 16 := by rw [e2]; exact upM_size _ _
  have HM0 : Hid (∀ W, Below w.heap.size w W → Calls Tryd.prog 21 #[.int .u8 116, .slice (some ⟨W.heap.size, 0, none⟩) 2 2] (W.alloc (.cells #[.string (numS 5), .string F] 9)) fun e w' => e = .returned (.string T0) ∧ Below W.heap.size W w') := fun W hW => by rw [e0]; exact mark2 116 _ rfl _ _ W (by first | omega | (rw [numS_size]; omega)) (by omega) (hk.mono hW)
  have HM1 : Hid (∀ W, Below w.heap.size w W → Calls Tryd.prog 21 #[.int .u8 117, .slice (some ⟨W.heap.size, 0, none⟩) 2 2] (W.alloc (.cells #[.string x, .string T0] 9)) fun e w' => e = .returned (.string T1) ∧ Below W.heap.size W w') := fun W hW => by rw [e1]; exact mark2 117 _ rfl _ _ W (by first | omega | (rw [numS_size]; omega)) (by omega) (hk.mono hW)
  have HM2 : Hid (∀ W, Below w.heap.size w W → Calls Tryd.prog 21 #[.int .u8 117, .slice (some ⟨W.heap.size, 0, none⟩) 2 2] (W.alloc (.cells #[.string T1, .string y] 9)) fun e w' => e = .returned (.string T2) ∧ Below W.heap.size W w') := fun W hW => by rw [e2]; exact mark2 117 _ rfl _ _ W (by first | omega | (rw [numS_size]; omega)) (by omega) (hk.mono hW)
  have HM3 : Hid (∀ W, Below w.heap.size w W → Calls Tryd.prog 21 #[.int .u8 117, .slice (some ⟨W.heap.size, 0, none⟩) 2 2] (W.alloc (.cells #[.string z, .string T2] 9)) fun e w' => e = .returned (.string T3) ∧ Below W.heap.size W w') := fun W hW => by rw [e3]; exact mark2 117 _ rfl _ _ W (by first | omega | (rw [numS_size]; omega)) (by omega) (hk.mono hW)
  have HN := Lib.hid (fun W => num_any 5 W (by decide) (by decide))
  clear hk hF hx hy hz e0 e1 e2 e3 eS s0 s1 s2
  go_enter Tryd.func58, Tryd.ntmps58
  go_wp2_with (first
    | (go_at_call 106; refine (HH.out _ hb).mono ?_; rintro e w1 ⟨rfl, hw⟩; have hw2 := hw.symm; subst hw2)
    | (go_at_call 31; refine (HF.out _ hb).mono ?_; rintro e w1 ⟨rfl, hB1⟩; have C1 := hb.trans (hB1.mono hb.size); have P1 := hP.mono hB1; have P1k := P1; obtain ⟨q0, q1, q2, -, -, -⟩ := P1k)
    | (go_at_call 19; refine (HN.out _).mono ?_; rintro e w2 ⟨rfl, hB2⟩; have C2 := C1.trans (hB2.mono C1.size); have P2 := P1.mono hB2)
    | (go_at_call 21; with_reducible refine (HM0.out _ C2).mono ?_; rintro e w3 ⟨rfl, hB3⟩; have C3 := C2.trans (hB3.mono C2.size); have P3 := P2.mono hB3; have P3k := P3; obtain ⟨r0, r1, r2, -, -, -⟩ := P3k; obtain ⟨x3, y3, z3⟩ := HC.out _ C3))
  refine wp_loop_rounds 4 ?_
  rw [rounds_succ]
  go_wp2_with (go_at_call 21; refine (HM1.out _ C3).mono ?_; rintro e u1 ⟨rfl, hD1⟩; have D1 := C3.trans (hD1.mono C3.size); obtain ⟨x4, y4, z4⟩ := HC.out _ D1)
  rw [rounds_succ]
  go_wp2_with (go_at_call 21; refine (HM2.out _ D1).mono ?_; rintro e u2 ⟨rfl, hD2⟩; have D2 := D1.trans (hD2.mono D1.size); obtain ⟨x5, y5, z5⟩ := HC.out _ D2)
  rw [rounds_succ]
  go_wp2_with (go_at_call 21; refine (HM3.out _ D2).mono ?_; rintro e u3 ⟨rfl, hD3⟩; have D3 := D2.trans (hD3.mono D2.size); obtain ⟨x6, y6, z6⟩ := HC.out _ D3)
  rw [rounds_succ]
  go_wp2_with fail
  go_ret
  refine ⟨_, rfl, ?_, D3⟩
  first | (rw [beq_iff_eq]; exact toList_iff) | (rw [decide_eq_true_iff]; exact toList_iff) | (simp; exact toList_iff)
set_option maxRecDepth 20000 in
set_option maxHeartbeats 4000000 in
theorem psv_6 (pub mark F x y z : ByteArray) (sa : Option Addr) (ns sc : Nat) (pb po pc : Nat) (w : World) (hF : F.size = 16) (hx : x.size = 16) (hy : y.size = 16) (hz : z.size = 16) (hk : KAt w 0)
    (HC : Hid (∀ W, Below w.heap.size w W → W.cell? ⟨pb, po, none⟩ = some (.string x) ∧ W.cell? ⟨pb, po + 1, none⟩ = some (.string y) ∧ W.cell? ⟨pb, po + 2, none⟩ = some (.string z)))
    (HH : Hid (∀ W, Below w.heap.size w W → Calls Tryd.prog 106 #[(.slice (some ⟨pb, po, none⟩) 3 pc), .func (Fn.func 131) #[] #[]] W fun e w' => e = .returned (.bool false) ∧ w' = W))
    (HF : Hid (∀ W, Below w.heap.size w W → Calls Tryd.prog 31 #[.string mark, .slice sa ns sc] W fun e w' => e = .returned (.tuple #[.string F, .nilIface]) ∧ Below W.heap.size W w')) :
    Calls Tryd.prog 58 #[.string pub, .string mark, .agg #[.int .i64 6, .slice sa ns sc, .slice (some ⟨pb, po, none⟩) 3 pc]] w (VerPost (sealTop 6 F [x, y, z]) pub w) := by
  have hb : Below w.heap.size w (w.alloc (.cells #[.int .i64 6, .slice sa ns sc, .slice (some ⟨pb, po, none⟩) 3 pc] 65)) := (Below.refl _ _).alloc (Nat.le_refl _) _
  have hP : Row3 (w.alloc (.cells #[.int .i64 6, .slice sa ns sc, .slice (some ⟨pb, po, none⟩) 3 pc] 65)) w.heap.size (.int .i64 6) (.slice sa ns sc) (.slice (some ⟨pb, po, none⟩) 3 pc) := Row3.of_row (T := 65) (heap_alloc_new _ _)
  have hPk := hP
  obtain ⟨p0, p1, p2, -, -, -⟩ := hPk
  have hT : ∃ T0 T1 T2 T3 : ByteArray, T0 = keyT 6 F ∧ T1 = upM T0 x ∧ T2 = upM y T1 ∧ T3 = upM z T2 ∧ sealTop 6 F [x, y, z] = T3 := ⟨_, _, _, _, rfl, rfl, rfl, rfl, by simp [sealTop, stepT]⟩
  obtain ⟨T0, T1, T2, T3, e0, e1, e2, e3, eS⟩ := hT
  rw [eS]
  have s0 : T0.size = 16 := by rw [e0]; exact keyT_size _ _
  have s1 : T1.size = 16 := by rw [e1]; exact upM_size _ _
  have s2 : T2.size = 16 := by rw [e2]; exact upM_size _ _
  have HM0 : Hid (∀ W, Below w.heap.size w W → Calls Tryd.prog 21 #[.int .u8 116, .slice (some ⟨W.heap.size, 0, none⟩) 2 2] (W.alloc (.cells #[.string (numS 6), .string F] 9)) fun e w' => e = .returned (.string T0) ∧ Below W.heap.size W w') := fun W hW => by rw [e0]; exact mark2 116 _ rfl _ _ W (by first | omega | (rw [numS_size]; omega)) (by omega) (hk.mono hW)
  have HM1 : Hid (∀ W, Below w.heap.size w W → Calls Tryd.prog 21 #[.int .u8 117, .slice (some ⟨W.heap.size, 0, none⟩) 2 2] (W.alloc (.cells #[.string T0, .string x] 9)) fun e w' => e = .returned (.string T1) ∧ Below W.heap.size W w') := fun W hW => by rw [e1]; exact mark2 117 _ rfl _ _ W (by first | omega | (rw [numS_size]; omega)) (by omega) (hk.mono hW)
  have HM2 : Hid (∀ W, Below w.heap.size w W → Calls Tryd.prog 21 #[.int .u8 117, .slice (some ⟨W.heap.size, 0, none⟩) 2 2] (W.alloc (.cells #[.string y, .string T1] 9)) fun e w' => e = .returned (.string T2) ∧ Below W.heap.size W w') := fun W hW => by rw [e2]; exact mark2 117 _ rfl _ _ W (by first | omega | (rw [numS_size]; omega)) (by omega) (hk.mono hW)
  have HM3 : Hid (∀ W, Below w.heap.size w W → Calls Tryd.prog 21 #[.int .u8 117, .slice (some ⟨W.heap.size, 0, none⟩) 2 2] (W.alloc (.cells #[.string z, .string T2] 9)) fun e w' => e = .returned (.string T3) ∧ Below W.heap.size W w') := fun W hW => by rw [e3]; exact mark2 117 _ rfl _ _ W (by first | omega | (rw [numS_size]; omega)) (by omega) (hk.mono hW)
  have HN := Lib.hid (fun W => num_any 6 W (by decide) (by decide))
  clear hk hF hx hy hz e0 e1 e2 e3 eS s0 s1 s2
  go_enter Tryd.func58, Tryd.ntmps58
  go_wp2_with (first
    | (go_at_call 106; refine (HH.out _ hb).mono ?_; rintro e w1 ⟨rfl, hw⟩; have hw2 := hw.symm; subst hw2)
    | (go_at_call 31; refine (HF.out _ hb).mono ?_; rintro e w1 ⟨rfl, hB1⟩; have C1 := hb.trans (hB1.mono hb.size); have P1 := hP.mono hB1; have P1k := P1; obtain ⟨q0, q1, q2, -, -, -⟩ := P1k)
    | (go_at_call 19; refine (HN.out _).mono ?_; rintro e w2 ⟨rfl, hB2⟩; have C2 := C1.trans (hB2.mono C1.size); have P2 := P1.mono hB2)
    | (go_at_call 21; with_reducible refine (HM0.out _ C2).mono ?_; rintro e w3 ⟨rfl, hB3⟩; have C3 := C2.trans (hB3.mono C2.size); have P3 := P2.mono hB3; have P3k := P3; obtain ⟨r0, r1, r2, -, -, -⟩ := P3k; obtain ⟨x3, y3, z3⟩ := HC.out _ C3))
  refine wp_loop_rounds 4 ?_
  rw [rounds_succ]
  go_wp2_with (go_at_call 21; refine (HM1.out _ C3).mono ?_; rintro e u1 ⟨rfl, hD1⟩; have D1 := C3.trans (hD1.mono C3.size); obtain ⟨x4, y4, z4⟩ := HC.out _ D1)
  rw [rounds_succ]
  go_wp2_with (go_at_call 21; refine (HM2.out _ D1).mono ?_; rintro e u2 ⟨rfl, hD2⟩; have D2 := D1.trans (hD2.mono D1.size); obtain ⟨x5, y5, z5⟩ := HC.out _ D2)
  rw [rounds_succ]
  go_wp2_with (go_at_call 21; refine (HM3.out _ D2).mono ?_; rintro e u3 ⟨rfl, hD3⟩; have D3 := D2.trans (hD3.mono D2.size); obtain ⟨x6, y6, z6⟩ := HC.out _ D3)
  rw [rounds_succ]
  go_wp2_with fail
  go_ret
  refine ⟨_, rfl, ?_, D3⟩
  first | (rw [beq_iff_eq]; exact toList_iff) | (rw [decide_eq_true_iff]; exact toList_iff) | (simp; exact toList_iff)
set_option maxRecDepth 20000 in
set_option maxHeartbeats 4000000 in
theorem psv_7 (pub mark F x y z : ByteArray) (sa : Option Addr) (ns sc : Nat) (pb po pc : Nat) (w : World) (hF : F.size = 16) (hx : x.size = 16) (hy : y.size = 16) (hz : z.size = 16) (hk : KAt w 0)
    (HC : Hid (∀ W, Below w.heap.size w W → W.cell? ⟨pb, po, none⟩ = some (.string x) ∧ W.cell? ⟨pb, po + 1, none⟩ = some (.string y) ∧ W.cell? ⟨pb, po + 2, none⟩ = some (.string z)))
    (HH : Hid (∀ W, Below w.heap.size w W → Calls Tryd.prog 106 #[(.slice (some ⟨pb, po, none⟩) 3 pc), .func (Fn.func 131) #[] #[]] W fun e w' => e = .returned (.bool false) ∧ w' = W))
    (HF : Hid (∀ W, Below w.heap.size w W → Calls Tryd.prog 31 #[.string mark, .slice sa ns sc] W fun e w' => e = .returned (.tuple #[.string F, .nilIface]) ∧ Below W.heap.size W w')) :
    Calls Tryd.prog 58 #[.string pub, .string mark, .agg #[.int .i64 7, .slice sa ns sc, .slice (some ⟨pb, po, none⟩) 3 pc]] w (VerPost (sealTop 7 F [x, y, z]) pub w) := by
  have hb : Below w.heap.size w (w.alloc (.cells #[.int .i64 7, .slice sa ns sc, .slice (some ⟨pb, po, none⟩) 3 pc] 65)) := (Below.refl _ _).alloc (Nat.le_refl _) _
  have hP : Row3 (w.alloc (.cells #[.int .i64 7, .slice sa ns sc, .slice (some ⟨pb, po, none⟩) 3 pc] 65)) w.heap.size (.int .i64 7) (.slice sa ns sc) (.slice (some ⟨pb, po, none⟩) 3 pc) := Row3.of_row (T := 65) (heap_alloc_new _ _)
  have hPk := hP
  obtain ⟨p0, p1, p2, -, -, -⟩ := hPk
  have hT : ∃ T0 T1 T2 T3 : ByteArray, T0 = keyT 7 F ∧ T1 = upM x T0 ∧ T2 = upM y T1 ∧ T3 = upM z T2 ∧ sealTop 7 F [x, y, z] = T3 := ⟨_, _, _, _, rfl, rfl, rfl, rfl, by simp [sealTop, stepT]⟩
  obtain ⟨T0, T1, T2, T3, e0, e1, e2, e3, eS⟩ := hT
  rw [eS]
  have s0 : T0.size = 16 := by rw [e0]; exact keyT_size _ _
  have s1 : T1.size = 16 := by rw [e1]; exact upM_size _ _
  have s2 : T2.size = 16 := by rw [e2]; exact upM_size _ _
  have HM0 : Hid (∀ W, Below w.heap.size w W → Calls Tryd.prog 21 #[.int .u8 116, .slice (some ⟨W.heap.size, 0, none⟩) 2 2] (W.alloc (.cells #[.string (numS 7), .string F] 9)) fun e w' => e = .returned (.string T0) ∧ Below W.heap.size W w') := fun W hW => by rw [e0]; exact mark2 116 _ rfl _ _ W (by first | omega | (rw [numS_size]; omega)) (by omega) (hk.mono hW)
  have HM1 : Hid (∀ W, Below w.heap.size w W → Calls Tryd.prog 21 #[.int .u8 117, .slice (some ⟨W.heap.size, 0, none⟩) 2 2] (W.alloc (.cells #[.string x, .string T0] 9)) fun e w' => e = .returned (.string T1) ∧ Below W.heap.size W w') := fun W hW => by rw [e1]; exact mark2 117 _ rfl _ _ W (by first | omega | (rw [numS_size]; omega)) (by omega) (hk.mono hW)
  have HM2 : Hid (∀ W, Below w.heap.size w W → Calls Tryd.prog 21 #[.int .u8 117, .slice (some ⟨W.heap.size, 0, none⟩) 2 2] (W.alloc (.cells #[.string y, .string T1] 9)) fun e w' => e = .returned (.string T2) ∧ Below W.heap.size W w') := fun W hW => by rw [e2]; exact mark2 117 _ rfl _ _ W (by first | omega | (rw [numS_size]; omega)) (by omega) (hk.mono hW)
  have HM3 : Hid (∀ W, Below w.heap.size w W → Calls Tryd.prog 21 #[.int .u8 117, .slice (some ⟨W.heap.size, 0, none⟩) 2 2] (W.alloc (.cells #[.string z, .string T2] 9)) fun e w' => e = .returned (.string T3) ∧ Below W.heap.size W w') := fun W hW => by rw [e3]; exact mark2 117 _ rfl _ _ W (by first | omega | (rw [numS_size]; omega)) (by omega) (hk.mono hW)
  have HN := Lib.hid (fun W => num_any 7 W (by decide) (by decide))
  clear hk hF hx hy hz e0 e1 e2 e3 eS s0 s1 s2
  go_enter Tryd.func58, Tryd.ntmps58
  go_wp2_with (first
    | (go_at_call 106; refine (HH.out _ hb).mono ?_; rintro e w1 ⟨rfl, hw⟩; have hw2 := hw.symm; subst hw2)
    | (go_at_call 31; refine (HF.out _ hb).mono ?_; rintro e w1 ⟨rfl, hB1⟩; have C1 := hb.trans (hB1.mono hb.size); have P1 := hP.mono hB1; have P1k := P1; obtain ⟨q0, q1, q2, -, -, -⟩ := P1k)
    | (go_at_call 19; refine (HN.out _).mono ?_; rintro e w2 ⟨rfl, hB2⟩; have C2 := C1.trans (hB2.mono C1.size); have P2 := P1.mono hB2)
    | (go_at_call 21; with_reducible refine (HM0.out _ C2).mono ?_; rintro e w3 ⟨rfl, hB3⟩; have C3 := C2.trans (hB3.mono C2.size); have P3 := P2.mono hB3; have P3k := P3; obtain ⟨r0, r1, r2, -, -, -⟩ := P3k; obtain ⟨x3, y3, z3⟩ := HC.out _ C3))
  refine wp_loop_rounds 4 ?_
  rw [rounds_succ]
  go_wp2_with (go_at_call 21; refine (HM1.out _ C3).mono ?_; rintro e u1 ⟨rfl, hD1⟩; have D1 := C3.trans (hD1.mono C3.size); obtain ⟨x4, y4, z4⟩ := HC.out _ D1)
  rw [rounds_succ]
  go_wp2_with (go_at_call 21; refine (HM2.out _ D1).mono ?_; rintro e u2 ⟨rfl, hD2⟩; have D2 := D1.trans (hD2.mono D1.size); obtain ⟨x5, y5, z5⟩ := HC.out _ D2)
  rw [rounds_succ]
  go_wp2_with (go_at_call 21; refine (HM3.out _ D2).mono ?_; rintro e u3 ⟨rfl, hD3⟩; have D3 := D2.trans (hD3.mono D2.size); obtain ⟨x6, y6, z6⟩ := HC.out _ D3)
  rw [rounds_succ]
  go_wp2_with fail
  go_ret
  refine ⟨_, rfl, ?_, D3⟩
  first | (rw [beq_iff_eq]; exact toList_iff) | (rw [decide_eq_true_iff]; exact toList_iff) | (simp; exact toList_iff)
end Go.Proofs.YtfhjnfocmlndpaaDoor
