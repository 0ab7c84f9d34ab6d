/- The reference's SealVerify. (Printed by wip/gen_seal.py.) -/
import Derived.Test.YtfhjnfocmlndpaaDoorSjSealP
import Derived.Test.YtfhjnfocmlndpaaDoorSjRPRight
import Derived.Test.YtfhjnfocmlndpaaDoorSjTakeP
import Derived.Test.YtfhjnfocmlndpaaDoorSjWhole
namespace Go.Proofs.YtfhjnfocmlndpaaDoor
open Go Go.RowKit Go.Proofs

set_option maxRecDepth 20000 in
set_option maxHeartbeats 4000000 in
theorem rsv_0 (r : Nat) (pub mark F x y z : ByteArray) (sa : Option Addr) (ns sc : Nat) (pb po pc : Nat) (w : World) (hF : F.size = 16) (hx : x.size = 16) (hy : y.size = 16) (hz : z.size = 16) (hk : RAt w r)
    (HC : Hid (∀ W, Below w.heap.size w W → W.cell? ⟨pb, po, none⟩ = some (.string x) ∧ W.cell? ⟨pb, po + 1, none⟩ = some (.string y) ∧ W.cell? ⟨pb, po + 2, none⟩ = some (.string z)))
    (HI : Hid (∀ W, Calls Tryd.prog 117 #[.int .i64 0, .int .i64 0, .int .i64 7] W fun e w' => e = .returned (.bool true) ∧ w' = W)) (HH : Hid (∀ W, Below w.heap.size w W → Calls Tryd.prog 105 #[(.slice (some ⟨pb, po, none⟩) 3 pc)] W fun e w' => e = .returned (.bool true) ∧ w' = W))
    (HF : Hid (∀ W, Below w.heap.size w W → Calls Tryd.prog 30 #[.pointer (some ⟨r, 0, none⟩), .string mark, .slice sa ns sc] W fun e w' => e = .returned (.tuple #[.string F, .int .i64 0]) ∧ Below W.heap.size W w')) :
    Calls Tryd.prog 59 #[.pointer (some ⟨r, 0, none⟩), .string pub, .string mark, .agg #[.int .i64 0, .slice sa ns sc, .slice (some ⟨pb, po, none⟩) 3 pc]] w (VerPost (sealTop 0 F [x, y, z]) pub w) := by
  have hb : Below w.heap.size w (w.alloc (.cells #[.int .i64 0, .slice sa ns sc, .slice (some ⟨pb, po, none⟩) 3 pc] 65)) := (Below.refl _ _).alloc (Nat.le_refl _) _
  have hP : Row3 (w.alloc (.cells #[.int .i64 0, .slice sa ns sc, .slice (some ⟨pb, po, none⟩) 3 pc] 65)) w.heap.size (.int .i64 0) (.slice sa ns sc) (.slice (some ⟨pb, po, none⟩) 3 pc) := Row3.of_row (T := 65) (heap_alloc_new _ _)
  have hPk := hP
  obtain ⟨p0, p1, p2, -, -, -⟩ := hPk
  have hT : ∃ T0 T1 T2 T3 : ByteArray, T0 = keyT 0 F ∧ T1 = upM T0 x ∧ T2 = upM T1 y ∧ T3 = upM T2 z ∧ sealTop 0 F [x, y, z] = T3 := ⟨_, _, _, _, rfl, rfl, rfl, rfl, by simp [sealTop, stepT]⟩
  obtain ⟨T0, T1, T2, T3, e0, e1, e2, e3, eS⟩ := hT
  rw [eS]
  have s0 : T0.size = 16 := by rw [e0]; exact keyT_size _ _
  have s1 : T1.size = 16 := by rw [e1]; exact upM_size _ _
  have s2 : T2.size = 16 := by rw [e2]; exact upM_size _ _
  have HM0 : Hid (∀ W, Below w.heap.size w W → Calls Tryd.prog 22 #[.pointer (some ⟨r, 0, none⟩), .int .u8 116, .slice (some ⟨W.heap.size, 0, none⟩) 2 2] (W.alloc (.cells #[.string (numS 0), .string F] 9)) fun e w' => e = .returned (.string T0) ∧ Below W.heap.size W w') := fun W hW => by rw [e0]; exact rmark2 r 116 _ rfl _ _ W (by first | omega | (rw [numS_size]; omega)) (by omega) (hk.mono hW)
  have HM1 : Hid (∀ W, Below w.heap.size w W → Calls Tryd.prog 22 #[.pointer (some ⟨r, 0, none⟩), .int .u8 117, .slice (some ⟨W.heap.size, 0, none⟩) 2 2] (W.alloc (.cells #[.string T0, .string x] 9)) fun e w' => e = .returned (.string T1) ∧ Below W.heap.size W w') := fun W hW => by rw [e1]; exact rmark2 r 117 _ rfl _ _ W (by first | omega | (rw [numS_size]; omega)) (by omega) (hk.mono hW)
  have HM2 : Hid (∀ W, Below w.heap.size w W → Calls Tryd.prog 22 #[.pointer (some ⟨r, 0, none⟩), .int .u8 117, .slice (some ⟨W.heap.size, 0, none⟩) 2 2] (W.alloc (.cells #[.string T1, .string y] 9)) fun e w' => e = .returned (.string T2) ∧ Below W.heap.size W w') := fun W hW => by rw [e2]; exact rmark2 r 117 _ rfl _ _ W (by first | omega | (rw [numS_size]; omega)) (by omega) (hk.mono hW)
  have HM3 : Hid (∀ W, Below w.heap.size w W → Calls Tryd.prog 22 #[.pointer (some ⟨r, 0, none⟩), .int .u8 117, .slice (some ⟨W.heap.size, 0, none⟩) 2 2] (W.alloc (.cells #[.string T2, .string z] 9)) fun e w' => e = .returned (.string T3) ∧ Below W.heap.size W w') := fun W hW => by rw [e3]; exact rmark2 r 117 _ rfl _ _ W (by first | omega | (rw [numS_size]; omega)) (by omega) (hk.mono hW)
  have HN := Lib.hid (fun W => rnum_any 0 W (by decide) (by decide))
  clear hk hF hx hy hz e0 e1 e2 e3 eS s0 s1 s2
  go_enter Tryd.func59, Tryd.ntmps59
  go_wp2_with (first
    | (go_at_call 117; refine (HI.out _).mono ?_; rintro e w1 ⟨rfl, hw⟩; have hw2 := hw.symm; subst hw2)
    | (go_at_call 105; refine (HH.out _ hb).mono ?_; rintro e w1 ⟨rfl, hw⟩; have hw2 := hw.symm; subst hw2)
    | (go_at_call 30; refine (HF.out _ hb).mono ?_; rintro e w1 ⟨rfl, hB1⟩; have C1 := hb.trans (hB1.mono hb.size); have P1 := hP.mono hB1; have P1k := P1; obtain ⟨q0, q1, q2, -, -, -⟩ := P1k))
  have y0 := fun x : Grown w1 => x.cell q0
  have y1 := fun x : Grown w1 => x.cell q1
  have y2 := fun x : Grown w1 => x.cell q2
  have hS := InGrown.drew w1
  refine wp_region_D (fun _ => true) (InGrown w1) 11 (by kernel_rfl) rfl ?_
  refine wpAnyD_take (i := 0) 8 (v := ?_) rfl (by kernel_rfl) (fun _ _ _ h => h) hS (Or.inl ⟨by rfl, ?_⟩) ?_
  case refine_2 => (rintro _ ⟨x, rfl⟩; go_simp <;> with_reducible rfl)
  refine wpAnyD_take (i := 1) 8 (v := ?_) rfl (by kernel_rfl) (fun _ _ _ h => h) hS (Or.inl ⟨by rfl, ?_⟩) ?_
  case refine_2 => (rintro _ ⟨x, rfl⟩; go_simp <;> with_reducible rfl)
  refine wpAnyD_take (i := 2) 8 (v := ?_) rfl (by kernel_rfl) (fun _ _ _ h => h) hS (Or.inl ⟨by rfl, ?_⟩) ?_
  case refine_2 => (rintro _ ⟨x, rfl⟩; go_simp <;> with_reducible rfl)
  refine wpAnyD_take (i := 4) 8 (v := ?_) rfl (by kernel_rfl) (fun _ _ _ h => h) hS (Or.inl ⟨by rfl, ?_⟩) ?_
  case refine_2 => (rintro _ ⟨x, rfl⟩; go_simp <;> with_reducible rfl)
  refine wpAnyD_take (i := 7) 8 (v := ?_) rfl (by kernel_rfl) (fun _ _ _ h => h) hS (Or.inl ⟨by rfl, ?_⟩) ?_
  case refine_2 => (rintro _ ⟨x, rfl⟩; go_simp <;> with_reducible rfl)
  refine wpAnyD_take (i := 8) 8 (v := ?_) rfl (by kernel_rfl) (fun _ _ _ h => h) hS (Or.inl ⟨by rfl, ?_⟩) ?_
  case refine_2 => (rintro _ ⟨x, rfl⟩; go_simp <;> with_reducible rfl)
  refine wpAnyD_step 3 (by kernel_rfl) rfl (fun K hK => ?_)
  go_simp
  (go_at_call 20; refine (HN.out _).mono ?_; rintro e w2 ⟨rfl, hB2⟩; have C2 := C1.drew.trans (hB2.mono C1.drew.size); have G2 := (Below.refl w1.heap.size w1).drew.trans hB2)
  dsimp only
  refine hK _ _ ⟨fun _ => ?_, ?_⟩
  rotate_left
  clear hK K
  case refine_1 => exact .of G2
  refine wpAnyD_step 5 (by kernel_rfl) rfl (fun K hK => ?_)
  go_simp
  refine hK _ _ ⟨fun _ => ?_, ?_⟩
  rotate_left
  clear hK K
  case refine_1 => exact .of (G2.alloc G2.size _)
  refine wpAnyD_step 6 (by kernel_rfl) rfl (fun K hK => ?_)
  go_simp
  (go_at_call 22; with_reducible refine (HM0.out _ C2).mono ?_; rintro e w3 ⟨rfl, hB3⟩; have C3 := C2.trans (hB3.mono C2.size); have G3 := G2.trans (hB3.mono G2.size); obtain ⟨x3, y3, z3⟩ := HC.out _ C3; have P3 := ((P1.drew).mono hB2).mono hB3; obtain ⟨r0, r1, r2, -, -, -⟩ := P3)
  dsimp only
  refine hK _ _ ⟨fun _ => ?_, ?_⟩
  rotate_left
  clear hK K
  case refine_1 => exact .of G3
  refine wpAnyD_take (i := 9) 8 (v := ?_) rfl (by kernel_rfl) (fun _ _ _ h => h) (InGrown.of G3) (Or.inl ⟨by rfl, ?_⟩) ?_
  case refine_2 => (rintro _ ⟨x, rfl⟩; go_simp <;> with_reducible rfl)
  refine wpAnyD_take (i := 10) 8 (v := ?_) rfl (by kernel_rfl) (fun _ _ _ h => h) (InGrown.of G3) (Or.inl ⟨by rfl, ?_⟩) ?_
  case refine_2 => (rintro _ ⟨x, rfl⟩; go_simp <;> with_reducible rfl)
  refine wpAnyD_done (by kernel_rfl) ?_
  clear y0 y1 y2 hS
  go_wp2_with fail
  refine wp_loop_rounds 4 ?_
  rw [rounds_succ]
  go_wp2_with (go_at_call 22; refine (HM1.out _ C3).mono ?_; rintro e u1 ⟨rfl, hD1⟩; have D1 := C3.trans (hD1.mono C3.size); obtain ⟨x4, y4, z4⟩ := HC.out _ D1)
  rw [rounds_succ]
  go_wp2_with (go_at_call 22; refine (HM2.out _ D1).mono ?_; rintro e u2 ⟨rfl, hD2⟩; have D2 := D1.trans (hD2.mono D1.size); obtain ⟨x5, y5, z5⟩ := HC.out _ D2)
  rw [rounds_succ]
  go_wp2_with (go_at_call 22; refine (HM3.out _ D2).mono ?_; rintro e u3 ⟨rfl, hD3⟩; have D3 := D2.trans (hD3.mono D2.size); obtain ⟨x6, y6, z6⟩ := HC.out _ D3)
  rw [rounds_succ]
  go_wp2_with fail
  go_ret
  refine ⟨_, rfl, ?_, D3⟩
  first | (rw [beq_iff_eq]; exact toList_iff) | (rw [decide_eq_true_iff]; exact toList_iff) | (simp; exact toList_iff)
set_option maxRecDepth 20000 in
set_option maxHeartbeats 4000000 in
theorem rsv_1 (r : Nat) (pub mark F x y z : ByteArray) (sa : Option Addr) (ns sc : Nat) (pb po pc : Nat) (w : World) (hF : F.size = 16) (hx : x.size = 16) (hy : y.size = 16) (hz : z.size = 16) (hk : RAt w r)
    (HC : Hid (∀ W, Below w.heap.size w W → W.cell? ⟨pb, po, none⟩ = some (.string x) ∧ W.cell? ⟨pb, po + 1, none⟩ = some (.string y) ∧ W.cell? ⟨pb, po + 2, none⟩ = some (.string z)))
    (HI : Hid (∀ W, Calls Tryd.prog 117 #[.int .i64 1, .int .i64 0, .int .i64 7] W fun e w' => e = .returned (.bool true) ∧ w' = W)) (HH : Hid (∀ W, Below w.heap.size w W → Calls Tryd.prog 105 #[(.slice (some ⟨pb, po, none⟩) 3 pc)] W fun e w' => e = .returned (.bool true) ∧ w' = W))
    (HF : Hid (∀ W, Below w.heap.size w W → Calls Tryd.prog 30 #[.pointer (some ⟨r, 0, none⟩), .string mark, .slice sa ns sc] W fun e w' => e = .returned (.tuple #[.string F, .int .i64 0]) ∧ Below W.heap.size W w')) :
    Calls Tryd.prog 59 #[.pointer (some ⟨r, 0, none⟩), .string pub, .string mark, .agg #[.int .i64 1, .slice sa ns sc, .slice (some ⟨pb, po, none⟩) 3 pc]] w (VerPost (sealTop 1 F [x, y, z]) pub w) := by
  have hb : Below w.heap.size w (w.alloc (.cells #[.int .i64 1, .slice sa ns sc, .slice (some ⟨pb, po, none⟩) 3 pc] 65)) := (Below.refl _ _).alloc (Nat.le_refl _) _
  have hP : Row3 (w.alloc (.cells #[.int .i64 1, .slice sa ns sc, .slice (some ⟨pb, po, none⟩) 3 pc] 65)) w.heap.size (.int .i64 1) (.slice sa ns sc) (.slice (some ⟨pb, po, none⟩) 3 pc) := Row3.of_row (T := 65) (heap_alloc_new _ _)
  have hPk := hP
  obtain ⟨p0, p1, p2, -, -, -⟩ := hPk
  have hT : ∃ T0 T1 T2 T3 : ByteArray, T0 = keyT 1 F ∧ T1 = upM x T0 ∧ T2 = upM T1 y ∧ T3 = upM T2 z ∧ sealTop 1 F [x, y, z] = T3 := ⟨_, _, _, _, rfl, rfl, rfl, rfl, by simp [sealTop, stepT]⟩
  obtain ⟨T0, T1, T2, T3, e0, e1, e2, e3, eS⟩ := hT
  rw [eS]
  have s0 : T0.size = 16 := by rw [e0]; exact keyT_size _ _
  have s1 : T1.size = 16 := by rw [e1]; exact upM_size _ _
  have s2 : T2.size = 16 := by rw [e2]; exact upM_size _ _
  have HM0 : Hid (∀ W, Below w.heap.size w W → Calls Tryd.prog 22 #[.pointer (some ⟨r, 0, none⟩), .int .u8 116, .slice (some ⟨W.heap.size, 0, none⟩) 2 2] (W.alloc (.cells #[.string (numS 1), .string F] 9)) fun e w' => e = .returned (.string T0) ∧ Below W.heap.size W w') := fun W hW => by rw [e0]; exact rmark2 r 116 _ rfl _ _ W (by first | omega | (rw [numS_size]; omega)) (by omega) (hk.mono hW)
  have HM1 : Hid (∀ W, Below w.heap.size w W → Calls Tryd.prog 22 #[.pointer (some ⟨r, 0, none⟩), .int .u8 117, .slice (some ⟨W.heap.size, 0, none⟩) 2 2] (W.alloc (.cells #[.string x, .string T0] 9)) fun e w' => e = .returned (.string T1) ∧ Below W.heap.size W w') := fun W hW => by rw [e1]; exact rmark2 r 117 _ rfl _ _ W (by first | omega | (rw [numS_size]; omega)) (by omega) (hk.mono hW)
  have HM2 : Hid (∀ W, Below w.heap.size w W → Calls Tryd.prog 22 #[.pointer (some ⟨r, 0, none⟩), .int .u8 117, .slice (some ⟨W.heap.size, 0, none⟩) 2 2] (W.alloc (.cells #[.string T1, .string y] 9)) fun e w' => e = .returned (.string T2) ∧ Below W.heap.size W w') := fun W hW => by rw [e2]; exact rmark2 r 117 _ rfl _ _ W (by first | omega | (rw [numS_size]; omega)) (by omega) (hk.mono hW)
  have HM3 : Hid (∀ W, Below w.heap.size w W → Calls Tryd.prog 22 #[.pointer (some ⟨r, 0, none⟩), .int .u8 117, .slice (some ⟨W.heap.size, 0, none⟩) 2 2] (W.alloc (.cells #[.string T2, .string z] 9)) fun e w' => e = .returned (.string T3) ∧ Below W.heap.size W w') := fun W hW => by rw [e3]; exact rmark2 r 117 _ rfl _ _ W (by first | omega | (rw [numS_size]; omega)) (by omega) (hk.mono hW)
  have HN := Lib.hid (fun W => rnum_any 1 W (by decide) (by decide))
  clear hk hF hx hy hz e0 e1 e2 e3 eS s0 s1 s2
  go_enter Tryd.func59, Tryd.ntmps59
  go_wp2_with (first
    | (go_at_call 117; refine (HI.out _).mono ?_; rintro e w1 ⟨rfl, hw⟩; have hw2 := hw.symm; subst hw2)
    | (go_at_call 105; refine (HH.out _ hb).mono ?_; rintro e w1 ⟨rfl, hw⟩; have hw2 := hw.symm; subst hw2)
    | (go_at_call 30; refine (HF.out _ hb).mono ?_; rintro e w1 ⟨rfl, hB1⟩; have C1 := hb.trans (hB1.mono hb.size); have P1 := hP.mono hB1; have P1k := P1; obtain ⟨q0, q1, q2, -, -, -⟩ := P1k))
  have y0 := fun x : Grown w1 => x.cell q0
  have y1 := fun x : Grown w1 => x.cell q1
  have y2 := fun x : Grown w1 => x.cell q2
  have hS := InGrown.drew w1
  refine wp_region_D (fun _ => true) (InGrown w1) 11 (by kernel_rfl) rfl ?_
  refine wpAnyD_take (i := 0) 8 (v := ?_) rfl (by kernel_rfl) (fun _ _ _ h => h) hS (Or.inl ⟨by rfl, ?_⟩) ?_
  case refine_2 => (rintro _ ⟨x, rfl⟩; go_simp <;> with_reducible rfl)
  refine wpAnyD_take (i := 1) 8 (v := ?_) rfl (by kernel_rfl) (fun _ _ _ h => h) hS (Or.inl ⟨by rfl, ?_⟩) ?_
  case refine_2 => (rintro _ ⟨x, rfl⟩; go_simp <;> with_reducible rfl)
  refine wpAnyD_take (i := 2) 8 (v := ?_) rfl (by kernel_rfl) (fun _ _ _ h => h) hS (Or.inl ⟨by rfl, ?_⟩) ?_
  case refine_2 => (rintro _ ⟨x, rfl⟩; go_simp <;> with_reducible rfl)
  refine wpAnyD_take (i := 4) 8 (v := ?_) rfl (by kernel_rfl) (fun _ _ _ h => h) hS (Or.inl ⟨by rfl, ?_⟩) ?_
  case refine_2 => (rintro _ ⟨x, rfl⟩; go_simp <;> with_reducible rfl)
  refine wpAnyD_take (i := 7) 8 (v := ?_) rfl (by kernel_rfl) (fun _ _ _ h => h) hS (Or.inl ⟨by rfl, ?_⟩) ?_
  case refine_2 => (rintro _ ⟨x, rfl⟩; go_simp <;> with_reducible rfl)
  refine wpAnyD_take (i := 8) 8 (v := ?_) rfl (by kernel_rfl) (fun _ _ _ h => h) hS (Or.inl ⟨by rfl, ?_⟩) ?_
  case refine_2 => (rintro _ ⟨x, rfl⟩; go_simp <;> with_reducible rfl)
  refine wpAnyD_step 3 (by kernel_rfl) rfl (fun K hK => ?_)
  go_simp
  (go_at_call 20; refine (HN.out _).mono ?_; rintro e w2 ⟨rfl, hB2⟩; have C2 := C1.drew.trans (hB2.mono C1.drew.size); have G2 := (Below.refl w1.heap.size w1).drew.trans hB2)
  dsimp only
  refine hK _ _ ⟨fun _ => ?_, ?_⟩
  rotate_left
  clear hK K
  case refine_1 => exact .of G2
  refine wpAnyD_step 5 (by kernel_rfl) rfl (fun K hK => ?_)
  go_simp
  refine hK _ _ ⟨fun _ => ?_, ?_⟩
  rotate_left
  clear hK K
  case refine_1 => exact .of (G2.alloc G2.size _)
  refine wpAnyD_step 6 (by kernel_rfl) rfl (fun K hK => ?_)
  go_simp
  (go_at_call 22; with_reducible refine (HM0.out _ C2).mono ?_; rintro e w3 ⟨rfl, hB3⟩; have C3 := C2.trans (hB3.mono C2.size); have G3 := G2.trans (hB3.mono G2.size); obtain ⟨x3, y3, z3⟩ := HC.out _ C3; have P3 := ((P1.drew).mono hB2).mono hB3; obtain ⟨r0, r1, r2, -, -, -⟩ := P3)
  dsimp only
  refine hK _ _ ⟨fun _ => ?_, ?_⟩
  rotate_left
  clear hK K
  case refine_1 => exact .of G3
  refine wpAnyD_take (i := 9) 8 (v := ?_) rfl (by kernel_rfl) (fun _ _ _ h => h) (InGrown.of G3) (Or.inl ⟨by rfl, ?_⟩) ?_
  case refine_2 => (rintro _ ⟨x, rfl⟩; go_simp <;> with_reducible rfl)
  refine wpAnyD_take (i := 10) 8 (v := ?_) rfl (by kernel_rfl) (fun _ _ _ h => h) (InGrown.of G3) (Or.inl ⟨by rfl, ?_⟩) ?_
  case refine_2 => (rintro _ ⟨x, rfl⟩; go_simp <;> with_reducible rfl)
  refine wpAnyD_done (by kernel_rfl) ?_
  clear y0 y1 y2 hS
  go_wp2_with fail
  refine wp_loop_rounds 4 ?_
  rw [rounds_succ]
  go_wp2_with (go_at_call 22; refine (HM1.out _ C3).mono ?_; rintro e u1 ⟨rfl, hD1⟩; have D1 := C3.trans (hD1.mono C3.size); obtain ⟨x4, y4, z4⟩ := HC.out _ D1)
  rw [rounds_succ]
  go_wp2_with (go_at_call 22; refine (HM2.out _ D1).mono ?_; rintro e u2 ⟨rfl, hD2⟩; have D2 := D1.trans (hD2.mono D1.size); obtain ⟨x5, y5, z5⟩ := HC.out _ D2)
  rw [rounds_succ]
  go_wp2_with (go_at_call 22; refine (HM3.out _ D2).mono ?_; rintro e u3 ⟨rfl, hD3⟩; have D3 := D2.trans (hD3.mono D2.size); obtain ⟨x6, y6, z6⟩ := HC.out _ D3)
  rw [rounds_succ]
  go_wp2_with fail
  go_ret
  refine ⟨_, rfl, ?_, D3⟩
  first | (rw [beq_iff_eq]; exact toList_iff) | (rw [decide_eq_true_iff]; exact toList_iff) | (simp; exact toList_iff)
set_option maxRecDepth 20000 in
set_option maxHeartbeats 4000000 in
theorem rsv_2 (r : Nat) (pub mark F x y z : ByteArray) (sa : Option Addr) (ns sc : Nat) (pb po pc : Nat) (w : World) (hF : F.size = 16) (hx : x.size = 16) (hy : y.size = 16) (hz : z.size = 16) (hk : RAt w r)
    (HC : Hid (∀ W, Below w.heap.size w W → W.cell? ⟨pb, po, none⟩ = some (.string x) ∧ W.cell? ⟨pb, po + 1, none⟩ = some (.string y) ∧ W.cell? ⟨pb, po + 2, none⟩ = some (.string z)))
    (HI : Hid (∀ W, Calls Tryd.prog 117 #[.int .i64 2, .int .i64 0, .int .i64 7] W fun e w' => e = .returned (.bool true) ∧ w' = W)) (HH : Hid (∀ W, Below w.heap.size w W → Calls Tryd.prog 105 #[(.slice (some ⟨pb, po, none⟩) 3 pc)] W fun e w' => e = .returned (.bool true) ∧ w' = W))
    (HF : Hid (∀ W, Below w.heap.size w W → Calls Tryd.prog 30 #[.pointer (some ⟨r, 0, none⟩), .string mark, .slice sa ns sc] W fun e w' => e = .returned (.tuple #[.string F, .int .i64 0]) ∧ Below W.heap.size W w')) :
    Calls Tryd.prog 59 #[.pointer (some ⟨r, 0, none⟩), .string pub, .string mark, .agg #[.int .i64 2, .slice sa ns sc, .slice (some ⟨pb, po, none⟩) 3 pc]] w (VerPost (sealTop 2 F [x, y, z]) pub w) := by
  have hb : Below w.heap.size w (w.alloc (.cells #[.int .i64 2, .slice sa ns sc, .slice (some ⟨pb, po, none⟩) 3 pc] 65)) := (Below.refl _ _).alloc (Nat.le_refl _) _
  have hP : Row3 (w.alloc (.cells #[.int .i64 2, .slice sa ns sc, .slice (some ⟨pb, po, none⟩) 3 pc] 65)) w.heap.size (.int .i64 2) (.slice sa ns sc) (.slice (some ⟨pb, po, none⟩) 3 pc) := Row3.of_row (T := 65) (heap_alloc_new _ _)
  have hPk := hP
  obtain ⟨p0, p1, p2, -, -, -⟩ := hPk
  have hT : ∃ T0 T1 T2 T3 : ByteArray, T0 = keyT 2 F ∧ T1 = upM T0 x ∧ T2 = upM y T1 ∧ T3 = upM T2 z ∧ sealTop 2 F [x, y, z] = T3 := ⟨_, _, _, _, rfl, rfl, rfl, rfl, by simp [sealTop, stepT]⟩
  obtain ⟨T0, T1, T2, T3, e0, e1, e2, e3, eS⟩ := hT
  rw [eS]
  have s0 : T0.size = 16 := by rw [e0]; exact keyT_size _ _
  have s1 : T1.size = 16 := by rw [e1]; exact upM_size _ _
  have s2 : T2.size = 16 := by rw [e2]; exact upM_size _ _
  have HM0 : Hid (∀ W, Below w.heap.size w W → Calls Tryd.prog 22 #[.pointer (some ⟨r, 0, none⟩), .int .u8 116, .slice (some ⟨W.heap.size, 0, none⟩) 2 2] (W.alloc (.cells #[.string (numS 2), .string F] 9)) fun e w' => e = .returned (.string T0) ∧ Below W.heap.size W w') := fun W hW => by rw [e0]; exact rmark2 r 116 _ rfl _ _ W (by first | omega | (rw [numS_size]; omega)) (by omega) (hk.mono hW)
  have HM1 : Hid (∀ W, Below w.heap.size w W → Calls Tryd.prog 22 #[.pointer (some ⟨r, 0, none⟩), .int .u8 117, .slice (some ⟨W.heap.size, 0, none⟩) 2 2] (W.alloc (.cells #[.string T0, .string x] 9)) fun e w' => e = .returned (.string T1) ∧ Below W.heap.size W w') := fun W hW => by rw [e1]; exact rmark2 r 117 _ rfl _ _ W (by first | omega | (rw [numS_size]; omega)) (by omega) (hk.mono hW)
  have HM2 : Hid (∀ W, Below w.heap.size w W → Calls Tryd.prog 22 #[.pointer (some ⟨r, 0, none⟩), .int .u8 117, .slice (some ⟨W.heap.size, 0, none⟩) 2 2] (W.alloc (.cells #[.string y, .string T1] 9)) fun e w' => e = .returned (.string T2) ∧ Below W.heap.size W w') := fun W hW => by rw [e2]; exact rmark2 r 117 _ rfl _ _ W (by first | omega | (rw [numS_size]; omega)) (by omega) (hk.mono hW)
  have HM3 : Hid (∀ W, Below w.heap.size w W → Calls Tryd.prog 22 #[.pointer (some ⟨r, 0, none⟩), .int .u8 117, .slice (some ⟨W.heap.size, 0, none⟩) 2 2] (W.alloc (.cells #[.string T2, .string z] 9)) fun e w' => e = .returned (.string T3) ∧ Below W.heap.size W w') := fun W hW => by rw [e3]; exact rmark2 r 117 _ rfl _ _ W (by first | omega | (rw [numS_size]; omega)) (by omega) (hk.mono hW)
  have HN := Lib.hid (fun W => rnum_any 2 W (by decide) (by decide))
  clear hk hF hx hy hz e0 e1 e2 e3 eS s0 s1 s2
  go_enter Tryd.func59, Tryd.ntmps59
  go_wp2_with (first
    | (go_at_call 117; refine (HI.out _).mono ?_; rintro e w1 ⟨rfl, hw⟩; have hw2 := hw.symm; subst hw2)
    | (go_at_call 105; refine (HH.out _ hb).mono ?_; rintro e w1 ⟨rfl, hw⟩; have hw2 := hw.symm; subst hw2)
    | (go_at_call 30; refine (HF.out _ hb).mono ?_; rintro e w1 ⟨rfl, hB1⟩; have C1 := hb.trans (hB1.mono hb.size); have P1 := hP.mono hB1; have P1k := P1; obtain ⟨q0, q1, q2, -, -, -⟩ := P1k))
  have y0 := fun x : Grown w1 => x.cell q0
  have y1 := fun x : Grown w1 => x.cell q1
  have y2 := fun x : Grown w1 => x.cell q2
  have hS := InGrown.drew w1
  refine wp_region_D (fun _ => true) (InGrown w1) 11 (by kernel_rfl) rfl ?_
  refine wpAnyD_take (i := 0) 8 (v := ?_) rfl (by kernel_rfl) (fun _ _ _ h => h) hS (Or.inl ⟨by rfl, ?_⟩) ?_
  case refine_2 => (rintro _ ⟨x, rfl⟩; go_simp <;> with_reducible rfl)
  refine wpAnyD_take (i := 1) 8 (v := ?_) rfl (by kernel_rfl) (fun _ _ _ h => h) hS (Or.inl ⟨by rfl, ?_⟩) ?_
  case refine_2 => (rintro _ ⟨x, rfl⟩; go_simp <;> with_reducible rfl)
  refine wpAnyD_take (i := 2) 8 (v := ?_) rfl (by kernel_rfl) (fun _ _ _ h => h) hS (Or.inl ⟨by rfl, ?_⟩) ?_
  case refine_2 => (rintro _ ⟨x, rfl⟩; go_simp <;> with_reducible rfl)
  refine wpAnyD_take (i := 4) 8 (v := ?_) rfl (by kernel_rfl) (fun _ _ _ h => h) hS (Or.inl ⟨by rfl, ?_⟩) ?_
  case refine_2 => (rintro _ ⟨x, rfl⟩; go_simp <;> with_reducible rfl)
  refine wpAnyD_take (i := 7) 8 (v := ?_) rfl (by kernel_rfl) (fun _ _ _ h => h) hS (Or.inl ⟨by rfl, ?_⟩) ?_
  case refine_2 => (rintro _ ⟨x, rfl⟩; go_simp <;> with_reducible rfl)
  refine wpAnyD_take (i := 8) 8 (v := ?_) rfl (by kernel_rfl) (fun _ _ _ h => h) hS (Or.inl ⟨by rfl, ?_⟩) ?_
  case refine_2 => (rintro _ ⟨x, rfl⟩; go_simp <;> with_reducible rfl)
  refine wpAnyD_step 3 (by kernel_rfl) rfl (fun K hK => ?_)
  go_simp
  (go_at_call 20; refine (HN.out _).mono ?_; rintro e w2 ⟨rfl, hB2⟩; have C2 := C1.drew.trans (hB2.mono C1.drew.size); have G2 := (Below.refl w1.heap.size w1).drew.trans hB2)
  dsimp only
  refine hK _ _ ⟨fun _ => ?_, ?_⟩
  rotate_left
  clear hK K
  case refine_1 => exact .of G2
  refine wpAnyD_step 5 (by kernel_rfl) rfl (fun K hK => ?_)
  go_simp
  refine hK _ _ ⟨fun _ => ?_, ?_⟩
  rotate_left
  clear hK K
  case refine_1 => exact .of (G2.alloc G2.size _)
  refine wpAnyD_step 6 (by kernel_rfl) rfl (fun K hK => ?_)
  go_simp
  (go_at_call 22; with_reducible refine (HM0.out _ C2).mono ?_; rintro e w3 ⟨rfl, hB3⟩; have C3 := C2.trans (hB3.mono C2.size); have G3 := G2.trans (hB3.mono G2.size); obtain ⟨x3, y3, z3⟩ := HC.out _ C3; have P3 := ((P1.drew).mono hB2).mono hB3; obtain ⟨r0, r1, r2, -, -, -⟩ := P3)
  dsimp only
  refine hK _ _ ⟨fun _ => ?_, ?_⟩
  rotate_left
  clear hK K
  case refine_1 => exact .of G3
  refine wpAnyD_take (i := 9) 8 (v := ?_) rfl (by kernel_rfl) (fun _ _ _ h => h) (InGrown.of G3) (Or.inl ⟨by rfl, ?_⟩) ?_
  case refine_2 => (rintro _ ⟨x, rfl⟩; go_simp <;> with_reducible rfl)
  refine wpAnyD_take (i := 10) 8 (v := ?_) rfl (by kernel_rfl) (fun _ _ _ h => h) (InGrown.of G3) (Or.inl ⟨by rfl, ?_⟩) ?_
  case refine_2 => (rintro _ ⟨x, rfl⟩; go_simp <;> with_reducible rfl)
  refine wpAnyD_done (by kernel_rfl) ?_
  clear y0 y1 y2 hS
  go_wp2_with fail
  refine wp_loop_rounds 4 ?_
  rw [rounds_succ]
  go_wp2_with (go_at_call 22; refine (HM1.out _ C3).mono ?_; rintro e u1 ⟨rfl, hD1⟩; have D1 := C3.trans (hD1.mono C3.size); obtain ⟨x4, y4, z4⟩ := HC.out _ D1)
  rw [rounds_succ]
  go_wp2_with (go_at_call 22; refine (HM2.out _ D1).mono ?_; rintro e u2 ⟨rfl, hD2⟩; have D2 := D1.trans (hD2.mono D1.size); obtain ⟨x5, y5, z5⟩ := HC.out _ D2)
  rw [rounds_succ]
  go_wp2_with (go_at_call 22; refine (HM3.out _ D2).mono ?_; rintro e u3 ⟨rfl, hD3⟩; have D3 := D2.trans (hD3.mono D2.size); obtain ⟨x6, y6, z6⟩ := HC.out _ D3)
  rw [rounds_succ]
  go_wp2_with fail
  go_ret
  refine ⟨_, rfl, ?_, D3⟩
  first | (rw [beq_iff_eq]; exact toList_iff) | (rw [decide_eq_true_iff]; exact toList_iff) | (simp; exact toList_iff)
set_option maxRecDepth 20000 in
set_option maxHeartbeats 4000000 in
theorem rsv_3 (r : Nat) (pub mark F x y z : ByteArray) (sa : Option Addr) (ns sc : Nat) (pb po pc : Nat) (w : World) (hF : F.size = 16) (hx : x.size = 16) (hy : y.size = 16) (hz : z.size = 16) (hk : RAt w r)
    (HC : Hid (∀ W, Below w.heap.size w W → W.cell? ⟨pb, po, none⟩ = some (.string x) ∧ W.cell? ⟨pb, po + 1, none⟩ = some (.string y) ∧ W.cell? ⟨pb, po + 2, none⟩ = some (.string z)))
    (HI : Hid (∀ W, Calls Tryd.prog 117 #[.int .i64 3, .int .i64 0, .int .i64 7] W fun e w' => e = .returned (.bool true) ∧ w' = W)) (HH : Hid (∀ W, Below w.heap.size w W → Calls Tryd.prog 105 #[(.slice (some ⟨pb, po, none⟩) 3 pc)] W fun e w' => e = .returned (.bool true) ∧ w' = W))
    (HF : Hid (∀ W, Below w.heap.size w W → Calls Tryd.prog 30 #[.pointer (some ⟨r, 0, none⟩), .string mark, .slice sa ns sc] W fun e w' => e = .returned (.tuple #[.string F, .int .i64 0]) ∧ Below W.heap.size W w')) :
    Calls Tryd.prog 59 #[.pointer (some ⟨r, 0, none⟩), .string pub, .string mark, .agg #[.int .i64 3, .slice sa ns sc, .slice (some ⟨pb, po, none⟩) 3 pc]] w (VerPost (sealTop 3 F [x, y, z]) pub w) := by
  have hb : Below w.heap.size w (w.alloc (.cells #[.int .i64 3, .slice sa ns sc, .slice (some ⟨pb, po, none⟩) 3 pc] 65)) := (Below.refl _ _).alloc (Nat.le_refl _) _
  have hP : Row3 (w.alloc (.cells #[.int .i64 3, .slice sa ns sc, .slice (some ⟨pb, po, none⟩) 3 pc] 65)) w.heap.size (.int .i64 3) (.slice sa ns sc) (.slice (some ⟨pb, po, none⟩) 3 pc) := Row3.of_row (T := 65) (heap_alloc_new _ _)
  have hPk := hP
  obtain ⟨p0, p1, p2, -, -, -⟩ := hPk
  have hT : ∃ T0 T1 T2 T3 : ByteArray, T0 = keyT 3 F ∧ T1 = upM x T0 ∧ T2 = upM y T1 ∧ T3 = upM T2 z ∧ sealTop 3 F [x, y, z] = T3 := ⟨_, _, _, _, rfl, rfl, rfl, rfl, by simp [sealTop, stepT]⟩
  obtain ⟨T0, T1, T2, T3, e0, e1, e2, e3, eS⟩ := hT
  rw [eS]
  have s0 : T0.size = 16 := by rw [e0]; exact keyT_size _ _
  have s1 : T1.size = 16 := by rw [e1]; exact upM_size _ _
  have s2 : T2.size = 16 := by rw [e2]; exact upM_size _ _
  have HM0 : Hid (∀ W, Below w.heap.size w W → Calls Tryd.prog 22 #[.pointer (some ⟨r, 0, none⟩), .int .u8 116, .slice (some ⟨W.heap.size, 0, none⟩) 2 2] (W.alloc (.cells #[.string (numS 3), .string F] 9)) fun e w' => e = .returned (.string T0) ∧ Below W.heap.size W w') := fun W hW => by rw [e0]; exact rmark2 r 116 _ rfl _ _ W (by first | omega | (rw [numS_size]; omega)) (by omega) (hk.mono hW)
  have HM1 : Hid (∀ W, Below w.heap.size w W → Calls Tryd.prog 22 #[.pointer (some ⟨r, 0, none⟩), .int .u8 117, .slice (some ⟨W.heap.size, 0, none⟩) 2 2] (W.alloc (.cells #[.string x, .string T0] 9)) fun e w' => e = .returned (.string T1) ∧ Below W.heap.size W w') := fun W hW => by rw [e1]; exact rmark2 r 117 _ rfl _ _ W (by first | omega | (rw [numS_size]; omega)) (by omega) (hk.mono hW)
  have HM2 : Hid (∀ W, Below w.heap.size w W → Calls Tryd.prog 22 #[.pointer (some ⟨r, 0, none⟩), .int .u8 117, .slice (some ⟨W.heap.size, 0, none⟩) 2 2] (W.alloc (.cells #[.string y, .string T1] 9)) fun e w' => e = .returned (.string T2) ∧ Below W.heap.size W w') := fun W hW => by rw [e2]; exact rmark2 r 117 _ rfl _ _ W (by first | omega | (rw [numS_size]; omega)) (by omega) (hk.mono hW)
  have HM3 : Hid (∀ W, Below w.heap.size w W → Calls Tryd.prog 22 #[.pointer (some ⟨r, 0, none⟩), .int .u8 117, .slice (some ⟨W.heap.size, 0, none⟩) 2 2] (W.alloc (.cells #[.string T2, .string z] 9)) fun e w' => e = .returned (.string T3) ∧ Below W.heap.size W w') := fun W hW => by rw [e3]; exact rmark2 r 117 _ rfl _ _ W (by first | omega | (rw [numS_size]; omega)) (by omega) (hk.mono hW)
  have HN := Lib.hid (fun W => rnum_any 3 W (by decide) (by decide))
  clear hk hF hx hy hz e0 e1 e2 e3 eS s0 s1 s2
  go_enter Tryd.func59, Tryd.ntmps59
  go_wp2_with (first
    | (go_at_call 117; refine (HI.out _).mono ?_; rintro e w1 ⟨rfl, hw⟩; have hw2 := hw.symm; subst hw2)
    | (go_at_call 105; refine (HH.out _ hb).mono ?_; rintro e w1 ⟨rfl, hw⟩; have hw2 := hw.symm; subst hw2)
    | (go_at_call 30; refine (HF.out _ hb).mono ?_; rintro e w1 ⟨rfl, hB1⟩; have C1 := hb.trans (hB1.mono hb.size); have P1 := hP.mono hB1; have P1k := P1; obtain ⟨q0, q1, q2, -, -, -⟩ := P1k))
  have y0 := fun x : Grown w1 => x.cell q0
  have y1 := fun x : Grown w1 => x.cell q1
  have y2 := fun x : Grown w1 => x.cell q2
  have hS := InGrown.drew w1
  refine wp_region_D (fun _ => true) (InGrown w1) 11 (by kernel_rfl) rfl ?_
  refine wpAnyD_take (i := 0) 8 (v := ?_) rfl (by kernel_rfl) (fun _ _ _ h => h) hS (Or.inl ⟨by rfl, ?_⟩) ?_
  case refine_2 => (rintro _ ⟨x, rfl⟩; go_simp <;> with_reducible rfl)
  refine wpAnyD_take (i := 1) 8 (v := ?_) rfl (by kernel_rfl) (fun _ _ _ h => h) hS (Or.inl ⟨by rfl, ?_⟩) ?_
  case refine_2 => (rintro _ ⟨x, rfl⟩; go_simp <;> with_reducible rfl)
  refine wpAnyD_take (i := 2) 8 (v := ?_) rfl (by kernel_rfl) (fun _ _ _ h => h) hS (Or.inl ⟨by rfl, ?_⟩) ?_
  case refine_2 => (rintro _ ⟨x, rfl⟩; go_simp <;> with_reducible rfl)
  refine wpAnyD_take (i := 4) 8 (v := ?_) rfl (by kernel_rfl) (fun _ _ _ h => h) hS (Or.inl ⟨by rfl, ?_⟩) ?_
  case refine_2 => (rintro _ ⟨x, rfl⟩; go_simp <;> with_reducible rfl)
  refine wpAnyD_take (i := 7) 8 (v := ?_) rfl (by kernel_rfl) (fun _ _ _ h => h) hS (Or.inl ⟨by rfl, ?_⟩) ?_
  case refine_2 => (rintro _ ⟨x, rfl⟩; go_simp <;> with_reducible rfl)
  refine wpAnyD_take (i := 8) 8 (v := ?_) rfl (by kernel_rfl) (fun _ _ _ h => h) hS (Or.inl ⟨by rfl, ?_⟩) ?_
  case refine_2 => (rintro _ ⟨x, rfl⟩; go_simp <;> with_reducible rfl)
  refine wpAnyD_step 3 (by kernel_rfl) rfl (fun K hK => ?_)
  go_simp
  (go_at_call 20; refine (HN.out _).mono ?_; rintro e w2 ⟨rfl, hB2⟩; have C2 := C1.drew.trans (hB2.mono C1.drew.size); have G2 := (Below.refl w1.heap.size w1).drew.trans hB2)
  dsimp only
  refine hK _ _ ⟨fun _ => ?_, ?_⟩
  rotate_left
  clear hK K
  case refine_1 => exact .of G2
  refine wpAnyD_step 5 (by kernel_rfl) rfl (fun K hK => ?_)
  go_simp
  refine hK _ _ ⟨fun _ => ?_, ?_⟩
  rotate_left
  clear hK K
  case refine_1 => exact .of (G2.alloc G2.size _)
  refine wpAnyD_step 6 (by kernel_rfl) rfl (fun K hK => ?_)
  go_simp
  (go_at_call 22; with_reducible refine (HM0.out _ C2).mono ?_; rintro e w3 ⟨rfl, hB3⟩; have C3 := C2.trans (hB3.mono C2.size); have G3 := G2.trans (hB3.mono G2.size); obtain ⟨x3, y3, z3⟩ := HC.out _ C3; have P3 := ((P1.drew).mono hB2).mono hB3; obtain ⟨r0, r1, r2, -, -, -⟩ := P3)
  dsimp only
  refine hK _ _ ⟨fun _ => ?_, ?_⟩
  rotate_left
  clear hK K
  case refine_1 => exact .of G3
  refine wpAnyD_take (i := 9) 8 (v := ?_) rfl (by kernel_rfl) (fun _ _ _ h => h) (InGrown.of G3) (Or.inl ⟨by rfl, ?_⟩) ?_
  case refine_2 => (rintro _ ⟨x, rfl⟩; go_simp <;> with_reducible rfl)
  refine wpAnyD_take (i := 10) 8 (v := ?_) rfl (by kernel_rfl) (fun _ _ _ h => h) (InGrown.of G3) (Or.inl ⟨by rfl, ?_⟩) ?_
  case refine_2 => (rintro _ ⟨x, rfl⟩; go_simp <;> with_reducible rfl)
  refine wpAnyD_done (by kernel_rfl) ?_
  clear y0 y1 y2 hS
  go_wp2_with fail
  refine wp_loop_rounds 4 ?_
  rw [rounds_succ]
  go_wp2_with (go_at_call 22; refine (HM1.out _ C3).mono ?_; rintro e u1 ⟨rfl, hD1⟩; have D1 := C3.trans (hD1.mono C3.size); obtain ⟨x4, y4, z4⟩ := HC.out _ D1)
  rw [rounds_succ]
  go_wp2_with (go_at_call 22; refine (HM2.out _ D1).mono ?_; rintro e u2 ⟨rfl, hD2⟩; have D2 := D1.trans (hD2.mono D1.size); obtain ⟨x5, y5, z5⟩ := HC.out _ D2)
  rw [rounds_succ]
  go_wp2_with (go_at_call 22; refine (HM3.out _ D2).mono ?_; rintro e u3 ⟨rfl, hD3⟩; have D3 := D2.trans (hD3.mono D2.size); obtain ⟨x6, y6, z6⟩ := HC.out _ D3)
  rw [rounds_succ]
  go_wp2_with fail
  go_ret
  refine ⟨_, rfl, ?_, D3⟩
  first | (rw [beq_iff_eq]; exact toList_iff) | (rw [decide_eq_true_iff]; exact toList_iff) | (simp; exact toList_iff)
set_option maxRecDepth 20000 in
set_option maxHeartbeats 4000000 in
theorem rsv_4 (r : Nat) (pub mark F x y z : ByteArray) (sa : Option Addr) (ns sc : Nat) (pb po pc : Nat) (w : World) (hF : F.size = 16) (hx : x.size = 16) (hy : y.size = 16) (hz : z.size = 16) (hk : RAt w r)
    (HC : Hid (∀ W, Below w.heap.size w W → W.cell? ⟨pb, po, none⟩ = some (.string x) ∧ W.cell? ⟨pb, po + 1, none⟩ = some (.string y) ∧ W.cell? ⟨pb, po + 2, none⟩ = some (.string z)))
    (HI : Hid (∀ W, Calls Tryd.prog 117 #[.int .i64 4, .int .i64 0, .int .i64 7] W fun e w' => e = .returned (.bool true) ∧ w' = W)) (HH : Hid (∀ W, Below w.heap.size w W → Calls Tryd.prog 105 #[(.slice (some ⟨pb, po, none⟩) 3 pc)] W fun e w' => e = .returned (.bool true) ∧ w' = W))
    (HF : Hid (∀ W, Below w.heap.size w W → Calls Tryd.prog 30 #[.pointer (some ⟨r, 0, none⟩), .string mark, .slice sa ns sc] W fun e w' => e = .returned (.tuple #[.string F, .int .i64 0]) ∧ Below W.heap.size W w')) :
    Calls Tryd.prog 59 #[.pointer (some ⟨r, 0, none⟩), .string pub, .string mark, .agg #[.int .i64 4, .slice sa ns sc, .slice (some ⟨pb, po, none⟩) 3 pc]] w (VerPost (sealTop 4 F [x, y, z]) pub w) := by
  have hb : Below w.heap.size w (w.alloc (.cells #[.int .i64 4, .slice sa ns sc, .slice (some ⟨pb, po, none⟩) 3 pc] 65)) := (Below.refl _ _).alloc (Nat.le_refl _) _
  have hP : Row3 (w.alloc (.cells #[.int .i64 4, .slice sa ns sc, .slice (some ⟨pb, po, none⟩) 3 pc] 65)) w.heap.size (.int .i64 4) (.slice sa ns sc) (.slice (some ⟨pb, po, none⟩) 3 pc) := Row3.of_row (T := 65) (heap_alloc_new _ _)
  have hPk := hP
  obtain ⟨p0, p1, p2, -, -, -⟩ := hPk
  have hT : ∃ T0 T1 T2 T3 : ByteArray, T0 = keyT 4 F ∧ T1 = upM T0 x ∧ T2 = upM T1 y ∧ T3 = upM z T2 ∧ sealTop 4 F [x, y, z] = T3 := ⟨_, _, _, _, rfl, rfl, rfl, rfl, by simp [sealTop, stepT]⟩
  obtain ⟨T0, T1, T2, T3, e0, e1, e2, e3, eS⟩ := hT
  rw [eS]
  have s0 : T0.size = 16 := by rw [e0]; exact keyT_size _ _
  have s1 : T1.size = 16 := by rw [e1]; exact upM_size _ _
  have s2 : T2.size = 16 := by rw [e2]; exact upM_size _ _
  have HM0 : Hid (∀ W, Below w.heap.size w W → Calls Tryd.prog 22 #[.pointer (some ⟨r, 0, none⟩), .int .u8 116, .slice (some ⟨W.heap.size, 0, none⟩) 2 2] (W.alloc (.cells #[.string (numS 4), .string F] 9)) fun e w' => e = .returned (.string T0) ∧ Below W.heap.size W w') := fun W hW => by rw [e0]; exact rmark2 r 116 _ rfl _ _ W (by first | omega | (rw [numS_size]; omega)) (by omega) (hk.mono hW)
  have HM1 : Hid (∀ W, Below w.heap.size w W → Calls Tryd.prog 22 #[.pointer (some ⟨r, 0, none⟩), .int .u8 117, .slice (some ⟨W.heap.size, 0, none⟩) 2 2] (W.alloc (.cells #[.string T0, .string x] 9)) fun e w' => e = .returned (.string T1) ∧ Below W.heap.size W w') := fun W hW => by rw [e1]; exact rmark2 r 117 _ rfl _ _ W (by first | omega | (rw [numS_size]; omega)) (by omega) (hk.mono hW)
  have HM2 : Hid (∀ W, Below w.heap.size w W → Calls Tryd.prog 22 #[.pointer (some ⟨r, 0, none⟩), .int .u8 117, .slice (some ⟨W.heap.size, 0, none⟩) 2 2] (W.alloc (.cells #[.string T1, .string y] 9)) fun e w' => e = .returned (.string T2) ∧ Below W.heap.size W w') := fun W hW => by rw [e2]; exact rmark2 r 117 _ rfl _ _ W (by first | omega | (rw [numS_size]; omega)) (by omega) (hk.mono hW)
  have HM3 : Hid (∀ W, Below w.heap.size w W → Calls Tryd.prog 22 #[.pointer (some ⟨r, 0, none⟩), .int .u8 117, .slice (some ⟨W.heap.size, 0, none⟩) 2 2] (W.alloc (.cells #[.string z, .string T2] 9)) fun e w' => e = .returned (.string T3) ∧ Below W.heap.size W w') := fun W hW => by rw [e3]; exact rmark2 r 117 _ rfl _ _ W (by first | omega | (rw [numS_size]; omega)) (by omega) (hk.mono hW)
  have HN := Lib.hid (fun W => rnum_any 4 W (by decide) (by decide))
  clear hk hF hx hy hz e0 e1 e2 e3 eS s0 s1 s2
  go_enter Tryd.func59, Tryd.ntmps59
  go_wp2_with (first
    | (go_at_call 117; refine (HI.out _).mono ?_; rintro e w1 ⟨rfl, hw⟩; have hw2 := hw.symm; subst hw2)
    | (go_at_call 105; refine (HH.out _ hb).mono ?_; rintro e w1 ⟨rfl, hw⟩; have hw2 := hw.symm; subst hw2)
    | (go_at_call 30; refine (HF.out _ hb).mono ?_; rintro e w1 ⟨rfl, hB1⟩; have C1 := hb.trans (hB1.mono hb.size); have P1 := hP.mono hB1; have P1k := P1; obtain ⟨q0, q1, q2, -, -, -⟩ := P1k))
  have y0 := fun x : Grown w1 => x.cell q0
  have y1 := fun x : Grown w1 => x.cell q1
  have y2 := fun x : Grown w1 => x.cell q2
  have hS := InGrown.drew w1
  refine wp_region_D (fun _ => true) (InGrown w1) 11 (by kernel_rfl) rfl ?_
  refine wpAnyD_take (i := 0) 8 (v := ?_) rfl (by kernel_rfl) (fun _ _ _ h => h) hS (Or.inl ⟨by rfl, ?_⟩) ?_
  case refine_2 => (rintro _ ⟨x, rfl⟩; go_simp <;> with_reducible rfl)
  refine wpAnyD_take (i := 1) 8 (v := ?_) rfl (by kernel_rfl) (fun _ _ _ h => h) hS (Or.inl ⟨by rfl, ?_⟩) ?_
  case refine_2 => (rintro _ ⟨x, rfl⟩; go_simp <;> with_reducible rfl)
  refine wpAnyD_take (i := 2) 8 (v := ?_) rfl (by kernel_rfl) (fun _ _ _ h => h) hS (Or.inl ⟨by rfl, ?_⟩) ?_
  case refine_2 => (rintro _ ⟨x, rfl⟩; go_simp <;> with_reducible rfl)
  refine wpAnyD_take (i := 4) 8 (v := ?_) rfl (by kernel_rfl) (fun _ _ _ h => h) hS (Or.inl ⟨by rfl, ?_⟩) ?_
  case refine_2 => (rintro _ ⟨x, rfl⟩; go_simp <;> with_reducible rfl)
  refine wpAnyD_take (i := 7) 8 (v := ?_) rfl (by kernel_rfl) (fun _ _ _ h => h) hS (Or.inl ⟨by rfl, ?_⟩) ?_
  case refine_2 => (rintro _ ⟨x, rfl⟩; go_simp <;> with_reducible rfl)
  refine wpAnyD_take (i := 8) 8 (v := ?_) rfl (by kernel_rfl) (fun _ _ _ h => h) hS (Or.inl ⟨by rfl, ?_⟩) ?_
  case refine_2 => (rintro _ ⟨x, rfl⟩; go_simp <;> with_reducible rfl)
  refine wpAnyD_step 3 (by kernel_rfl) rfl (fun K hK => ?_)
  go_simp
  (go_at_call 20; refine (HN.out _).mono ?_; rintro e w2 ⟨rfl, hB2⟩; have C2 := C1.drew.trans (hB2.mono C1.drew.size); have G2 := (Below.refl w1.heap.size w1).drew.trans hB2)
  dsimp only
  refine hK _ _ ⟨fun _ => ?_, ?_⟩
  rotate_left
  clear hK K
  case refine_1 => exact .of G2
  refine wpAnyD_step 5 (by kernel_rfl) rfl (fun K hK => ?_)
  go_simp
  refine hK _ _ ⟨fun _ => ?_, ?_⟩
  rotate_left
  clear hK K
  case refine_1 => exact .of (G2.alloc G2.size _)
  refine wpAnyD_step 6 (by kernel_rfl) rfl (fun K hK => ?_)
  go_simp
  (go_at_call 22; with_reducible refine (HM0.out _ C2).mono ?_; rintro e w3 ⟨rfl, hB3⟩; have C3 := C2.trans (hB3.mono C2.size); have G3 := G2.trans (hB3.mono G2.size); obtain ⟨x3, y3, z3⟩ := HC.out _ C3; have P3 := ((P1.drew).mono hB2).mono hB3; obtain ⟨r0, r1, r2, -, -, -⟩ := P3)
  dsimp only
  refine hK _ _ ⟨fun _ => ?_, ?_⟩
  rotate_left
  clear hK K
  case refine_1 => exact .of G3
  refine wpAnyD_take (i := 9) 8 (v := ?_) rfl (by kernel_rfl) (fun _ _ _ h => h) (InGrown.of G3) (Or.inl ⟨by rfl, ?_⟩) ?_
  case refine_2 => (rintro _ ⟨x, rfl⟩; go_simp <;> with_reducible rfl)
  refine wpAnyD_take (i := 10) 8 (v := ?_) rfl (by kernel_rfl) (fun _ _ _ h => h) (InGrown.of G3) (Or.inl ⟨by rfl, ?_⟩) ?_
  case refine_2 => (rintro _ ⟨x, rfl⟩; go_simp <;> with_reducible rfl)
  refine wpAnyD_done (by kernel_rfl) ?_
  clear y0 y1 y2 hS
  go_wp2_with fail
  refine wp_loop_rounds 4 ?_
  rw [rounds_succ]
  go_wp2_with (go_at_call 22; refine (HM1.out _ C3).mono ?_; rintro e u1 ⟨rfl, hD1⟩; have D1 := C3.trans (hD1.mono C3.size); obtain ⟨x4, y4, z4⟩ := HC.out _ D1)
  rw [rounds_succ]
  go_wp2_with (go_at_call 22; refine (HM2.out _ D1).mono ?_; rintro e u2 ⟨rfl, hD2⟩; have D2 := D1.trans (hD2.mono D1.size); obtain ⟨x5, y5, z5⟩ := HC.out _ D2)
  rw [rounds_succ]
  go_wp2_with (go_at_call 22; refine (HM3.out _ D2).mono ?_; rintro e u3 ⟨rfl, hD3⟩; have D3 := D2.trans (hD3.mono D2.size); obtain ⟨x6, y6, z6⟩ := HC.out _ D3)
  rw [rounds_succ]
  go_wp2_with fail
  go_ret
  refine ⟨_, rfl, ?_, D3⟩
  first | (rw [beq_iff_eq]; exact toList_iff) | (rw [decide_eq_true_iff]; exact toList_iff) | (simp; exact toList_iff)
set_option maxRecDepth 20000 in
set_option maxHeartbeats 4000000 in
theorem rsv_5 (r : Nat) (pub mark F x y z : ByteArray) (sa : Option Addr) (ns sc : Nat) (pb po pc : Nat) (w : World) (hF : F.size = 16) (hx : x.size = 16) (hy : y.size = 16) (hz : z.size = 16) (hk : RAt w r)
    (HC : Hid (∀ W, Below w.heap.size w W → W.cell? ⟨pb, po, none⟩ = some (.string x) ∧ W.cell? ⟨pb, po + 1, none⟩ = some (.string y) ∧ W.cell? ⟨pb, po + 2, none⟩ = some (.string z)))
    (HI : Hid (∀ W, Calls Tryd.prog 117 #[.int .i64 5, .int .i64 0, .int .i64 7] W fun e w' => e = .returned (.bool true) ∧ w' = W)) (HH : Hid (∀ W, Below w.heap.size w W → Calls Tryd.prog 105 #[(.slice (some ⟨pb, po, none⟩) 3 pc)] W fun e w' => e = .returned (.bool true) ∧ w' = W))
    (HF : Hid (∀ W, Below w.heap.size w W → Calls Tryd.prog 30 #[.pointer (some ⟨r, 0, none⟩), .string mark, .slice sa ns sc] W fun e w' => e = .returned (.tuple #[.string F, .int .i64 0]) ∧ Below W.heap.size W w')) :
    Calls Tryd.prog 59 #[.pointer (some ⟨r, 0, none⟩), .string pub, .string mark, .agg #[.int .i64 5, .slice sa ns sc, .slice (some ⟨pb, po, none⟩) 3 pc]] w (VerPost (sealTop 5 F [x, y, z]) pub w) := by
  have hb : Below w.heap.size w (w.alloc (.cells #[.int .i64 5, .slice sa ns sc, .slice (some ⟨pb, po, none⟩) 3 pc] 65)) := (Below.refl _ _).alloc (Nat.le_refl _) _
  have hP : Row3 (w.alloc (.cells #[.int .i64 5, .slice sa ns sc, .slice (some ⟨pb, po, none⟩) 3 pc] 65)) w.heap.size (.int .i64 5) (.slice sa ns sc) (.slice (some ⟨pb, po, none⟩) 3 pc) := Row3.of_row (T := 65) (heap_alloc_new _ _)
  have hPk := hP
  obtain ⟨p0, p1, p2, -, -, -⟩ := hPk
  have hT : ∃ T0 T1 T2 T3 : ByteArray, T0 = keyT 5 F ∧ T1 = upM x T0 ∧ T2 = upM T1 y ∧ T3 = upM z T2 ∧ sealTop 5 F [x, y, z] = T3 := ⟨_, _, _, _, rfl, rfl, rfl, rfl, by simp [sealTop, stepT]⟩
  obtain ⟨T0, T1, T2, T3, e0, e1, e2, e3, eS⟩ := hT
  rw [eS]
  have s0 : T0.size = 16 := by rw [e0]; exact keyT_size _ _
  have s1 : T1.size = 16 := by rw [e1]; exact upM_size _ _
  have s2 : T2.size = 16 := by rw [e2]; exact upM_size _ _
  have HM0 : Hid (∀ W, Below w.heap.size w W → Calls Tryd.prog 22 #[.pointer (some ⟨r, 0, none⟩), .int .u8 116, .slice (some ⟨W.heap.size, 0, none⟩) 2 2] (W.alloc (.cells #[.string (numS 5), .string F] 9)) fun e w' => e = .returned (.string T0) ∧ Below W.heap.size W w') := fun W hW => by rw [e0]; exact rmark2 r 116 _ rfl _ _ W (by first | omega | (rw [numS_size]; omega)) (by omega) (hk.mono hW)
  have HM1 : Hid (∀ W, Below w.heap.size w W → Calls Tryd.prog 22 #[.pointer (some ⟨r, 0, none⟩), .int .u8 117, .slice (some ⟨W.heap.size, 0, none⟩) 2 2] (W.alloc (.cells #[.string x, .string T0] 9)) fun e w' => e = .returned (.string T1) ∧ Below W.heap.size W w') := fun W hW => by rw [e1]; exact rmark2 r 117 _ rfl _ _ W (by first | omega | (rw [numS_size]; omega)) (by omega) (hk.mono hW)
  have HM2 : Hid (∀ W, Below w.heap.size w W → Calls Tryd.prog 22 #[.pointer (some ⟨r, 0, none⟩), .int .u8 117, .slice (some ⟨W.heap.size, 0, none⟩) 2 2] (W.alloc (.cells #[.string T1, .string y] 9)) fun e w' => e = .returned (.string T2) ∧ Below W.heap.size W w') := fun W hW => by rw [e2]; exact rmark2 r 117 _ rfl _ _ W (by first | omega | (rw [numS_size]; omega)) (by omega) (hk.mono hW)
  have HM3 : Hid (∀ W, Below w.heap.size w W → Calls Tryd.prog 22 #[.pointer (some ⟨r, 0, none⟩), .int .u8 117, .slice (some ⟨W.heap.size, 0, none⟩) 2 2] (W.alloc (.cells #[.string z, .string T2] 9)) fun e w' => e = .returned (.string T3) ∧ Below W.heap.size W w') := fun W hW => by rw [e3]; exact rmark2 r 117 _ rfl _ _ W (by first | omega | (rw [numS_size]; omega)) (by omega) (hk.mono hW)
  have HN := Lib.hid (fun W => rnum_any 5 W (by decide) (by decide))
  clear hk hF hx hy hz e0 e1 e2 e3 eS s0 s1 s2
  go_enter Tryd.func59, Tryd.ntmps59
  go_wp2_with (first
    | (go_at_call 117; refine (HI.out _).mono ?_; rintro e w1 ⟨rfl, hw⟩; have hw2 := hw.symm; subst hw2)
    | (go_at_call 105; refine (HH.out _ hb).mono ?_; rintro e w1 ⟨rfl, hw⟩; have hw2 := hw.symm; subst hw2)
    | (go_at_call 30; refine (HF.out _ hb).mono ?_; rintro e w1 ⟨rfl, hB1⟩; have C1 := hb.trans (hB1.mono hb.size); have P1 := hP.mono hB1; have P1k := P1; obtain ⟨q0, q1, q2, -, -, -⟩ := P1k))
  have y0 := fun x : Grown w1 => x.cell q0
  have y1 := fun x : Grown w1 => x.cell q1
  have y2 := fun x : Grown w1 => x.cell q2
  have hS := InGrown.drew w1
  refine wp_region_D (fun _ => true) (InGrown w1) 11 (by kernel_rfl) rfl ?_
  refine wpAnyD_take (i := 0) 8 (v := ?_) rfl (by kernel_rfl) (fun _ _ _ h => h) hS (Or.inl ⟨by rfl, ?_⟩) ?_
  case refine_2 => (rintro _ ⟨x, rfl⟩; go_simp <;> with_reducible rfl)
  refine wpAnyD_take (i := 1) 8 (v := ?_) rfl (by kernel_rfl) (fun _ _ _ h => h) hS (Or.inl ⟨by rfl, ?_⟩) ?_
  case refine_2 => (rintro _ ⟨x, rfl⟩; go_simp <;> with_reducible rfl)
  refine wpAnyD_take (i := 2) 8 (v := ?_) rfl (by kernel_rfl) (fun _ _ _ h => h) hS (Or.inl ⟨by rfl, ?_⟩) ?_
  case refine_2 => (rintro _ ⟨x, rfl⟩; go_simp <;> with_reducible rfl)
  refine wpAnyD_take (i := 4) 8 (v := ?_) rfl (by kernel_rfl) (fun _ _ _ h => h) hS (Or.inl ⟨by rfl, ?_⟩) ?_
  case refine_2 => (rintro _ ⟨x, rfl⟩; go_simp <;> with_reducible rfl)
  refine wpAnyD_take (i := 7) 8 (v := ?_) rfl (by kernel_rfl) (fun _ _ _ h => h) hS (Or.inl ⟨by rfl, ?_⟩) ?_
  case refine_2 => (rintro _ ⟨x, rfl⟩; go_simp <;> with_reducible rfl)
  refine wpAnyD_take (i := 8) 8 (v := ?_) rfl (by kernel_rfl) (fun _ _ _ h => h) hS (Or.inl ⟨by rfl, ?_⟩) ?_
  case refine_2 => (rintro _ ⟨x, rfl⟩; go_simp <;> with_reducible rfl)
  refine wpAnyD_step 3 (by kernel_rfl) rfl (fun K hK => ?_)
  go_simp
  (go_at_call 20; refine (HN.out _).mono ?_; rintro e w2 ⟨rfl, hB2⟩; have C2 := C1.drew.trans (hB2.mono C1.drew.size); have G2 := (Below.refl w1.heap.size w1).drew.trans hB2)
  dsimp only
  refine hK _ _ ⟨fun _ => ?_, ?_⟩
  rotate_left
  clear hK K
  case refine_1 => exact .of G2
  refine wpAnyD_step 5 (by kernel_rfl) rfl (fun K hK => ?_)
  go_simp
  refine hK _ _ ⟨fun _ => ?_, ?_⟩
  rotate_left
  clear hK K
  case refine_1 => exact .of (G2.alloc G2.size _)
  refine wpAnyD_step 6 (by kernel_rfl) rfl (fun K hK => ?_)
  go_simp
  (go_at_call 22; with_reducible refine (HM0.out _ C2).mono ?_; rintro e w3 ⟨rfl, hB3⟩; have C3 := C2.trans (hB3.mono C2.size); have G3 := G2.trans (hB3.mono G2.size); obtain ⟨x3, y3, z3⟩ := HC.out _ C3; have P3 := ((P1.drew).mono hB2).mono hB3; obtain ⟨r0, r1, r2, -, -, -⟩ := P3)
  dsimp only
  refine hK _ _ ⟨fun _ => ?_, ?_⟩
  rotate_left
  clear hK K
  case refine_1 => exact .of G3
  refine wpAnyD_take (i := 9) 8 (v := ?_) rfl (by kernel_rfl) (fun _ _ _ h => h) (InGrown.of G3) (Or.inl ⟨by rfl, ?_⟩) ?_
  case refine_2 => (rintro _ ⟨x, rfl⟩; go_simp <;> with_reducible rfl)
  refine wpAnyD_take (i := 10) 8 (v := ?_) rfl (by kernel_rfl) (fun _ _ _ h => h) (InGrown.of G3) (Or.inl ⟨by rfl, ?_⟩) ?_
  case refine_2 => (rintro _ ⟨x, rfl⟩; go_simp <;> with_reducible rfl)
  refine wpAnyD_done (by kernel_rfl) ?_
  clear y0 y1 y2 hS
  go_wp2_with fail
  refine wp_loop_rounds 4 ?_
  rw [rounds_succ]
  go_wp2_with (go_at_call 22; refine (HM1.out _ C3).mono ?_; rintro e u1 ⟨rfl, hD1⟩; have D1 := C3.trans (hD1.mono C3.size); obtain ⟨x4, y4, z4⟩ := HC.out _ D1)
  rw [rounds_succ]
  go_wp2_with (go_at_call 22; refine (HM2.out _ D1).mono ?_; rintro e u2 ⟨rfl, hD2⟩; have D2 := D1.trans (hD2.mono D1.size); obtain ⟨x5, y5, z5⟩ := HC.out _ D2)
  rw [rounds_succ]
  go_wp2_with (go_at_call 22; refine (HM3.out _ D2).mono ?_; rintro e u3 ⟨rfl, hD3⟩; have D3 := D2.trans (hD3.mono D2.size); obtain ⟨x6, y6, z6⟩ := HC.out _ D3)
  rw [rounds_succ]
  go_wp2_with fail
  go_ret
  refine ⟨_, rfl, ?_, D3⟩
  first | (rw [beq_iff_eq]; exact toList_iff) | (rw [decide_eq_true_iff]; exact toList_iff) | (simp; exact toList_iff)
set_option maxRecDepth 20000 in
set_option maxHeartbeats 4000000 in
theorem rsv_6 (r : Nat) (pub mark F x y z : ByteArray) (sa : Option Addr) (ns sc : Nat) (pb po pc : Nat) (w : World) (hF : F.size = 16) (hx : x.size = 16) (hy : y.size = 16) (hz : z.size = 16) (hk : RAt w r)
    (HC : Hid (∀ W, Below w.heap.size w W → W.cell? ⟨pb, po, none⟩ = some (.string x) ∧ W.cell? ⟨pb, po + 1, none⟩ = some (.string y) ∧ W.cell? ⟨pb, po + 2, none⟩ = some (.string z)))
    (HI : Hid (∀ W, Calls Tryd.prog 117 #[.int .i64 6, .int .i64 0, .int .i64 7] W fun e w' => e = .returned (.bool true) ∧ w' = W)) (HH : Hid (∀ W, Below w.heap.size w W → Calls Tryd.prog 105 #[(.slice (some ⟨pb, po, none⟩) 3 pc)] W fun e w' => e = .returned (.bool true) ∧ w' = W))
    (HF : Hid (∀ W, Below w.heap.size w W → Calls Tryd.prog 30 #[.pointer (some ⟨r, 0, none⟩), .string mark, .slice sa ns sc] W fun e w' => e = .returned (.tuple #[.string F, .int .i64 0]) ∧ Below W.heap.size W w')) :
    Calls Tryd.prog 59 #[.pointer (some ⟨r, 0, none⟩), .string pub, .string mark, .agg #[.int .i64 6, .slice sa ns sc, .slice (some ⟨pb, po, none⟩) 3 pc]] w (VerPost (sealTop 6 F [x, y, z]) pub w) := by
  have hb : Below w.heap.size w (w.alloc (.cells #[.int .i64 6, .slice sa ns sc, .slice (some ⟨pb, po, none⟩) 3 pc] 65)) := (Below.refl _ _).alloc (Nat.le_refl _) _
  have hP : Row3 (w.alloc (.cells #[.int .i64 6, .slice sa ns sc, .slice (some ⟨pb, po, none⟩) 3 pc] 65)) w.heap.size (.int .i64 6) (.slice sa ns sc) (.slice (some ⟨pb, po, none⟩) 3 pc) := Row3.of_row (T := 65) (heap_alloc_new _ _)
  have hPk := hP
  obtain ⟨p0, p1, p2, -, -, -⟩ := hPk
  have hT : ∃ T0 T1 T2 T3 : ByteArray, T0 = keyT 6 F ∧ T1 = upM T0 x ∧ T2 = upM y T1 ∧ T3 = upM z T2 ∧ sealTop 6 F [x, y, z] = T3 := ⟨_, _, _, _, rfl, rfl, rfl, rfl, by simp [sealTop, stepT]⟩
  obtain ⟨T0, T1, T2, T3, e0, e1, e2, e3, eS⟩ := hT
  rw [eS]
  have s0 : T0.size = 16 := by rw [e0]; exact keyT_size _ _
  have s1 : T1.size = 16 := by rw [e1]; exact upM_size _ _
  have s2 : T2.size = 16 := by rw [e2]; exact upM_size _ _
  have HM0 : Hid (∀ W, Below w.heap.size w W → Calls Tryd.prog 22 #[.pointer (some ⟨r, 0, none⟩), .int .u8 116, .slice (some ⟨W.heap.size, 0, none⟩) 2 2] (W.alloc (.cells #[.string (numS 6), .string F] 9)) fun e w' => e = .returned (.string T0) ∧ Below W.heap.size W w') := fun W hW => by rw [e0]; exact rmark2 r 116 _ rfl _ _ W (by first | omega | (rw [numS_size]; omega)) (by omega) (hk.mono hW)
  have HM1 : Hid (∀ W, Below w.heap.size w W → Calls Tryd.prog 22 #[.pointer (some ⟨r, 0, none⟩), .int .u8 117, .slice (some ⟨W.heap.size, 0, none⟩) 2 2] (W.alloc (.cells #[.string T0, .string x] 9)) fun e w' => e = .returned (.string T1) ∧ Below W.heap.size W w') := fun W hW => by rw [e1]; exact rmark2 r 117 _ rfl _ _ W (by first | omega | (rw [numS_size]; omega)) (by omega) (hk.mono hW)
  have HM2 : Hid (∀ W, Below w.heap.size w W → Calls Tryd.prog 22 #[.pointer (some ⟨r, 0, none⟩), .int .u8 117, .slice (some ⟨W.heap.size, 0, none⟩) 2 2] (W.alloc (.cells #[.string y, .string T1] 9)) fun e w' => e = .returned (.string T2) ∧ Below W.heap.size W w') := fun W hW => by rw [e2]; exact rmark2 r 117 _ rfl _ _ W (by first | omega | (rw [numS_size]; omega)) (by omega) (hk.mono hW)
  have HM3 : Hid (∀ W, Below w.heap.size w W → Calls Tryd.prog 22 #[.pointer (some ⟨r, 0, none⟩), .int .u8 117, .slice (some ⟨W.heap.size, 0, none⟩) 2 2] (W.alloc (.cells #[.string z, .string T2] 9)) fun e w' => e = .returned (.string T3) ∧ Below W.heap.size W w') := fun W hW => by rw [e3]; exact rmark2 r 117 _ rfl _ _ W (by first | omega | (rw [numS_size]; omega)) (by omega) (hk.mono hW)
  have HN := Lib.hid (fun W => rnum_any 6 W (by decide) (by decide))
  clear hk hF hx hy hz e0 e1 e2 e3 eS s0 s1 s2
  go_enter Tryd.func59, Tryd.ntmps59
  go_wp2_with (first
    | (go_at_call 117; refine (HI.out _).mono ?_; rintro e w1 ⟨rfl, hw⟩; have hw2 := hw.symm; subst hw2)
    | (go_at_call 105; refine (HH.out _ hb).mono ?_; rintro e w1 ⟨rfl, hw⟩; have hw2 := hw.symm; subst hw2)
    | (go_at_call 30; refine (HF.out _ hb).mono ?_; rintro e w1 ⟨rfl, hB1⟩; have C1 := hb.trans (hB1.mono hb.size); have P1 := hP.mono hB1; have P1k := P1; obtain ⟨q0, q1, q2, -, -, -⟩ := P1k))
  have y0 := fun x : Grown w1 => x.cell q0
  have y1 := fun x : Grown w1 => x.cell q1
  have y2 := fun x : Grown w1 => x.cell q2
  have hS := InGrown.drew w1
  refine wp_region_D (fun _ => true) (InGrown w1) 11 (by kernel_rfl) rfl ?_
  refine wpAnyD_take (i := 0) 8 (v := ?_) rfl (by kernel_rfl) (fun _ _ _ h => h) hS (Or.inl ⟨by rfl, ?_⟩) ?_
  case refine_2 => (rintro _ ⟨x, rfl⟩; go_simp <;> with_reducible rfl)
  refine wpAnyD_take (i := 1) 8 (v := ?_) rfl (by kernel_rfl) (fun _ _ _ h => h) hS (Or.inl ⟨by rfl, ?_⟩) ?_
  case refine_2 => (rintro _ ⟨x, rfl⟩; go_simp <;> with_reducible rfl)
  refine wpAnyD_take (i := 2) 8 (v := ?_) rfl (by kernel_rfl) (fun _ _ _ h => h) hS (Or.inl ⟨by rfl, ?_⟩) ?_
  case refine_2 => (rintro _ ⟨x, rfl⟩; go_simp <;> with_reducible rfl)
  refine wpAnyD_take (i := 4) 8 (v := ?_) rfl (by kernel_rfl) (fun _ _ _ h => h) hS (Or.inl ⟨by rfl, ?_⟩) ?_
  case refine_2 => (rintro _ ⟨x, rfl⟩; go_simp <;> with_reducible rfl)
  refine wpAnyD_take (i := 7) 8 (v := ?_) rfl (by kernel_rfl) (fun _ _ _ h => h) hS (Or.inl ⟨by rfl, ?_⟩) ?_
  case refine_2 => (rintro _ ⟨x, rfl⟩; go_simp <;> with_reducible rfl)
  refine wpAnyD_take (i := 8) 8 (v := ?_) rfl (by kernel_rfl) (fun _ _ _ h => h) hS (Or.inl ⟨by rfl, ?_⟩) ?_
  case refine_2 => (rintro _ ⟨x, rfl⟩; go_simp <;> with_reducible rfl)
  refine wpAnyD_step 3 (by kernel_rfl) rfl (fun K hK => ?_)
  go_simp
  (go_at_call 20; refine (HN.out _).mono ?_; rintro e w2 ⟨rfl, hB2⟩; have C2 := C1.drew.trans (hB2.mono C1.drew.size); have G2 := (Below.refl w1.heap.size w1).drew.trans hB2)
  dsimp only
  refine hK _ _ ⟨fun _ => ?_, ?_⟩
  rotate_left
  clear hK K
  case refine_1 => exact .of G2
  refine wpAnyD_step 5 (by kernel_rfl) rfl (fun K hK => ?_)
  go_simp
  refine hK _ _ ⟨fun _ => ?_, ?_⟩
  rotate_left
  clear hK K
  case refine_1 => exact .of (G2.alloc G2.size _)
  refine wpAnyD_step 6 (by kernel_rfl) rfl (fun K hK => ?_)
  go_simp
  (go_at_call 22; with_reducible refine (HM0.out _ C2).mono ?_; rintro e w3 ⟨rfl, hB3⟩; have C3 := C2.trans (hB3.mono C2.size); have G3 := G2.trans (hB3.mono G2.size); obtain ⟨x3, y3, z3⟩ := HC.out _ C3; have P3 := ((P1.drew).mono hB2).mono hB3; obtain ⟨r0, r1, r2, -, -, -⟩ := P3)
  dsimp only
  refine hK _ _ ⟨fun _ => ?_, ?_⟩
  rotate_left
  clear hK K
  case refine_1 => exact .of G3
  refine wpAnyD_take (i := 9) 8 (v := ?_) rfl (by kernel_rfl) (fun _ _ _ h => h) (InGrown.of G3) (Or.inl ⟨by rfl, ?_⟩) ?_
  case refine_2 => (rintro _ ⟨x, rfl⟩; go_simp <;> with_reducible rfl)
  refine wpAnyD_take (i := 10) 8 (v := ?_) rfl (by kernel_rfl) (fun _ _ _ h => h) (InGrown.of G3) (Or.inl ⟨by rfl, ?_⟩) ?_
  case refine_2 => (rintro _ ⟨x, rfl⟩; go_simp <;> with_reducible rfl)
  refine wpAnyD_done (by kernel_rfl) ?_
  clear y0 y1 y2 hS
  go_wp2_with fail
  refine wp_loop_rounds 4 ?_
  rw [rounds_succ]
  go_wp2_with (go_at_call 22; refine (HM1.out _ C3).mono ?_; rintro e u1 ⟨rfl, hD1⟩; have D1 := C3.trans (hD1.mono C3.size); obtain ⟨x4, y4, z4⟩ := HC.out _ D1)
  rw [rounds_succ]
  go_wp2_with (go_at_call 22; refine (HM2.out _ D1).mono ?_; rintro e u2 ⟨rfl, hD2⟩; have D2 := D1.trans (hD2.mono D1.size); obtain ⟨x5, y5, z5⟩ := HC.out _ D2)
  rw [rounds_succ]
  go_wp2_with (go_at_call 22; refine (HM3.out _ D2).mono ?_; rintro e u3 ⟨rfl, hD3⟩; have D3 := D2.trans (hD3.mono D2.size); obtain ⟨x6, y6, z6⟩ := HC.out _ D3)
  rw [rounds_succ]
  go_wp2_with fail
  go_ret
  refine ⟨_, rfl, ?_, D3⟩
  first | (rw [beq_iff_eq]; exact toList_iff) | (rw [decide_eq_true_iff]; exact toList_iff) | (simp; exact toList_iff)
set_option maxRecDepth 20000 in
set_option maxHeartbeats 4000000 in
theorem rsv_7 (r : Nat) (pub mark F x y z : ByteArray) (sa : Option Addr) (ns sc : Nat) (pb po pc : Nat) (w : World) (hF : F.size = 16) (hx : x.size = 16) (hy : y.size = 16) (hz : z.size = 16) (hk : RAt w r)
    (HC : Hid (∀ W, Below w.heap.size w W → W.cell? ⟨pb, po, none⟩ = some (.string x) ∧ W.cell? ⟨pb, po + 1, none⟩ = some (.string y) ∧ W.cell? ⟨pb, po + 2, none⟩ = some (.string z)))
    (HI : Hid (∀ W, Calls Tryd.prog 117 #[.int .i64 7, .int .i64 0, .int .i64 7] W fun e w' => e = .returned (.bool true) ∧ w' = W)) (HH : Hid (∀ W, Below w.heap.size w W → Calls Tryd.prog 105 #[(.slice (some ⟨pb, po, none⟩) 3 pc)] W fun e w' => e = .returned (.bool true) ∧ w' = W))
    (HF : Hid (∀ W, Below w.heap.size w W → Calls Tryd.prog 30 #[.pointer (some ⟨r, 0, none⟩), .string mark, .slice sa ns sc] W fun e w' => e = .returned (.tuple #[.string F, .int .i64 0]) ∧ Below W.heap.size W w')) :
    Calls Tryd.prog 59 #[.pointer (some ⟨r, 0, none⟩), .string pub, .string mark, .agg #[.int .i64 7, .slice sa ns sc, .slice (some ⟨pb, po, none⟩) 3 pc]] w (VerPost (sealTop 7 F [x, y, z]) pub w) := by
  have hb : Below w.heap.size w (w.alloc (.cells #[.int .i64 7, .slice sa ns sc, .slice (some ⟨pb, po, none⟩) 3 pc] 65)) := (Below.refl _ _).alloc (Nat.le_refl _) _
  have hP : Row3 (w.alloc (.cells #[.int .i64 7, .slice sa ns sc, .slice (some ⟨pb, po, none⟩) 3 pc] 65)) w.heap.size (.int .i64 7) (.slice sa ns sc) (.slice (some ⟨pb, po, none⟩) 3 pc) := Row3.of_row (T := 65) (heap_alloc_new _ _)
  have hPk := hP
  obtain ⟨p0, p1, p2, -, -, -⟩ := hPk
  have hT : ∃ T0 T1 T2 T3 : ByteArray, T0 = keyT 7 F ∧ T1 = upM x T0 ∧ T2 = upM y T1 ∧ T3 = upM z T2 ∧ sealTop 7 F [x, y, z] = T3 := ⟨_, _, _, _, rfl, rfl, rfl, rfl, by simp [sealTop, stepT]⟩
  obtain ⟨T0, T1, T2, T3, e0, e1, e2, e3, eS⟩ := hT
  rw [eS]
  have s0 : T0.size = 16 := by rw [e0]; exact keyT_size _ _
  have s1 : T1.size = 16 := by rw [e1]; exact upM_size _ _
  have s2 : T2.size = 16 := by rw [e2]; exact upM_size _ _
  have HM0 : Hid (∀ W, Below w.heap.size w W → Calls Tryd.prog 22 #[.pointer (some ⟨r, 0, none⟩), .int .u8 116, .slice (some ⟨W.heap.size, 0, none⟩) 2 2] (W.alloc (.cells #[.string (numS 7), .string F] 9)) fun e w' => e = .returned (.string T0) ∧ Below W.heap.size W w') := fun W hW => by rw [e0]; exact rmark2 r 116 _ rfl _ _ W (by first | omega | (rw [numS_size]; omega)) (by omega) (hk.mono hW)
  have HM1 : Hid (∀ W, Below w.heap.size w W → Calls Tryd.prog 22 #[.pointer (some ⟨r, 0, none⟩), .int .u8 117, .slice (some ⟨W.heap.size, 0, none⟩) 2 2] (W.alloc (.cells #[.string x, .string T0] 9)) fun e w' => e = .returned (.string T1) ∧ Below W.heap.size W w') := fun W hW => by rw [e1]; exact rmark2 r 117 _ rfl _ _ W (by first | omega | (rw [numS_size]; omega)) (by omega) (hk.mono hW)
  have HM2 : Hid (∀ W, Below w.heap.size w W → Calls Tryd.prog 22 #[.pointer (some ⟨r, 0, none⟩), .int .u8 117, .slice (some ⟨W.heap.size, 0, none⟩) 2 2] (W.alloc (.cells #[.string y, .string T1] 9)) fun e w' => e = .returned (.string T2) ∧ Below W.heap.size W w') := fun W hW => by rw [e2]; exact rmark2 r 117 _ rfl _ _ W (by first | omega | (rw [numS_size]; omega)) (by omega) (hk.mono hW)
  have HM3 : Hid (∀ W, Below w.heap.size w W → Calls Tryd.prog 22 #[.pointer (some ⟨r, 0, none⟩), .int .u8 117, .slice (some ⟨W.heap.size, 0, none⟩) 2 2] (W.alloc (.cells #[.string z, .string T2] 9)) fun e w' => e = .returned (.string T3) ∧ Below W.heap.size W w') := fun W hW => by rw [e3]; exact rmark2 r 117 _ rfl _ _ W (by first | omega | (rw [numS_size]; omega)) (by omega) (hk.mono hW)
  have HN := Lib.hid (fun W => rnum_any 7 W (by decide) (by decide))
  clear hk hF hx hy hz e0 e1 e2 e3 eS s0 s1 s2
  go_enter Tryd.func59, Tryd.ntmps59
  go_wp2_with (first
    | (go_at_call 117; refine (HI.out _).mono ?_; rintro e w1 ⟨rfl, hw⟩; have hw2 := hw.symm; subst hw2)
    | (go_at_call 105; refine (HH.out _ hb).mono ?_; rintro e w1 ⟨rfl, hw⟩; have hw2 := hw.symm; subst hw2)
    | (go_at_call 30; refine (HF.out _ hb).mono ?_; rintro e w1 ⟨rfl, hB1⟩; have C1 := hb.trans (hB1.mono hb.size); have P1 := hP.mono hB1; have P1k := P1; obtain ⟨q0, q1, q2, -, -, -⟩ := P1k))
  have y0 := fun x : Grown w1 => x.cell q0
  have y1 := fun x : Grown w1 => x.cell q1
  have y2 := fun x : Grown w1 => x.cell q2
  have hS := InGrown.drew w1
  refine wp_region_D (fun _ => true) (InGrown w1) 11 (by kernel_rfl) rfl ?_
  refine wpAnyD_take (i := 0) 8 (v := ?_) rfl (by kernel_rfl) (fun _ _ _ h => h) hS (Or.inl ⟨by rfl, ?_⟩) ?_
  case refine_2 => (rintro _ ⟨x, rfl⟩; go_simp <;> with_reducible rfl)
  refine wpAnyD_take (i := 1) 8 (v := ?_) rfl (by kernel_rfl) (fun _ _ _ h => h) hS (Or.inl ⟨by rfl, ?_⟩) ?_
  case refine_2 => (rintro _ ⟨x, rfl⟩; go_simp <;> with_reducible rfl)
  refine wpAnyD_take (i := 2) 8 (v := ?_) rfl (by kernel_rfl) (fun _ _ _ h => h) hS (Or.inl ⟨by rfl, ?_⟩) ?_
  case refine_2 => (rintro _ ⟨x, rfl⟩; go_simp <;> with_reducible rfl)
  refine wpAnyD_take (i := 4) 8 (v := ?_) rfl (by kernel_rfl) (fun _ _ _ h => h) hS (Or.inl ⟨by rfl, ?_⟩) ?_
  case refine_2 => (rintro _ ⟨x, rfl⟩; go_simp <;> with_reducible rfl)
  refine wpAnyD_take (i := 7) 8 (v := ?_) rfl (by kernel_rfl) (fun _ _ _ h => h) hS (Or.inl ⟨by rfl, ?_⟩) ?_
  case refine_2 => (rintro _ ⟨x, rfl⟩; go_simp <;> with_reducible rfl)
  refine wpAnyD_take (i := 8) 8 (v := ?_) rfl (by kernel_rfl) (fun _ _ _ h => h) hS (Or.inl ⟨by rfl, ?_⟩) ?_
  case refine_2 => (rintro _ ⟨x, rfl⟩; go_simp <;> with_reducible rfl)
  refine wpAnyD_step 3 (by kernel_rfl) rfl (fun K hK => ?_)
  go_simp
  (go_at_call 20; refine (HN.out _).mono ?_; rintro e w2 ⟨rfl, hB2⟩; have C2 := C1.drew.trans (hB2.mono C1.drew.size); have G2 := (Below.refl w1.heap.size w1).drew.trans hB2)
  dsimp only
  refine hK _ _ ⟨fun _ => ?_, ?_⟩
  rotate_left
  clear hK K
  case refine_1 => exact .of G2
  refine wpAnyD_step 5 (by kernel_rfl) rfl (fun K hK => ?_)
  go_simp
  refine hK _ _ ⟨fun _ => ?_, ?_⟩
  rotate_left
  clear hK K
  case refine_1 => exact .of (G2.alloc G2.size _)
  refine wpAnyD_step 6 (by kernel_rfl) rfl (fun K hK => ?_)
  go_simp
  (go_at_call 22; with_reducible refine (HM0.out _ C2).mono ?_; rintro e w3 ⟨rfl, hB3⟩; have C3 := C2.trans (hB3.mono C2.size); have G3 := G2.trans (hB3.mono G2.size); obtain ⟨x3, y3, z3⟩ := HC.out _ C3; have P3 := ((P1.drew).mono hB2).mono hB3; obtain ⟨r0, r1, r2, -, -, -⟩ := P3)
  dsimp only
  refine hK _ _ ⟨fun _ => ?_, ?_⟩
  rotate_left
  clear hK K
  case refine_1 => exact .of G3
  refine wpAnyD_take (i := 9) 8 (v := ?_) rfl (by kernel_rfl) (fun _ _ _ h => h) (InGrown.of G3) (Or.inl ⟨by rfl, ?_⟩) ?_
  case refine_2 => (rintro _ ⟨x, rfl⟩; go_simp <;> with_reducible rfl)
  refine wpAnyD_take (i := 10) 8 (v := ?_) rfl (by kernel_rfl) (fun _ _ _ h => h) (InGrown.of G3) (Or.inl ⟨by rfl, ?_⟩) ?_
  case refine_2 => (rintro _ ⟨x, rfl⟩; go_simp <;> with_reducible rfl)
  refine wpAnyD_done (by kernel_rfl) ?_
  clear y0 y1 y2 hS
  go_wp2_with fail
  refine wp_loop_rounds 4 ?_
  rw [rounds_succ]
  go_wp2_with (go_at_call 22; refine (HM1.out _ C3).mono ?_; rintro e u1 ⟨rfl, hD1⟩; have D1 := C3.trans (hD1.mono C3.size); obtain ⟨x4, y4, z4⟩ := HC.out _ D1)
  rw [rounds_succ]
  go_wp2_with (go_at_call 22; refine (HM2.out _ D1).mono ?_; rintro e u2 ⟨rfl, hD2⟩; have D2 := D1.trans (hD2.mono D1.size); obtain ⟨x5, y5, z5⟩ := HC.out _ D2)
  rw [rounds_succ]
  go_wp2_with (go_at_call 22; refine (HM3.out _ D2).mono ?_; rintro e u3 ⟨rfl, hD3⟩; have D3 := D2.trans (hD3.mono D2.size); obtain ⟨x6, y6, z6⟩ := HC.out _ D3)
  rw [rounds_succ]
  go_wp2_with fail
  go_ret
  refine ⟨_, rfl, ?_, D3⟩
  first | (rw [beq_iff_eq]; exact toList_iff) | (rw [decide_eq_true_iff]; exact toList_iff) | (simp; exact toList_iff)
end Go.Proofs.YtfhjnfocmlndpaaDoor
