/- (*seal.Box).Sign. (Its rounds are printed by wip/gen_sign.py.) -/
import Derived.Test.YtfhjnfocmlndpaaDoorSjSealQ
import Derived.Test.YtfhjnfocmlndpaaDoorSjOnceS
namespace Go.Proofs.YtfhjnfocmlndpaaDoor
open Go Go.RowKit Go.Proofs Go.Shelf

theorem bits_sib (k : Nat) (h : k < 8) : bits .xor .i64 (k : Int) 1 = ((sibN k : Nat) : Int) := by
  rcases (by omega : k = 0 ∨ k = 1 ∨ k = 2 ∨ k = 3 ∨ k = 4 ∨ k = 5 ∨ k = 6 ∨ k = 7) with rfl | rfl | rfl | rfl | rfl | rfl | rfl | rfl <;> decide
theorem sibN_lt {k n : Nat} (h : k < 2 * n) : sibN k < 2 * n := by unfold sibN; split <;> omega
set_option maxRecDepth 100000 in
set_option maxHeartbeats 4000000 in
theorem boxSign_ok (B : Nat) (seed m : ByteArray) (k : Nat) (w : World) (hk8 : k < 8) (h : BoxP w B seed) (h16 : seed.size = 16) (hm16 : m.size = 16) (hk : KAt w 0) : Calls Tryd.prog 56 #[.pointer (some ⟨B, 0, none⟩), .int .i64 k, .string m] w (SgPost seed m k w) := by
  obtain ⟨l0, l1, l2, -⟩ := rowR_length seed
  obtain ⟨k1, hk1⟩ : ∃ j, j = k / 2 := ⟨_, rfl⟩
  obtain ⟨k2, hk2⟩ : ∃ j, j = k / 4 := ⟨_, rfl⟩
  obtain ⟨s0, hs0⟩ : ∃ j, j = sibN k := ⟨_, rfl⟩
  obtain ⟨s1, hs1⟩ : ∃ j, j = sibN k1 := ⟨_, rfl⟩
  obtain ⟨s2, hs2⟩ : ∃ j, j = sibN k2 := ⟨_, rfl⟩
  have b0 : s0 < 8 := hs0 ▸ sibN_lt (n := 4) (by omega)
  have b1 : s1 < 4 := hs1 ▸ sibN_lt (n := 2) (by omega)
  have b2 : s2 < 2 := hs2 ▸ sibN_lt (n := 1) (by omega)
  have x0 : bits .xor .i64 (k : Int) 1 = (s0 : Int) := hs0 ▸ bits_sib k hk8
  have x1 : bits .xor .i64 (k1 : Int) 1 = (s1 : Int) := hs1 ▸ bits_sib k1 (by omega)
  have x2 : bits .xor .i64 (k2 : Int) 1 = (s2 : Int) := hs2 ▸ bits_sib k2 (by omega)
  have y0 : (s0 : Int) < 8 := by omega
  have y1 : (s1 : Int) < 4 := by omega
  have y2 : (s2 : Int) < 2 := by omega
  obtain ⟨p0, hp0⟩ : ∃ p, (rowR seed 0)[s0]? = some p := ⟨_, List.getElem?_eq_getElem (by omega)⟩
  obtain ⟨p1, hp1⟩ : ∃ p, (rowR seed 1)[s1]? = some p := ⟨_, List.getElem?_eq_getElem (by omega)⟩
  obtain ⟨p2, hp2⟩ : ∃ p, (rowR seed 2)[s2]? = some p := ⟨_, List.getElem?_eq_getElem (by omega)⟩
  have hpath : Hid (pathR seed k = [p0, p1, p2]) := pathR_is hs0.symm (by rw [← hk1]; exact hs1.symm) (by rw [← hk2]; exact hs2.symm) hp0 hp1 hp2
  obtain ⟨g, cap, a0, o0, c0, a1, o1, c1, a2, o2, c2, hcap, HB⟩ := h.reads hp0 hp1 hp2
  have HS := Lib.hid (fun W (hW : Below w.heap.size w W) => sign_ok seed k m W h16 hm16 (by omega) (by omega) (hk.mono hW))
  have hb : Below w.heap.size w (w.alloc (.cells #[.int .i64 0, .slice none 0 0, .slice none 0 0] 65)) := (Below.refl _ _).alloc (Nat.le_refl _) _
  have hR0 : Row3 (w.alloc (.cells #[.int .i64 0, .slice none 0 0, .slice none 0 0] 65)) w.heap.size (.int .i64 0) (.slice none 0 0) (.slice none 0 0) := Row3.of_row (T := 65) (heap_alloc_new _ _)
  obtain ⟨z0, -⟩ := HB.out _ hb
  have i1 : IntKind.i64.wrap ((4 : Int) - 1) = 3 := by decide
  have hc1 : (3 : Int) ≤ cap := by omega
  have hc2 : 3 ≤ cap := by omega
  have e1 : ¬ (k : Int) < 0 := by omega
  have e2 : ¬ (8 : Int) ≤ k := by omega
  unfold SgPost
  rw [hpath.out]
  clear h h16 hm16 hk hp0 hp1 hp2 l0 l1 l2 hpath hs0 hs1 hs2 b0 b1 b2 hk8
  have j1 : (k : Int) / 2 = (k1 : Int) := by omega
  have j2 : (k1 : Int) / 2 = (k2 : Int) := by omega
  clear hk1 hk2
  go_enter Tryd.func56, Tryd.ntmps56
  go_wp2_with (go_at_call 28; refine (HS.out _ hb).mono ?_; rintro e w1 ⟨sv, rfl, hO, hB1⟩; obtain ⟨sg, sc, rfl, -⟩ := hO.some_ (by decide); have HO := Lib.hid hO; clear hO; have hR1 := hR0.mono hB1; have C1 := hb.trans (hB1.mono hb.size); have C2 : Below w1.heap.size w1 (w1.alloc (.cells #[.int .i64 k, .slice (some ⟨sg, 0, none⟩) 35 sc, .slice none 0 0] 65)) := (Below.refl _ _).alloc (Nat.le_refl _) _; have S0 : SgSt w w1 (w1.alloc (.cells #[.int .i64 k, .slice (some ⟨sg, 0, none⟩) 35 sc, .slice none 0 0] 65)) w1.heap.size k (.slice (some ⟨sg, 0, none⟩) 35 sc) (.slice none 0 0) [] := ⟨hR1.alloc _, Row3.of_row (T := 65) (heap_alloc_new _ _), Own.nil _ _ _ _, rfl, World.block_lt_of_cell? _ _ hR1.c0, C1, C2⟩; obtain ⟨z1, z2, -⟩ := HB.out _ S0.belowW; clear hB1 C2)
  go_quiet (fail)
  have S1 := S0.drewN nq
  obtain ⟨T, hT⟩ : ∃ T, T = w1.heap.size := ⟨_, rfl⟩
  rw [← hT] at S1 ⊢
  generalize hW : World.drewN _ nq = W0 at S1 ⊢
  clear hW S0 z1 z2 z0 hT
  obtain ⟨-, -, r0, r1, r2, d0, d1, d2⟩ := HB.out _ S1.belowW
  go_wp2_with fail
  have HS0 := Lib.hid S1
  clear S1
  refine wp_loop_rounds 4 ?_
  rw [rounds_succ]
  go_wp2_with fail
  have q0 := HS0.out.row.c2
  have u0 := fun z : Grown W0 => z.cell q0
  have u1 := fun z : Grown W0 => z.cell d0
  have hS := InGrown.drew W0
  have G0 := (Below.refl W0.heap.size W0).drew
  refine wp_region_D (fun j => decide (j < 8)) (InGrown W0) 11 (by kernel_rfl) rfl ?_
  refine wpAnyD_take (i := 0) 11 (v := ?_) rfl (by kernel_rfl) (fun _ _ _ h => h) hS (Or.inl ⟨by first | kernel_rfl | rfl, ?_⟩) ?_
  case refine_2 => (rintro _ ⟨z, rfl⟩; go_simp <;> with_reducible rfl)
  refine wpAnyD_take (i := 1) 11 (v := ?_) rfl (by kernel_rfl) (fun _ _ _ h => h) hS (Or.inl ⟨by first | kernel_rfl | rfl, ?_⟩) ?_
  case refine_2 => (rintro _ ⟨z, rfl⟩; go_simp <;> with_reducible rfl)
  refine wpAnyD_take (i := 2) 11 (v := ?_) rfl (by kernel_rfl) (fun _ _ _ h => h) hS (Or.inl ⟨by first | kernel_rfl | rfl, ?_⟩) ?_
  case refine_2 => (rintro _ ⟨z, rfl⟩; go_simp <;> with_reducible rfl)
  refine wpAnyD_take (i := 3) 11 (v := ?_) rfl (by kernel_rfl) (fun _ _ _ h => h) hS (Or.inl ⟨by first | kernel_rfl | rfl, ?_⟩) ?_
  case refine_2 => (rintro _ ⟨z, rfl⟩; go_simp <;> with_reducible rfl)
  refine wpAnyD_take (i := 4) 11 (v := ?_) rfl (by kernel_rfl) (fun _ _ _ h => h) hS (Or.inl ⟨by first | kernel_rfl | rfl, ?_⟩) ?_
  case refine_2 => (rintro _ ⟨z, rfl⟩; go_simp <;> with_reducible rfl)
  refine wpAnyD_take (i := 5) 11 (v := ?_) rfl (by kernel_rfl) (fun _ _ _ h => h) hS (Or.inl ⟨by first | kernel_rfl | rfl, ?_⟩) ?_
  case refine_2 => (rintro _ ⟨z, rfl⟩; go_simp <;> with_reducible rfl)
  refine wpAnyD_take (i := 6) 11 (v := ?_) rfl (by kernel_rfl) (fun _ _ _ h => h) hS (Or.inl ⟨by first | kernel_rfl | rfl, ?_⟩) ?_
  case refine_2 => (rintro _ ⟨z, rfl⟩; go_simp <;> with_reducible rfl)
  refine wpAnyD_step 7 (by kernel_rfl) rfl (fun K hK => ?_)
  go_simp
  refine hK _ _ ⟨fun _ => ?_, ?_⟩
  rotate_left
  clear hK K
  case refine_1 => exact .of (G0.alloc G0.size _)
  refine wpAnyD_rest 8 (by kernel_rfl) (by kernel_rfl) ?_
  simp only [List.drop_succ_cons, List.drop_zero]
  clear u0 u1 hS q0 r0 r1 r2 d0 d1 d2
  have hsz := HS0.out.size
  change wpList _ _ _ _ _ (W0.drew.alloc _)
  refine app_lit2 rfl _ _ 22 rfl (T + 1) 9 _ 1 16 u_strs i_str rfl (by decide) (.slice none 0 0) 0 (strV []) ?hs_0 HS0.out.own.drew 1 _ ?hx_0 ?hl_0 ?h1_0 ?hn_0 ?hb_0 hsz ?_
  case hs_0 => rfl
  case hx_0 => rfl
  case hl_0 => rfl
  case h1_0 => (intro u hu; simp at hu; subst hu; rfl)
  case hn_0 => omega
  case hb_0 => omega
  intro v0 x0_ hO4 hG4 hob4
  obtain ⟨g1_, k1_, rfl, -⟩ := hO4.some_ (Nat.succ_pos _)
  have hR4 := HS0.out.drew.row.grow hG4 (HS0.out.ne (Nat.le_refl _))
  have HS1 : Hid (SgSt w w1 (x0_.setCell ⟨T, 2, none⟩ (.slice (some ⟨g1_, 0, none⟩) 1 k1_)) T k (.slice (some ⟨sg, 0, none⟩) 35 sc) (.slice (some ⟨g1_, 0, none⟩) 1 k1_) [p0]) := HS0.out.drew.push hG4 hO4
  obtain ⟨q4, q5, q6, f4, f5, f6⟩ := hR4
  clear hO4 hG4 hob4 hsz
  go_wp2_with fail
  generalize hW : x0_.setCell ⟨T, 2, none⟩ (.slice (some ⟨g1_, 0, none⟩) 1 k1_) = W1 at HS1 ⊢
  clear hW q4 q5 q6 f4 f5 f6
  obtain ⟨-, -, r0, r1, r2, d0, d1, d2⟩ := HB.out _ HS1.out.belowW
  rw [rounds_succ]
  go_wp2_with fail
  have q0 := HS1.out.row.c2
  have u0 := fun z : Grown W1 => z.cell q0
  have u1 := fun z : Grown W1 => z.cell d1
  have hS := InGrown.drew W1
  have G0 := (Below.refl W1.heap.size W1).drew
  refine wp_region_D (fun j => decide (j < 8)) (InGrown W1) 11 (by kernel_rfl) rfl ?_
  refine wpAnyD_take (i := 0) 11 (v := ?_) rfl (by kernel_rfl) (fun _ _ _ h => h) hS (Or.inl ⟨by first | kernel_rfl | rfl, ?_⟩) ?_
  case refine_2 => (rintro _ ⟨z, rfl⟩; go_simp <;> with_reducible rfl)
  refine wpAnyD_take (i := 1) 11 (v := ?_) rfl (by kernel_rfl) (fun _ _ _ h => h) hS (Or.inl ⟨by first | kernel_rfl | rfl, ?_⟩) ?_
  case refine_2 => (rintro _ ⟨z, rfl⟩; go_simp <;> with_reducible rfl)
  refine wpAnyD_take (i := 2) 11 (v := ?_) rfl (by kernel_rfl) (fun _ _ _ h => h) hS (Or.inl ⟨by first | kernel_rfl | rfl, ?_⟩) ?_
  case refine_2 => (rintro _ ⟨z, rfl⟩; go_simp <;> with_reducible rfl)
  refine wpAnyD_take (i := 3) 11 (v := ?_) rfl (by kernel_rfl) (fun _ _ _ h => h) hS (Or.inl ⟨by first | kernel_rfl | rfl, ?_⟩) ?_
  case refine_2 => (rintro _ ⟨z, rfl⟩; go_simp <;> with_reducible rfl)
  refine wpAnyD_take (i := 4) 11 (v := ?_) rfl (by kernel_rfl) (fun _ _ _ h => h) hS (Or.inl ⟨by first | kernel_rfl | rfl, ?_⟩) ?_
  case refine_2 => (rintro _ ⟨z, rfl⟩; go_simp <;> with_reducible rfl)
  refine wpAnyD_take (i := 5) 11 (v := ?_) rfl (by kernel_rfl) (fun _ _ _ h => h) hS (Or.inl ⟨by first | kernel_rfl | rfl, ?_⟩) ?_
  case refine_2 => (rintro _ ⟨z, rfl⟩; go_simp <;> with_reducible rfl)
  refine wpAnyD_take (i := 6) 11 (v := ?_) rfl (by kernel_rfl) (fun _ _ _ h => h) hS (Or.inl ⟨by first | kernel_rfl | rfl, ?_⟩) ?_
  case refine_2 => (rintro _ ⟨z, rfl⟩; go_simp <;> with_reducible rfl)
  refine wpAnyD_step 7 (by kernel_rfl) rfl (fun K hK => ?_)
  go_simp
  refine hK _ _ ⟨fun _ => ?_, ?_⟩
  rotate_left
  clear hK K
  case refine_1 => exact .of (G0.alloc G0.size _)
  refine wpAnyD_rest 8 (by kernel_rfl) (by kernel_rfl) ?_
  simp only [List.drop_succ_cons, List.drop_zero]
  clear u0 u1 hS q0 r0 r1 r2 d0 d1 d2
  have hsz := HS1.out.size
  change wpList _ _ _ _ _ (W1.drew.alloc _)
  refine app_lit2 rfl _ _ 22 rfl (T + 1) 9 _ 1 16 u_strs i_str rfl (by decide) (.slice (some ⟨g1_, 0, none⟩) 1 k1_) 1 (strV [p0]) ?hs_1 HS1.out.own.drew 1 _ ?hx_1 ?hl_1 ?h1_1 ?hn_1 ?hb_1 hsz ?_
  case hs_1 => rfl
  case hx_1 => rfl
  case hl_1 => rfl
  case h1_1 => (intro u hu; simp at hu; subst hu; rfl)
  case hn_1 => omega
  case hb_1 => omega
  intro v1 x1_ hO4 hG4 hob4
  obtain ⟨g2_, k2_, rfl, -⟩ := hO4.some_ (Nat.succ_pos _)
  have hR4 := HS1.out.drew.row.grow hG4 (HS1.out.ne (Nat.le_refl _))
  have HS2 : Hid (SgSt w w1 (x1_.setCell ⟨T, 2, none⟩ (.slice (some ⟨g2_, 0, none⟩) 2 k2_)) T k (.slice (some ⟨sg, 0, none⟩) 35 sc) (.slice (some ⟨g2_, 0, none⟩) 2 k2_) [p0, p1]) := HS1.out.drew.push hG4 hO4
  obtain ⟨q4, q5, q6, f4, f5, f6⟩ := hR4
  clear hO4 hG4 hob4 hsz
  go_wp2_with fail
  generalize hW : x1_.setCell ⟨T, 2, none⟩ (.slice (some ⟨g2_, 0, none⟩) 2 k2_) = W2 at HS2 ⊢
  clear hW q4 q5 q6 f4 f5 f6
  obtain ⟨-, -, r0, r1, r2, d0, d1, d2⟩ := HB.out _ HS2.out.belowW
  rw [rounds_succ]
  go_wp2_with fail
  have q0 := HS2.out.row.c2
  have u0 := fun z : Grown W2 => z.cell q0
  have u1 := fun z : Grown W2 => z.cell d2
  have hS := InGrown.drew W2
  have G0 := (Below.refl W2.heap.size W2).drew
  refine wp_region_D (fun j => decide (j < 8)) (InGrown W2) 11 (by kernel_rfl) rfl ?_
  refine wpAnyD_take (i := 0) 11 (v := ?_) rfl (by kernel_rfl) (fun _ _ _ h => h) hS (Or.inl ⟨by first | kernel_rfl | rfl, ?_⟩) ?_
  case refine_2 => (rintro _ ⟨z, rfl⟩; go_simp <;> with_reducible rfl)
  refine wpAnyD_take (i := 1) 11 (v := ?_) rfl (by kernel_rfl) (fun _ _ _ h => h) hS (Or.inl ⟨by first | kernel_rfl | rfl, ?_⟩) ?_
  case refine_2 => (rintro _ ⟨z, rfl⟩; go_simp <;> with_reducible rfl)
  refine wpAnyD_take (i := 2) 11 (v := ?_) rfl (by kernel_rfl) (fun _ _ _ h => h) hS (Or.inl ⟨by first | kernel_rfl | rfl, ?_⟩) ?_
  case refine_2 => (rintro _ ⟨z, rfl⟩; go_simp <;> with_reducible rfl)
  refine wpAnyD_take (i := 3) 11 (v := ?_) rfl (by kernel_rfl) (fun _ _ _ h => h) hS (Or.inl ⟨by first | kernel_rfl | rfl, ?_⟩) ?_
  case refine_2 => (rintro _ ⟨z, rfl⟩; go_simp <;> with_reducible rfl)
  refine wpAnyD_take (i := 4) 11 (v := ?_) rfl (by kernel_rfl) (fun _ _ _ h => h) hS (Or.inl ⟨by first | kernel_rfl | rfl, ?_⟩) ?_
  case refine_2 => (rintro _ ⟨z, rfl⟩; go_simp <;> with_reducible rfl)
  refine wpAnyD_take (i := 5) 11 (v := ?_) rfl (by kernel_rfl) (fun _ _ _ h => h) hS (Or.inl ⟨by first | kernel_rfl | rfl, ?_⟩) ?_
  case refine_2 => (rintro _ ⟨z, rfl⟩; go_simp <;> with_reducible rfl)
  refine wpAnyD_take (i := 6) 11 (v := ?_) rfl (by kernel_rfl) (fun _ _ _ h => h) hS (Or.inl ⟨by first | kernel_rfl | rfl, ?_⟩) ?_
  case refine_2 => (rintro _ ⟨z, rfl⟩; go_simp <;> with_reducible rfl)
  refine wpAnyD_step 7 (by kernel_rfl) rfl (fun K hK => ?_)
  go_simp
  refine hK _ _ ⟨fun _ => ?_, ?_⟩
  rotate_left
  clear hK K
  case refine_1 => exact .of (G0.alloc G0.size _)
  refine wpAnyD_rest 8 (by kernel_rfl) (by kernel_rfl) ?_
  simp only [List.drop_succ_cons, List.drop_zero]
  clear u0 u1 hS q0 r0 r1 r2 d0 d1 d2
  have hsz := HS2.out.size
  change wpList _ _ _ _ _ (W2.drew.alloc _)
  refine app_lit2 rfl _ _ 22 rfl (T + 1) 9 _ 1 16 u_strs i_str rfl (by decide) (.slice (some ⟨g2_, 0, none⟩) 2 k2_) 2 (strV [p0, p1]) ?hs_2 HS2.out.own.drew 1 _ ?hx_2 ?hl_2 ?h1_2 ?hn_2 ?hb_2 hsz ?_
  case hs_2 => rfl
  case hx_2 => rfl
  case hl_2 => rfl
  case h1_2 => (intro u hu; simp at hu; subst hu; rfl)
  case hn_2 => omega
  case hb_2 => omega
  intro v2 x2_ hO4 hG4 hob4
  obtain ⟨g3_, k3_, rfl, -⟩ := hO4.some_ (Nat.succ_pos _)
  have hR4 := HS2.out.drew.row.grow hG4 (HS2.out.ne (Nat.le_refl _))
  have HS3 : Hid (SgSt w w1 (x2_.setCell ⟨T, 2, none⟩ (.slice (some ⟨g3_, 0, none⟩) 3 k3_)) T k (.slice (some ⟨sg, 0, none⟩) 35 sc) (.slice (some ⟨g3_, 0, none⟩) 3 k3_) [p0, p1, p2]) := HS2.out.drew.push hG4 hO4
  obtain ⟨q4, q5, q6, f4, f5, f6⟩ := hR4
  clear hO4 hG4 hob4 hsz
  go_wp2_with fail
  generalize hW : x2_.setCell ⟨T, 2, none⟩ (.slice (some ⟨g3_, 0, none⟩) 3 k3_) = W3 at HS3 ⊢
  clear hW q4 q5 q6 f4 f5 f6
  obtain ⟨-, -, r0, r1, r2, d0, d1, d2⟩ := HB.out _ HS3.out.belowW
  have hR := Lib.hid HS3.out.res
  obtain ⟨q0, q1, q2, f0, f1, f2⟩ := HS3.out.row
  obtain ⟨m0, m1, m2, n0, n1, n2⟩ := HS3.out.res
  clear r0 r1 r2 d0 d1 d2
  rw [rounds_succ]
  go_wp2_with fail
  have hF := ((hR.out.set0 (.int .i64 k)).set1 (.slice (some ⟨sg, 0, none⟩) 35 sc)).set2 (.slice (some ⟨g3_, 0, none⟩) 3 k3_)
  have hBW := HS3.out.belowW
  refine bodyPost_ret (v := .tuple #[.agg #[.int .i64 k, .slice (some ⟨sg, 0, none⟩) 35 sc, .slice (some ⟨g3_, 0, none⟩) 3 k3_], .nilIface]) ?_ rfl ⟨_, _, rfl, ?_, ?_, below_set (below_set (below_set hBW (Nat.le_refl _) _) (Nat.le_refl _) _) (Nat.le_refl _) _⟩
  · obtain ⟨g0, g1, g2, -, -, -⟩ := hF
    simp [results, Tryd.f56, go_sem, g0, g1, g2]
  · have hsgl := (HO.out.lt sg rfl).1
    have hO3 := HO.out.below HS3.out.below (fun j hj => (HO.out.lt j hj).2)
    have hne : (Value.slice (some ⟨sg, 0, none⟩) 35 sc).ownBlock ≠ some w.heap.size := by simp only [Value.ownBlock, ne_eq, Option.some.injEq]; have := World.size_alloc w (.cells #[.int .i64 0, .slice none 0 0, .slice none 0 0] 65); omega
    exact Reads.of_own (((hO3.kept (grownBy_setCell _ _ _ _) (.inr hne)).kept (grownBy_setCell _ _ _ _) (.inr hne)).kept (grownBy_setCell _ _ _ _) (.inr hne))
  · have hl := HS3.out.low
    have hne : (Value.slice (some ⟨g3_, 0, none⟩) 3 k3_).ownBlock ≠ some w.heap.size := HS3.out.ne (Nat.le_of_lt hl)
    exact Reads.of_own (((HS3.out.own.kept (grownBy_setCell _ _ _ _) (.inr hne)).kept (grownBy_setCell _ _ _ _) (.inr hne)).kept (grownBy_setCell _ _ _ _) (.inr hne))
/-- nothing told: no such key, or no mark -/
def SgNone (q : Int) (w : World) (e : Ending) (w' : World) : Prop := e = .returned (.tuple #[.agg #[.int .i64 0, .slice none 0 0, .slice none 0 0], .iface 31 (.int .i64 q)]) ∧ Below w.heap.size w w'
set_option maxRecDepth 100000 in
set_option maxHeartbeats 4000000 in
theorem boxSign_range (B : Nat) (m : ByteArray) (key : Int) (w : World) (h : ¬ (0 ≤ key ∧ key ≤ 7)) : Calls Tryd.prog 56 #[.pointer (some ⟨B, 0, none⟩), .int .i64 key, .string m] w (SgNone 2 w) := by
  have hb : Below w.heap.size w (w.alloc (.cells #[.int .i64 0, .slice none 0 0, .slice none 0 0] 65)) := (Below.refl _ _).alloc (Nat.le_refl _) _
  have hR0 : Row3 (w.alloc (.cells #[.int .i64 0, .slice none 0 0, .slice none 0 0] 65)) w.heap.size (.int .i64 0) (.slice none 0 0) (.slice none 0 0) := Row3.of_row (T := 65) (heap_alloc_new _ _)
  obtain ⟨m0, m1, m2, n0, n1, n2⟩ := hR0
  by_cases h0 : key < 0
  · clear h
    go_enter Tryd.func56, Tryd.ntmps56
    go_wp2_with fail
    refine bodyPost_ret (v := .tuple #[.agg #[.int .i64 0, .slice none 0 0, .slice none 0 0], .iface 31 (.int .i64 2)]) ?_ rfl ⟨rfl, hb⟩
    simp [results, Tryd.f56, go_sem, m0, m1, m2]
  · have h8 : (8 : Int) ≤ key := by omega
    clear h
    go_enter Tryd.func56, Tryd.ntmps56
    go_wp2_with fail
    refine bodyPost_ret (v := .tuple #[.agg #[.int .i64 0, .slice none 0 0, .slice none 0 0], .iface 31 (.int .i64 2)]) ?_ rfl ⟨rfl, hb⟩
    simp [results, Tryd.f56, go_sem, m0, m1, m2]
set_option maxRecDepth 100000 in
set_option maxHeartbeats 4000000 in
theorem boxSign_arg (B : Nat) (seed m : ByteArray) (key : Int) (w : World) (h : 0 ≤ key ∧ key ≤ 7) (hB : BoxP w B seed) (hm : m.size ≠ 16) : Calls Tryd.prog 56 #[.pointer (some ⟨B, 0, none⟩), .int .i64 key, .string m] w (SgNone 1 w) := by
  have hb : Below w.heap.size w (w.alloc (.cells #[.int .i64 0, .slice none 0 0, .slice none 0 0] 65)) := (Below.refl _ _).alloc (Nat.le_refl _) _
  have hR0 : Row3 (w.alloc (.cells #[.int .i64 0, .slice none 0 0, .slice none 0 0] 65)) w.heap.size (.int .i64 0) (.slice none 0 0) (.slice none 0 0) := Row3.of_row (T := 65) (heap_alloc_new _ _)
  obtain ⟨m0, m1, m2, n0, n1, n2⟩ := hR0
  obtain ⟨z0, -⟩ := hB.mono hb
  have HS := Lib.hid (fun W => sign_no seed key m W (fun h => hm h.2))
  have e1 : ¬ key < 0 := by omega
  have e2 : ¬ (8 : Int) ≤ key := by omega
  clear h hm hB
  go_enter Tryd.func56, Tryd.ntmps56
  go_wp2_with (go_at_call 28; refine (HS.out _).mono ?_; rintro e w1 ⟨rfl, hw⟩; have hw2 := hw.symm; subst hw2)
  refine bodyPost_ret (v := .tuple #[.agg #[.int .i64 0, .slice none 0 0, .slice none 0 0], .iface 31 (.int .i64 1)]) ?_ rfl ⟨rfl, hb⟩
  simp [results, Tryd.f56, go_sem, m0, m1, m2]
end Go.Proofs.YtfhjnfocmlndpaaDoor
