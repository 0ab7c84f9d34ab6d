/- The reference's SealSign. (Its rounds are printed by wip/gen_sign.py.) -/
import Derived.Test.YtfhjnfocmlndpaaDoorSjSealQ
import Derived.Test.YtfhjnfocmlndpaaDoorSjRPRight
namespace Go.Proofs.YtfhjnfocmlndpaaDoor
open Go Go.RowKit Go.Proofs Go.Shelf

def RSgPost (seed m : ByteArray) (k : Nat) (w : World) (e : Ending) (w' : World) : Prop :=
  ∃ sv pv, e = .returned (.tuple #[.agg #[.int .i64 (k : Int), sv, pv], .int .i64 0]) ∧ Reads w' sv 35 1 (strV (signL seed k m 35)) ∧ Reads w' pv 3 1 (strV (pathR seed k)) ∧ Below w.heap.size w w'
def RSgNone (q : Int) (w : World) (e : Ending) (w' : World) : Prop := e = .returned (.tuple #[.agg #[.int .i64 0, .slice none 0 0, .slice none 0 0], .int .i64 q]) ∧ Below w.heap.size w w'
theorem sibN_lt' {k n : Nat} (h : k < 2 * n) : sibN k < 2 * n := by unfold sibN; split <;> omega
set_option maxRecDepth 100000 in
set_option maxHeartbeats 4000000 in
theorem sealSign_000 (r B : Nat) (seed m : ByteArray) (k : Nat) (w : World) (hk8 : k < 8) (a0 : k % 2 = 0) (a1 : k / 2 % 2 = 0) (a2 : k / 4 % 2 = 0) (h : BoxR w B seed) (h16 : seed.size = 16) (hm16 : m.size = 16) (hk : RAt w r) : Calls Tryd.prog 55 #[.pointer (some ⟨r, 0, none⟩), .pointer (some ⟨B, 0, none⟩), .int .i64 k, .string m] w (RSgPost seed m k w) := by
  obtain ⟨l0, l1, l2, -⟩ := rowR_length seed
  obtain ⟨k1, hk1⟩ : ∃ j, j = k / 2 := ⟨_, rfl⟩
  obtain ⟨k2, hk2⟩ : ∃ j, j = k / 4 := ⟨_, rfl⟩
  obtain ⟨s0, hs0⟩ : ∃ j, j = sibN k := ⟨_, rfl⟩
  obtain ⟨s1, hs1⟩ : ∃ j, j = sibN k1 := ⟨_, rfl⟩
  obtain ⟨s2, hs2⟩ : ∃ j, j = sibN k2 := ⟨_, rfl⟩
  have b0 : s0 < 8 := hs0 ▸ sibN_lt' (n := 4) (by omega)
  have b1 : s1 < 4 := hs1 ▸ sibN_lt' (n := 2) (by omega)
  have b2 : s2 < 2 := hs2 ▸ sibN_lt' (n := 1) (by omega)
  obtain ⟨p0, hp0⟩ : ∃ p, (rowR seed 0)[s0]? = some p := ⟨_, List.getElem?_eq_getElem (by omega)⟩
  obtain ⟨p1, hp1⟩ : ∃ p, (rowR seed 1)[s1]? = some p := ⟨_, List.getElem?_eq_getElem (by omega)⟩
  obtain ⟨p2, hp2⟩ : ∃ p, (rowR seed 2)[s2]? = some p := ⟨_, List.getElem?_eq_getElem (by omega)⟩
  have hpath : Hid (pathR seed k = [p0, p1, p2]) := pathR_is hs0.symm (by rw [← hk1]; exact hs1.symm) (by rw [← hk2]; exact hs2.symm) hp0 hp1 hp2
  obtain ⟨a, o, cap, HB⟩ := h.reads hp0 hp1 hp2
  obtain ⟨u1_, hu1⟩ : ∃ j, j = 8 + s1 := ⟨_, rfl⟩
  obtain ⟨u2_, hu2⟩ : ∃ j, j = 12 + s2 := ⟨_, rfl⟩
  rw [← hu1, ← hu2] at HB
  have HS := Lib.hid (fun W (hW : Below w.heap.size w W) => rsign_ok r seed k m W h16 hm16 (by omega) (by omega) (hk.mono hW))
  have HI : Hid (∀ W, Calls Tryd.prog 117 #[.int .i64 k, .int .i64 0, .int .i64 7] W fun e w' => e = .returned (.bool true) ∧ w' = W) := fun W => by
    have h := rin_any k 0 7 W
    rw [decide_eq_true (by omega), decide_eq_true (by omega)] at h
    exact h
  have hb : Below w.heap.size w (w.alloc (.cells #[.int .i64 0, .slice none 0 0, .slice none 0 0] 65)) := (Below.refl _ _).alloc (Nat.le_refl _) _
  have hR0 : Row3 (w.alloc (.cells #[.int .i64 0, .slice none 0 0, .slice none 0 0] 65)) w.heap.size (.int .i64 0) (.slice none 0 0) (.slice none 0 0) := Row3.of_row (T := 65) (heap_alloc_new _ _)
  obtain ⟨z0, -⟩ := HB.out _ hb
  have j1 : (k : Int) / 2 = (k1 : Int) := by omega
  have j2 : (k1 : Int) / 2 = (k2 : Int) := by omega
  have j3 : IntKind.i64.wrap (0 + 8) = 8 := by decide
  have j4 : IntKind.i64.wrap (8 + 4) = 12 := by decide
  have j5 : IntKind.i64.wrap (s0 : Int) = (s0 : Int) := IntWalk.i64_in _ (by omega)
  have j6 : IntKind.i64.wrap (8 + (s1 : Int)) = (u1_ : Int) := by rw [IntWalk.i64_in _ (by omega)]; omega
  have j7 : IntKind.i64.wrap (12 + (s2 : Int)) = (u2_ : Int) := by rw [IntWalk.i64_in _ (by omega)]; omega
  have y0 : ((s0 : Nat) : Int) < 15 := by omega
  have y1 : (u1_ : Int) < 15 := by omega
  have y2 : (u2_ : Int) < 15 := by omega
  unfold RSgPost
  rw [hpath.out]
  rw [← hk1] at a1
  rw [← hk2] at a2
  have P0 : ((k : Int) % 2 == 1) = false := by rw [beq_eq_false_iff_ne]; omega
  have N0 : (k : Int) + 1 = (s0 : Int) := by unfold sibN at hs0; rw [if_pos (by omega)] at hs0; omega
  have P1 : ((k1 : Int) % 2 == 1) = false := by rw [beq_eq_false_iff_ne]; omega
  have N1 : (k1 : Int) + 1 = (s1 : Int) := by unfold sibN at hs1; rw [if_pos (by omega)] at hs1; omega
  have P2 : ((k2 : Int) % 2 == 1) = false := by rw [beq_eq_false_iff_ne]; omega
  have N2 : (k2 : Int) + 1 = (s2 : Int) := by unfold sibN at hs2; rw [if_pos (by omega)] at hs2; omega
  clear h h16 hm16 hk hp0 hp1 hp2 l0 l1 l2 hpath hs0 hs1 hs2 b0 b1 b2 hk1 hk2 a0 a1 a2 hu1 hu2
  go_enter Tryd.func55, Tryd.ntmps55
  go_wp2_with (first
    | (go_at_call 117; refine (HI.out _).mono ?_; rintro e w0 ⟨rfl, hw⟩; have hw2 := hw.symm; subst hw2)
    | (go_at_call 27; refine (HS.out _ hb).mono ?_; rintro e w1 ⟨sv, rfl, hO, hB1⟩; obtain ⟨sg, sc, rfl, -⟩ := hO.some_ (by decide); have HO := Lib.hid hO; clear hO; have hR1 := hR0.mono hB1; have C1 := hb.trans (hB1.mono hb.size); have C2 : Below w1.heap.size w1 (w1.alloc (.cells #[.int .i64 k, .slice (some ⟨sg, 0, none⟩) 35 sc, .slice none 0 0] 65)) := (Below.refl _ _).alloc (Nat.le_refl _) _; have S0 : SgSt w w1 (w1.alloc (.cells #[.int .i64 k, .slice (some ⟨sg, 0, none⟩) 35 sc, .slice none 0 0] 65)) w1.heap.size k (.slice (some ⟨sg, 0, none⟩) 35 sc) (.slice none 0 0) [] := ⟨hR1.alloc _, Row3.of_row (T := 65) (heap_alloc_new _ _), Own.nil _ _ _ _, rfl, World.block_lt_of_cell? _ _ hR1.c0, C1, C2⟩; clear hB1 C2))
  obtain ⟨T, hT⟩ : ∃ T, T = w1.heap.size := ⟨_, rfl⟩
  rw [← hT] at S0 ⊢
  generalize hW : World.alloc w1 _ = W0 at S0 ⊢
  clear hW z0 hT
  obtain ⟨-, r0, d0, d1, d2⟩ := HB.out _ S0.belowW
  have HS0 := Lib.hid S0
  clear S0
  refine wp_loop_rounds 4 ?_
  rw [rounds_succ]
  go_wp2_with fail
  have q0 := HS0.out.row.c2
  have u0 := fun z : Grown W0 => z.cell q0
  have u1 := fun z : Grown W0 => z.cell d0
  have u2 := fun z : Grown W0 => z.cell r0
  have hS := InGrown.drew W0
  have G0 := (Below.refl W0.heap.size W0).drew
  refine wp_region_D (fun j => decide (j < 12)) (InGrown W0) 15 (by kernel_rfl) rfl ?_
  refine wpAnyD_take (i := 0) 15 (v := ?_) rfl (by kernel_rfl) (fun _ _ _ h => h) hS (Or.inl ⟨by first | kernel_rfl | rfl, ?_⟩) ?_
  case refine_2 => (rintro _ ⟨z, rfl⟩; go_simp <;> with_reducible rfl)
  refine wpAnyD_take (i := 1) 15 (v := ?_) rfl (by kernel_rfl) (fun _ _ _ h => h) hS (Or.inl ⟨by first | kernel_rfl | rfl, ?_⟩) ?_
  case refine_2 => (rintro _ ⟨z, rfl⟩; go_simp <;> with_reducible rfl)
  refine wpAnyD_take (i := 2) 15 (v := ?_) rfl (by kernel_rfl) (fun _ _ _ h => h) hS (Or.inl ⟨by first | kernel_rfl | rfl, ?_⟩) ?_
  case refine_2 => (rintro _ ⟨z, rfl⟩; go_simp <;> with_reducible rfl)
  refine wpAnyD_take (i := 3) 15 (v := ?_) rfl (by kernel_rfl) (fun _ _ _ h => h) hS (Or.inl ⟨by first | kernel_rfl | rfl, ?_⟩) ?_
  case refine_2 => (rintro _ ⟨z, rfl⟩; go_simp <;> with_reducible rfl)
  refine wpAnyD_take (i := 4) 15 (v := ?_) rfl (by kernel_rfl) (fun _ _ _ h => h) hS (Or.inl ⟨by first | kernel_rfl | rfl, ?_⟩) ?_
  case refine_2 => (rintro _ ⟨z, rfl⟩; go_simp <;> with_reducible rfl)
  refine wpAnyD_take (i := 5) 15 (v := ?_) rfl (by kernel_rfl) (fun _ _ _ h => h) hS (Or.inl ⟨by first | kernel_rfl | rfl, ?_⟩) ?_
  case refine_2 => (rintro _ ⟨z, rfl⟩; go_simp <;> with_reducible rfl)
  refine wpAnyD_take (i := 6) 15 (v := ?_) rfl (by kernel_rfl) (fun _ _ _ h => h) hS (Or.inl ⟨by first | kernel_rfl | rfl, ?_⟩) ?_
  case refine_2 => (rintro _ ⟨z, rfl⟩; go_simp <;> with_reducible rfl)
  refine wpAnyD_take (i := 7) 15 (v := ?_) rfl (by kernel_rfl) (fun _ _ _ h => h) hS (Or.inl ⟨by first | kernel_rfl | rfl, ?_⟩) ?_
  case refine_2 => (rintro _ ⟨z, rfl⟩; go_simp <;> with_reducible rfl)
  refine wpAnyD_take (i := 8) 15 (v := ?_) rfl (by kernel_rfl) (fun _ _ _ h => h) hS (Or.inl ⟨by first | kernel_rfl | rfl, ?_⟩) ?_
  case refine_2 => (rintro _ ⟨z, rfl⟩; go_simp <;> with_reducible rfl)
  refine wpAnyD_take (i := 9) 15 (v := ?_) rfl (by kernel_rfl) (fun _ _ _ h => h) hS (Or.inl ⟨by first | kernel_rfl | rfl, ?_⟩) ?_
  case refine_2 => (rintro _ ⟨z, rfl⟩; go_simp <;> with_reducible rfl)
  refine wpAnyD_take (i := 10) 15 (v := ?_) rfl (by kernel_rfl) (fun _ _ _ h => h) hS (Or.inl ⟨by first | kernel_rfl | rfl, ?_⟩) ?_
  case refine_2 => (rintro _ ⟨z, rfl⟩; go_simp <;> with_reducible rfl)
  refine wpAnyD_step 11 (by kernel_rfl) rfl (fun K hK => ?_)
  go_simp
  refine hK _ _ ⟨fun _ => ?_, ?_⟩
  rotate_left
  clear hK K
  case refine_1 => exact .of (G0.alloc G0.size _)
  refine wpAnyD_rest 12 (by kernel_rfl) (by kernel_rfl) ?_
  simp only [List.drop_succ_cons, List.drop_zero]
  clear u0 u1 u2 hS q0 r0 d0 d1 d2
  have hsz := HS0.out.size
  change wpList _ _ _ _ _ (W0.drew.alloc _)
  refine app_lit2 rfl _ _ 22 rfl (T + 1) 9 _ 1 16 u_strs i_str rfl (by decide) (.slice none 0 0) 0 (strV []) ?hs_0 HS0.out.own.drew 1 _ ?hx_0 ?hl_0 ?h1_0 ?hn_0 ?hb_0 hsz ?_
  case hs_0 => rfl
  case hx_0 => rfl
  case hl_0 => rfl
  case h1_0 => (intro u hu; simp at hu; subst hu; rfl)
  case hn_0 => omega
  case hb_0 => omega
  intro v0 x0_ hO4 hG4 hob4
  obtain ⟨g1_, k1_, rfl, -⟩ := hO4.some_ (Nat.succ_pos _)
  have hR4 := HS0.out.drew.row.grow hG4 (HS0.out.ne (Nat.le_refl _))
  have HS1 : Hid (SgSt w w1 (x0_.setCell ⟨T, 2, none⟩ (.slice (some ⟨g1_, 0, none⟩) 1 k1_)) T k (.slice (some ⟨sg, 0, none⟩) 35 sc) (.slice (some ⟨g1_, 0, none⟩) 1 k1_) [p0]) := HS0.out.drew.push hG4 hO4
  obtain ⟨q4, q5, q6, f4, f5, f6⟩ := hR4
  clear hO4 hG4 hob4 hsz
  go_wp2_with fail
  generalize hW : x0_.setCell ⟨T, 2, none⟩ (.slice (some ⟨g1_, 0, none⟩) 1 k1_) = W1 at HS1 ⊢
  clear hW q4 q5 q6 f4 f5 f6
  obtain ⟨-, r0, d0, d1, d2⟩ := HB.out _ HS1.out.belowW
  rw [rounds_succ]
  go_wp2_with fail
  have q0 := HS1.out.row.c2
  have u0 := fun z : Grown W1 => z.cell q0
  have u1 := fun z : Grown W1 => z.cell d1
  have u2 := fun z : Grown W1 => z.cell r0
  have hS := InGrown.drew W1
  have G0 := (Below.refl W1.heap.size W1).drew
  refine wp_region_D (fun j => decide (j < 12)) (InGrown W1) 15 (by kernel_rfl) rfl ?_
  refine wpAnyD_take (i := 0) 15 (v := ?_) rfl (by kernel_rfl) (fun _ _ _ h => h) hS (Or.inl ⟨by first | kernel_rfl | rfl, ?_⟩) ?_
  case refine_2 => (rintro _ ⟨z, rfl⟩; go_simp <;> with_reducible rfl)
  refine wpAnyD_take (i := 1) 15 (v := ?_) rfl (by kernel_rfl) (fun _ _ _ h => h) hS (Or.inl ⟨by first | kernel_rfl | rfl, ?_⟩) ?_
  case refine_2 => (rintro _ ⟨z, rfl⟩; go_simp <;> with_reducible rfl)
  refine wpAnyD_take (i := 2) 15 (v := ?_) rfl (by kernel_rfl) (fun _ _ _ h => h) hS (Or.inl ⟨by first | kernel_rfl | rfl, ?_⟩) ?_
  case refine_2 => (rintro _ ⟨z, rfl⟩; go_simp <;> with_reducible rfl)
  refine wpAnyD_take (i := 3) 15 (v := ?_) rfl (by kernel_rfl) (fun _ _ _ h => h) hS (Or.inl ⟨by first | kernel_rfl | rfl, ?_⟩) ?_
  case refine_2 => (rintro _ ⟨z, rfl⟩; go_simp <;> with_reducible rfl)
  refine wpAnyD_take (i := 4) 15 (v := ?_) rfl (by kernel_rfl) (fun _ _ _ h => h) hS (Or.inl ⟨by first | kernel_rfl | rfl, ?_⟩) ?_
  case refine_2 => (rintro _ ⟨z, rfl⟩; go_simp <;> with_reducible rfl)
  refine wpAnyD_take (i := 5) 15 (v := ?_) rfl (by kernel_rfl) (fun _ _ _ h => h) hS (Or.inl ⟨by first | kernel_rfl | rfl, ?_⟩) ?_
  case refine_2 => (rintro _ ⟨z, rfl⟩; go_simp <;> with_reducible rfl)
  refine wpAnyD_take (i := 6) 15 (v := ?_) rfl (by kernel_rfl) (fun _ _ _ h => h) hS (Or.inl ⟨by first | kernel_rfl | rfl, ?_⟩) ?_
  case refine_2 => (rintro _ ⟨z, rfl⟩; go_simp <;> with_reducible rfl)
  refine wpAnyD_take (i := 7) 15 (v := ?_) rfl (by kernel_rfl) (fun _ _ _ h => h) hS (Or.inl ⟨by first | kernel_rfl | rfl, ?_⟩) ?_
  case refine_2 => (rintro _ ⟨z, rfl⟩; go_simp <;> with_reducible rfl)
  refine wpAnyD_take (i := 8) 15 (v := ?_) rfl (by kernel_rfl) (fun _ _ _ h => h) hS (Or.inl ⟨by first | kernel_rfl | rfl, ?_⟩) ?_
  case refine_2 => (rintro _ ⟨z, rfl⟩; go_simp <;> with_reducible rfl)
  refine wpAnyD_take (i := 9) 15 (v := ?_) rfl (by kernel_rfl) (fun _ _ _ h => h) hS (Or.inl ⟨by first | kernel_rfl | rfl, ?_⟩) ?_
  case refine_2 => (rintro _ ⟨z, rfl⟩; go_simp <;> with_reducible rfl)
  refine wpAnyD_take (i := 10) 15 (v := ?_) rfl (by kernel_rfl) (fun _ _ _ h => h) hS (Or.inl ⟨by first | kernel_rfl | rfl, ?_⟩) ?_
  case refine_2 => (rintro _ ⟨z, rfl⟩; go_simp <;> with_reducible rfl)
  refine wpAnyD_step 11 (by kernel_rfl) rfl (fun K hK => ?_)
  go_simp
  refine hK _ _ ⟨fun _ => ?_, ?_⟩
  rotate_left
  clear hK K
  case refine_1 => exact .of (G0.alloc G0.size _)
  refine wpAnyD_rest 12 (by kernel_rfl) (by kernel_rfl) ?_
  simp only [List.drop_succ_cons, List.drop_zero]
  clear u0 u1 u2 hS q0 r0 d0 d1 d2
  have hsz := HS1.out.size
  change wpList _ _ _ _ _ (W1.drew.alloc _)
  refine app_lit2 rfl _ _ 22 rfl (T + 1) 9 _ 1 16 u_strs i_str rfl (by decide) (.slice (some ⟨g1_, 0, none⟩) 1 k1_) 1 (strV [p0]) ?hs_1 HS1.out.own.drew 1 _ ?hx_1 ?hl_1 ?h1_1 ?hn_1 ?hb_1 hsz ?_
  case hs_1 => rfl
  case hx_1 => rfl
  case hl_1 => rfl
  case h1_1 => (intro u hu; simp at hu; subst hu; rfl)
  case hn_1 => omega
  case hb_1 => omega
  intro v1 x1_ hO4 hG4 hob4
  obtain ⟨g2_, k2_, rfl, -⟩ := hO4.some_ (Nat.succ_pos _)
  have hR4 := HS1.out.drew.row.grow hG4 (HS1.out.ne (Nat.le_refl _))
  have HS2 : Hid (SgSt w w1 (x1_.setCell ⟨T, 2, none⟩ (.slice (some ⟨g2_, 0, none⟩) 2 k2_)) T k (.slice (some ⟨sg, 0, none⟩) 35 sc) (.slice (some ⟨g2_, 0, none⟩) 2 k2_) [p0, p1]) := HS1.out.drew.push hG4 hO4
  obtain ⟨q4, q5, q6, f4, f5, f6⟩ := hR4
  clear hO4 hG4 hob4 hsz
  go_wp2_with fail
  generalize hW : x1_.setCell ⟨T, 2, none⟩ (.slice (some ⟨g2_, 0, none⟩) 2 k2_) = W2 at HS2 ⊢
  clear hW q4 q5 q6 f4 f5 f6
  obtain ⟨-, r0, d0, d1, d2⟩ := HB.out _ HS2.out.belowW
  rw [rounds_succ]
  go_wp2_with fail
  have q0 := HS2.out.row.c2
  have u0 := fun z : Grown W2 => z.cell q0
  have u1 := fun z : Grown W2 => z.cell d2
  have u2 := fun z : Grown W2 => z.cell r0
  have hS := InGrown.drew W2
  have G0 := (Below.refl W2.heap.size W2).drew
  refine wp_region_D (fun j => decide (j < 12)) (InGrown W2) 15 (by kernel_rfl) rfl ?_
  refine wpAnyD_take (i := 0) 15 (v := ?_) rfl (by kernel_rfl) (fun _ _ _ h => h) hS (Or.inl ⟨by first | kernel_rfl | rfl, ?_⟩) ?_
  case refine_2 => (rintro _ ⟨z, rfl⟩; go_simp <;> with_reducible rfl)
  refine wpAnyD_take (i := 1) 15 (v := ?_) rfl (by kernel_rfl) (fun _ _ _ h => h) hS (Or.inl ⟨by first | kernel_rfl | rfl, ?_⟩) ?_
  case refine_2 => (rintro _ ⟨z, rfl⟩; go_simp <;> with_reducible rfl)
  refine wpAnyD_take (i := 2) 15 (v := ?_) rfl (by kernel_rfl) (fun _ _ _ h => h) hS (Or.inl ⟨by first | kernel_rfl | rfl, ?_⟩) ?_
  case refine_2 => (rintro _ ⟨z, rfl⟩; go_simp <;> with_reducible rfl)
  refine wpAnyD_take (i := 3) 15 (v := ?_) rfl (by kernel_rfl) (fun _ _ _ h => h) hS (Or.inl ⟨by first | kernel_rfl | rfl, ?_⟩) ?_
  case refine_2 => (rintro _ ⟨z, rfl⟩; go_simp <;> with_reducible rfl)
  refine wpAnyD_take (i := 4) 15 (v := ?_) rfl (by kernel_rfl) (fun _ _ _ h => h) hS (Or.inl ⟨by first | kernel_rfl | rfl, ?_⟩) ?_
  case refine_2 => (rintro _ ⟨z, rfl⟩; go_simp <;> with_reducible rfl)
  refine wpAnyD_take (i := 5) 15 (v := ?_) rfl (by kernel_rfl) (fun _ _ _ h => h) hS (Or.inl ⟨by first | kernel_rfl | rfl, ?_⟩) ?_
  case refine_2 => (rintro _ ⟨z, rfl⟩; go_simp <;> with_reducible rfl)
  refine wpAnyD_take (i := 6) 15 (v := ?_) rfl (by kernel_rfl) (fun _ _ _ h => h) hS (Or.inl ⟨by first | kernel_rfl | rfl, ?_⟩) ?_
  case refine_2 => (rintro _ ⟨z, rfl⟩; go_simp <;> with_reducible rfl)
  refine wpAnyD_take (i := 7) 15 (v := ?_) rfl (by kernel_rfl) (fun _ _ _ h => h) hS (Or.inl ⟨by first | kernel_rfl | rfl, ?_⟩) ?_
  case refine_2 => (rintro _ ⟨z, rfl⟩; go_simp <;> with_reducible rfl)
  refine wpAnyD_take (i := 8) 15 (v := ?_) rfl (by kernel_rfl) (fun _ _ _ h => h) hS (Or.inl ⟨by first | kernel_rfl | rfl, ?_⟩) ?_
  case refine_2 => (rintro _ ⟨z, rfl⟩; go_simp <;> with_reducible rfl)
  refine wpAnyD_take (i := 9) 15 (v := ?_) rfl (by kernel_rfl) (fun _ _ _ h => h) hS (Or.inl ⟨by first | kernel_rfl | rfl, ?_⟩) ?_
  case refine_2 => (rintro _ ⟨z, rfl⟩; go_simp <;> with_reducible rfl)
  refine wpAnyD_take (i := 10) 15 (v := ?_) rfl (by kernel_rfl) (fun _ _ _ h => h) hS (Or.inl ⟨by first | kernel_rfl | rfl, ?_⟩) ?_
  case refine_2 => (rintro _ ⟨z, rfl⟩; go_simp <;> with_reducible rfl)
  refine wpAnyD_step 11 (by kernel_rfl) rfl (fun K hK => ?_)
  go_simp
  refine hK _ _ ⟨fun _ => ?_, ?_⟩
  rotate_left
  clear hK K
  case refine_1 => exact .of (G0.alloc G0.size _)
  refine wpAnyD_rest 12 (by kernel_rfl) (by kernel_rfl) ?_
  simp only [List.drop_succ_cons, List.drop_zero]
  clear u0 u1 u2 hS q0 r0 d0 d1 d2
  have hsz := HS2.out.size
  change wpList _ _ _ _ _ (W2.drew.alloc _)
  refine app_lit2 rfl _ _ 22 rfl (T + 1) 9 _ 1 16 u_strs i_str rfl (by decide) (.slice (some ⟨g2_, 0, none⟩) 2 k2_) 2 (strV [p0, p1]) ?hs_2 HS2.out.own.drew 1 _ ?hx_2 ?hl_2 ?h1_2 ?hn_2 ?hb_2 hsz ?_
  case hs_2 => rfl
  case hx_2 => rfl
  case hl_2 => rfl
  case h1_2 => (intro u hu; simp at hu; subst hu; rfl)
  case hn_2 => omega
  case hb_2 => omega
  intro v2 x2_ hO4 hG4 hob4
  obtain ⟨g3_, k3_, rfl, -⟩ := hO4.some_ (Nat.succ_pos _)
  have hR4 := HS2.out.drew.row.grow hG4 (HS2.out.ne (Nat.le_refl _))
  have HS3 : Hid (SgSt w w1 (x2_.setCell ⟨T, 2, none⟩ (.slice (some ⟨g3_, 0, none⟩) 3 k3_)) T k (.slice (some ⟨sg, 0, none⟩) 35 sc) (.slice (some ⟨g3_, 0, none⟩) 3 k3_) [p0, p1, p2]) := HS2.out.drew.push hG4 hO4
  obtain ⟨q4, q5, q6, f4, f5, f6⟩ := hR4
  clear hO4 hG4 hob4 hsz
  go_wp2_with fail
  generalize hW : x2_.setCell ⟨T, 2, none⟩ (.slice (some ⟨g3_, 0, none⟩) 3 k3_) = W3 at HS3 ⊢
  clear hW q4 q5 q6 f4 f5 f6
  obtain ⟨-, r0, d0, d1, d2⟩ := HB.out _ HS3.out.belowW
  have hR := Lib.hid HS3.out.res
  obtain ⟨q0, q1, q2, f0, f1, f2⟩ := HS3.out.row
  obtain ⟨m0, m1, m2, n0, n1, n2⟩ := HS3.out.res
  clear r0 d0 d1 d2
  rw [rounds_succ]
  go_wp2_with fail
  have hF := ((hR.out.set0 (.int .i64 k)).set1 (.slice (some ⟨sg, 0, none⟩) 35 sc)).set2 (.slice (some ⟨g3_, 0, none⟩) 3 k3_)
  have hBW := HS3.out.belowW
  refine bodyPost_ret (v := .tuple #[.agg #[.int .i64 k, .slice (some ⟨sg, 0, none⟩) 35 sc, .slice (some ⟨g3_, 0, none⟩) 3 k3_], .int .i64 0]) ?_ rfl ⟨_, _, rfl, ?_, ?_, below_set (below_set (below_set hBW (Nat.le_refl _) _) (Nat.le_refl _) _) (Nat.le_refl _) _⟩
  · obtain ⟨g0, g1, g2, -, -, -⟩ := hF
    simp [results, Tryd.f55, go_sem, g0, g1, g2]
  · exact HO.out.three_sets HS3.out.below (by simp) _ _ _
  · exact HS3.out.three_sets _ _ _
set_option maxRecDepth 100000 in
set_option maxHeartbeats 4000000 in
theorem sealSign_100 (r B : Nat) (seed m : ByteArray) (k : Nat) (w : World) (hk8 : k < 8) (a0 : k % 2 = 1) (a1 : k / 2 % 2 = 0) (a2 : k / 4 % 2 = 0) (h : BoxR w B seed) (h16 : seed.size = 16) (hm16 : m.size = 16) (hk : RAt w r) : Calls Tryd.prog 55 #[.pointer (some ⟨r, 0, none⟩), .pointer (some ⟨B, 0, none⟩), .int .i64 k, .string m] w (RSgPost seed m k w) := by
  obtain ⟨l0, l1, l2, -⟩ := rowR_length seed
  obtain ⟨k1, hk1⟩ : ∃ j, j = k / 2 := ⟨_, rfl⟩
  obtain ⟨k2, hk2⟩ : ∃ j, j = k / 4 := ⟨_, rfl⟩
  obtain ⟨s0, hs0⟩ : ∃ j, j = sibN k := ⟨_, rfl⟩
  obtain ⟨s1, hs1⟩ : ∃ j, j = sibN k1 := ⟨_, rfl⟩
  obtain ⟨s2, hs2⟩ : ∃ j, j = sibN k2 := ⟨_, rfl⟩
  have b0 : s0 < 8 := hs0 ▸ sibN_lt' (n := 4) (by omega)
  have b1 : s1 < 4 := hs1 ▸ sibN_lt' (n := 2) (by omega)
  have b2 : s2 < 2 := hs2 ▸ sibN_lt' (n := 1) (by omega)
  obtain ⟨p0, hp0⟩ : ∃ p, (rowR seed 0)[s0]? = some p := ⟨_, List.getElem?_eq_getElem (by omega)⟩
  obtain ⟨p1, hp1⟩ : ∃ p, (rowR seed 1)[s1]? = some p := ⟨_, List.getElem?_eq_getElem (by omega)⟩
  obtain ⟨p2, hp2⟩ : ∃ p, (rowR seed 2)[s2]? = some p := ⟨_, List.getElem?_eq_getElem (by omega)⟩
  have hpath : Hid (pathR seed k = [p0, p1, p2]) := pathR_is hs0.symm (by rw [← hk1]; exact hs1.symm) (by rw [← hk2]; exact hs2.symm) hp0 hp1 hp2
  obtain ⟨a, o, cap, HB⟩ := h.reads hp0 hp1 hp2
  obtain ⟨u1_, hu1⟩ : ∃ j, j = 8 + s1 := ⟨_, rfl⟩
  obtain ⟨u2_, hu2⟩ : ∃ j, j = 12 + s2 := ⟨_, rfl⟩
  rw [← hu1, ← hu2] at HB
  have HS := Lib.hid (fun W (hW : Below w.heap.size w W) => rsign_ok r seed k m W h16 hm16 (by omega) (by omega) (hk.mono hW))
  have HI : Hid (∀ W, Calls Tryd.prog 117 #[.int .i64 k, .int .i64 0, .int .i64 7] W fun e w' => e = .returned (.bool true) ∧ w' = W) := fun W => by
    have h := rin_any k 0 7 W
    rw [decide_eq_true (by omega), decide_eq_true (by omega)] at h
    exact h
  have hb : Below w.heap.size w (w.alloc (.cells #[.int .i64 0, .slice none 0 0, .slice none 0 0] 65)) := (Below.refl _ _).alloc (Nat.le_refl _) _
  have hR0 : Row3 (w.alloc (.cells #[.int .i64 0, .slice none 0 0, .slice none 0 0] 65)) w.heap.size (.int .i64 0) (.slice none 0 0) (.slice none 0 0) := Row3.of_row (T := 65) (heap_alloc_new _ _)
  obtain ⟨z0, -⟩ := HB.out _ hb
  have j1 : (k : Int) / 2 = (k1 : Int) := by omega
  have j2 : (k1 : Int) / 2 = (k2 : Int) := by omega
  have j3 : IntKind.i64.wrap (0 + 8) = 8 := by decide
  have j4 : IntKind.i64.wrap (8 + 4) = 12 := by decide
  have j5 : IntKind.i64.wrap (s0 : Int) = (s0 : Int) := IntWalk.i64_in _ (by omega)
  have j6 : IntKind.i64.wrap (8 + (s1 : Int)) = (u1_ : Int) := by rw [IntWalk.i64_in _ (by omega)]; omega
  have j7 : IntKind.i64.wrap (12 + (s2 : Int)) = (u2_ : Int) := by rw [IntWalk.i64_in _ (by omega)]; omega
  have y0 : ((s0 : Nat) : Int) < 15 := by omega
  have y1 : (u1_ : Int) < 15 := by omega
  have y2 : (u2_ : Int) < 15 := by omega
  unfold RSgPost
  rw [hpath.out]
  rw [← hk1] at a1
  rw [← hk2] at a2
  have P0 : ((k : Int) % 2 == 1) = true := by rw [beq_iff_eq]; omega
  have N0 : (k : Int) - 1 = (s0 : Int) := by unfold sibN at hs0; rw [if_neg (by omega)] at hs0; omega
  have P1 : ((k1 : Int) % 2 == 1) = false := by rw [beq_eq_false_iff_ne]; omega
  have N1 : (k1 : Int) + 1 = (s1 : Int) := by unfold sibN at hs1; rw [if_pos (by omega)] at hs1; omega
  have P2 : ((k2 : Int) % 2 == 1) = false := by rw [beq_eq_false_iff_ne]; omega
  have N2 : (k2 : Int) + 1 = (s2 : Int) := by unfold sibN at hs2; rw [if_pos (by omega)] at hs2; omega
  clear h h16 hm16 hk hp0 hp1 hp2 l0 l1 l2 hpath hs0 hs1 hs2 b0 b1 b2 hk1 hk2 a0 a1 a2 hu1 hu2
  go_enter Tryd.func55, Tryd.ntmps55
  go_wp2_with (first
    | (go_at_call 117; refine (HI.out _).mono ?_; rintro e w0 ⟨rfl, hw⟩; have hw2 := hw.symm; subst hw2)
    | (go_at_call 27; refine (HS.out _ hb).mono ?_; rintro e w1 ⟨sv, rfl, hO, hB1⟩; obtain ⟨sg, sc, rfl, -⟩ := hO.some_ (by decide); have HO := Lib.hid hO; clear hO; have hR1 := hR0.mono hB1; have C1 := hb.trans (hB1.mono hb.size); have C2 : Below w1.heap.size w1 (w1.alloc (.cells #[.int .i64 k, .slice (some ⟨sg, 0, none⟩) 35 sc, .slice none 0 0] 65)) := (Below.refl _ _).alloc (Nat.le_refl _) _; have S0 : SgSt w w1 (w1.alloc (.cells #[.int .i64 k, .slice (some ⟨sg, 0, none⟩) 35 sc, .slice none 0 0] 65)) w1.heap.size k (.slice (some ⟨sg, 0, none⟩) 35 sc) (.slice none 0 0) [] := ⟨hR1.alloc _, Row3.of_row (T := 65) (heap_alloc_new _ _), Own.nil _ _ _ _, rfl, World.block_lt_of_cell? _ _ hR1.c0, C1, C2⟩; clear hB1 C2))
  obtain ⟨T, hT⟩ : ∃ T, T = w1.heap.size := ⟨_, rfl⟩
  rw [← hT] at S0 ⊢
  generalize hW : World.alloc w1 _ = W0 at S0 ⊢
  clear hW z0 hT
  obtain ⟨-, r0, d0, d1, d2⟩ := HB.out _ S0.belowW
  have HS0 := Lib.hid S0
  clear S0
  refine wp_loop_rounds 4 ?_
  rw [rounds_succ]
  go_wp2_with fail
  have q0 := HS0.out.row.c2
  have u0 := fun z : Grown W0 => z.cell q0
  have u1 := fun z : Grown W0 => z.cell d0
  have u2 := fun z : Grown W0 => z.cell r0
  have hS := InGrown.drew W0
  have G0 := (Below.refl W0.heap.size W0).drew
  refine wp_region_D (fun j => decide (j < 12)) (InGrown W0) 15 (by kernel_rfl) rfl ?_
  refine wpAnyD_take (i := 0) 15 (v := ?_) rfl (by kernel_rfl) (fun _ _ _ h => h) hS (Or.inl ⟨by first | kernel_rfl | rfl, ?_⟩) ?_
  case refine_2 => (rintro _ ⟨z, rfl⟩; go_simp <;> with_reducible rfl)
  refine wpAnyD_take (i := 1) 15 (v := ?_) rfl (by kernel_rfl) (fun _ _ _ h => h) hS (Or.inl ⟨by first | kernel_rfl | rfl, ?_⟩) ?_
  case refine_2 => (rintro _ ⟨z, rfl⟩; go_simp <;> with_reducible rfl)
  refine wpAnyD_take (i := 2) 15 (v := ?_) rfl (by kernel_rfl) (fun _ _ _ h => h) hS (Or.inl ⟨by first | kernel_rfl | rfl, ?_⟩) ?_
  case refine_2 => (rintro _ ⟨z, rfl⟩; go_simp <;> with_reducible rfl)
  refine wpAnyD_take (i := 3) 15 (v := ?_) rfl (by kernel_rfl) (fun _ _ _ h => h) hS (Or.inl ⟨by first | kernel_rfl | rfl, ?_⟩) ?_
  case refine_2 => (rintro _ ⟨z, rfl⟩; go_simp <;> with_reducible rfl)
  refine wpAnyD_take (i := 4) 15 (v := ?_) rfl (by kernel_rfl) (fun _ _ _ h => h) hS (Or.inl ⟨by first | kernel_rfl | rfl, ?_⟩) ?_
  case refine_2 => (rintro _ ⟨z, rfl⟩; go_simp <;> with_reducible rfl)
  refine wpAnyD_take (i := 5) 15 (v := ?_) rfl (by kernel_rfl) (fun _ _ _ h => h) hS (Or.inl ⟨by first | kernel_rfl | rfl, ?_⟩) ?_
  case refine_2 => (rintro _ ⟨z, rfl⟩; go_simp <;> with_reducible rfl)
  refine wpAnyD_take (i := 6) 15 (v := ?_) rfl (by kernel_rfl) (fun _ _ _ h => h) hS (Or.inl ⟨by first | kernel_rfl | rfl, ?_⟩) ?_
  case refine_2 => (rintro _ ⟨z, rfl⟩; go_simp <;> with_reducible rfl)
  refine wpAnyD_take (i := 7) 15 (v := ?_) rfl (by kernel_rfl) (fun _ _ _ h => h) hS (Or.inl ⟨by first | kernel_rfl | rfl, ?_⟩) ?_
  case refine_2 => (rintro _ ⟨z, rfl⟩; go_simp <;> with_reducible rfl)
  refine wpAnyD_take (i := 8) 15 (v := ?_) rfl (by kernel_rfl) (fun _ _ _ h => h) hS (Or.inl ⟨by first | kernel_rfl | rfl, ?_⟩) ?_
  case refine_2 => (rintro _ ⟨z, rfl⟩; go_simp <;> with_reducible rfl)
  refine wpAnyD_take (i := 9) 15 (v := ?_) rfl (by kernel_rfl) (fun _ _ _ h => h) hS (Or.inl ⟨by first | kernel_rfl | rfl, ?_⟩) ?_
  case refine_2 => (rintro _ ⟨z, rfl⟩; go_simp <;> with_reducible rfl)
  refine wpAnyD_take (i := 10) 15 (v := ?_) rfl (by kernel_rfl) (fun _ _ _ h => h) hS (Or.inl ⟨by first | kernel_rfl | rfl, ?_⟩) ?_
  case refine_2 => (rintro _ ⟨z, rfl⟩; go_simp <;> with_reducible rfl)
  refine wpAnyD_step 11 (by kernel_rfl) rfl (fun K hK => ?_)
  go_simp
  refine hK _ _ ⟨fun _ => ?_, ?_⟩
  rotate_left
  clear hK K
  case refine_1 => exact .of (G0.alloc G0.size _)
  refine wpAnyD_rest 12 (by kernel_rfl) (by kernel_rfl) ?_
  simp only [List.drop_succ_cons, List.drop_zero]
  clear u0 u1 u2 hS q0 r0 d0 d1 d2
  have hsz := HS0.out.size
  change wpList _ _ _ _ _ (W0.drew.alloc _)
  refine app_lit2 rfl _ _ 22 rfl (T + 1) 9 _ 1 16 u_strs i_str rfl (by decide) (.slice none 0 0) 0 (strV []) ?hs_0 HS0.out.own.drew 1 _ ?hx_0 ?hl_0 ?h1_0 ?hn_0 ?hb_0 hsz ?_
  case hs_0 => rfl
  case hx_0 => rfl
  case hl_0 => rfl
  case h1_0 => (intro u hu; simp at hu; subst hu; rfl)
  case hn_0 => omega
  case hb_0 => omega
  intro v0 x0_ hO4 hG4 hob4
  obtain ⟨g1_, k1_, rfl, -⟩ := hO4.some_ (Nat.succ_pos _)
  have hR4 := HS0.out.drew.row.grow hG4 (HS0.out.ne (Nat.le_refl _))
  have HS1 : Hid (SgSt w w1 (x0_.setCell ⟨T, 2, none⟩ (.slice (some ⟨g1_, 0, none⟩) 1 k1_)) T k (.slice (some ⟨sg, 0, none⟩) 35 sc) (.slice (some ⟨g1_, 0, none⟩) 1 k1_) [p0]) := HS0.out.drew.push hG4 hO4
  obtain ⟨q4, q5, q6, f4, f5, f6⟩ := hR4
  clear hO4 hG4 hob4 hsz
  go_wp2_with fail
  generalize hW : x0_.setCell ⟨T, 2, none⟩ (.slice (some ⟨g1_, 0, none⟩) 1 k1_) = W1 at HS1 ⊢
  clear hW q4 q5 q6 f4 f5 f6
  obtain ⟨-, r0, d0, d1, d2⟩ := HB.out _ HS1.out.belowW
  rw [rounds_succ]
  go_wp2_with fail
  have q0 := HS1.out.row.c2
  have u0 := fun z : Grown W1 => z.cell q0
  have u1 := fun z : Grown W1 => z.cell d1
  have u2 := fun z : Grown W1 => z.cell r0
  have hS := InGrown.drew W1
  have G0 := (Below.refl W1.heap.size W1).drew
  refine wp_region_D (fun j => decide (j < 12)) (InGrown W1) 15 (by kernel_rfl) rfl ?_
  refine wpAnyD_take (i := 0) 15 (v := ?_) rfl (by kernel_rfl) (fun _ _ _ h => h) hS (Or.inl ⟨by first | kernel_rfl | rfl, ?_⟩) ?_
  case refine_2 => (rintro _ ⟨z, rfl⟩; go_simp <;> with_reducible rfl)
  refine wpAnyD_take (i := 1) 15 (v := ?_) rfl (by kernel_rfl) (fun _ _ _ h => h) hS (Or.inl ⟨by first | kernel_rfl | rfl, ?_⟩) ?_
  case refine_2 => (rintro _ ⟨z, rfl⟩; go_simp <;> with_reducible rfl)
  refine wpAnyD_take (i := 2) 15 (v := ?_) rfl (by kernel_rfl) (fun _ _ _ h => h) hS (Or.inl ⟨by first | kernel_rfl | rfl, ?_⟩) ?_
  case refine_2 => (rintro _ ⟨z, rfl⟩; go_simp <;> with_reducible rfl)
  refine wpAnyD_take (i := 3) 15 (v := ?_) rfl (by kernel_rfl) (fun _ _ _ h => h) hS (Or.inl ⟨by first | kernel_rfl | rfl, ?_⟩) ?_
  case refine_2 => (rintro _ ⟨z, rfl⟩; go_simp <;> with_reducible rfl)
  refine wpAnyD_take (i := 4) 15 (v := ?_) rfl (by kernel_rfl) (fun _ _ _ h => h) hS (Or.inl ⟨by first | kernel_rfl | rfl, ?_⟩) ?_
  case refine_2 => (rintro _ ⟨z, rfl⟩; go_simp <;> with_reducible rfl)
  refine wpAnyD_take (i := 5) 15 (v := ?_) rfl (by kernel_rfl) (fun _ _ _ h => h) hS (Or.inl ⟨by first | kernel_rfl | rfl, ?_⟩) ?_
  case refine_2 => (rintro _ ⟨z, rfl⟩; go_simp <;> with_reducible rfl)
  refine wpAnyD_take (i := 6) 15 (v := ?_) rfl (by kernel_rfl) (fun _ _ _ h => h) hS (Or.inl ⟨by first | kernel_rfl | rfl, ?_⟩) ?_
  case refine_2 => (rintro _ ⟨z, rfl⟩; go_simp <;> with_reducible rfl)
  refine wpAnyD_take (i := 7) 15 (v := ?_) rfl (by kernel_rfl) (fun _ _ _ h => h) hS (Or.inl ⟨by first | kernel_rfl | rfl, ?_⟩) ?_
  case refine_2 => (rintro _ ⟨z, rfl⟩; go_simp <;> with_reducible rfl)
  refine wpAnyD_take (i := 8) 15 (v := ?_) rfl (by kernel_rfl) (fun _ _ _ h => h) hS (Or.inl ⟨by first | kernel_rfl | rfl, ?_⟩) ?_
  case refine_2 => (rintro _ ⟨z, rfl⟩; go_simp <;> with_reducible rfl)
  refine wpAnyD_take (i := 9) 15 (v := ?_) rfl (by kernel_rfl) (fun _ _ _ h => h) hS (Or.inl ⟨by first | kernel_rfl | rfl, ?_⟩) ?_
  case refine_2 => (rintro _ ⟨z, rfl⟩; go_simp <;> with_reducible rfl)
  refine wpAnyD_take (i := 10) 15 (v := ?_) rfl (by kernel_rfl) (fun _ _ _ h => h) hS (Or.inl ⟨by first | kernel_rfl | rfl, ?_⟩) ?_
  case refine_2 => (rintro _ ⟨z, rfl⟩; go_simp <;> with_reducible rfl)
  refine wpAnyD_step 11 (by kernel_rfl) rfl (fun K hK => ?_)
  go_simp
  refine hK _ _ ⟨fun _ => ?_, ?_⟩
  rotate_left
  clear hK K
  case refine_1 => exact .of (G0.alloc G0.size _)
  refine wpAnyD_rest 12 (by kernel_rfl) (by kernel_rfl) ?_
  simp only [List.drop_succ_cons, List.drop_zero]
  clear u0 u1 u2 hS q0 r0 d0 d1 d2
  have hsz := HS1.out.size
  change wpList _ _ _ _ _ (W1.drew.alloc _)
  refine app_lit2 rfl _ _ 22 rfl (T + 1) 9 _ 1 16 u_strs i_str rfl (by decide) (.slice (some ⟨g1_, 0, none⟩) 1 k1_) 1 (strV [p0]) ?hs_1 HS1.out.own.drew 1 _ ?hx_1 ?hl_1 ?h1_1 ?hn_1 ?hb_1 hsz ?_
  case hs_1 => rfl
  case hx_1 => rfl
  case hl_1 => rfl
  case h1_1 => (intro u hu; simp at hu; subst hu; rfl)
  case hn_1 => omega
  case hb_1 => omega
  intro v1 x1_ hO4 hG4 hob4
  obtain ⟨g2_, k2_, rfl, -⟩ := hO4.some_ (Nat.succ_pos _)
  have hR4 := HS1.out.drew.row.grow hG4 (HS1.out.ne (Nat.le_refl _))
  have HS2 : Hid (SgSt w w1 (x1_.setCell ⟨T, 2, none⟩ (.slice (some ⟨g2_, 0, none⟩) 2 k2_)) T k (.slice (some ⟨sg, 0, none⟩) 35 sc) (.slice (some ⟨g2_, 0, none⟩) 2 k2_) [p0, p1]) := HS1.out.drew.push hG4 hO4
  obtain ⟨q4, q5, q6, f4, f5, f6⟩ := hR4
  clear hO4 hG4 hob4 hsz
  go_wp2_with fail
  generalize hW : x1_.setCell ⟨T, 2, none⟩ (.slice (some ⟨g2_, 0, none⟩) 2 k2_) = W2 at HS2 ⊢
  clear hW q4 q5 q6 f4 f5 f6
  obtain ⟨-, r0, d0, d1, d2⟩ := HB.out _ HS2.out.belowW
  rw [rounds_succ]
  go_wp2_with fail
  have q0 := HS2.out.row.c2
  have u0 := fun z : Grown W2 => z.cell q0
  have u1 := fun z : Grown W2 => z.cell d2
  have u2 := fun z : Grown W2 => z.cell r0
  have hS := InGrown.drew W2
  have G0 := (Below.refl W2.heap.size W2).drew
  refine wp_region_D (fun j => decide (j < 12)) (InGrown W2) 15 (by kernel_rfl) rfl ?_
  refine wpAnyD_take (i := 0) 15 (v := ?_) rfl (by kernel_rfl) (fun _ _ _ h => h) hS (Or.inl ⟨by first | kernel_rfl | rfl, ?_⟩) ?_
  case refine_2 => (rintro _ ⟨z, rfl⟩; go_simp <;> with_reducible rfl)
  refine wpAnyD_take (i := 1) 15 (v := ?_) rfl (by kernel_rfl) (fun _ _ _ h => h) hS (Or.inl ⟨by first | kernel_rfl | rfl, ?_⟩) ?_
  case refine_2 => (rintro _ ⟨z, rfl⟩; go_simp <;> with_reducible rfl)
  refine wpAnyD_take (i := 2) 15 (v := ?_) rfl (by kernel_rfl) (fun _ _ _ h => h) hS (Or.inl ⟨by first | kernel_rfl | rfl, ?_⟩) ?_
  case refine_2 => (rintro _ ⟨z, rfl⟩; go_simp <;> with_reducible rfl)
  refine wpAnyD_take (i := 3) 15 (v := ?_) rfl (by kernel_rfl) (fun _ _ _ h => h) hS (Or.inl ⟨by first | kernel_rfl | rfl, ?_⟩) ?_
  case refine_2 => (rintro _ ⟨z, rfl⟩; go_simp <;> with_reducible rfl)
  refine wpAnyD_take (i := 4) 15 (v := ?_) rfl (by kernel_rfl) (fun _ _ _ h => h) hS (Or.inl ⟨by first | kernel_rfl | rfl, ?_⟩) ?_
  case refine_2 => (rintro _ ⟨z, rfl⟩; go_simp <;> with_reducible rfl)
  refine wpAnyD_take (i := 5) 15 (v := ?_) rfl (by kernel_rfl) (fun _ _ _ h => h) hS (Or.inl ⟨by first | kernel_rfl | rfl, ?_⟩) ?_
  case refine_2 => (rintro _ ⟨z, rfl⟩; go_simp <;> with_reducible rfl)
  refine wpAnyD_take (i := 6) 15 (v := ?_) rfl (by kernel_rfl) (fun _ _ _ h => h) hS (Or.inl ⟨by first | kernel_rfl | rfl, ?_⟩) ?_
  case refine_2 => (rintro _ ⟨z, rfl⟩; go_simp <;> with_reducible rfl)
  refine wpAnyD_take (i := 7) 15 (v := ?_) rfl (by kernel_rfl) (fun _ _ _ h => h) hS (Or.inl ⟨by first | kernel_rfl | rfl, ?_⟩) ?_
  case refine_2 => (rintro _ ⟨z, rfl⟩; go_simp <;> with_reducible rfl)
  refine wpAnyD_take (i := 8) 15 (v := ?_) rfl (by kernel_rfl) (fun _ _ _ h => h) hS (Or.inl ⟨by first | kernel_rfl | rfl, ?_⟩) ?_
  case refine_2 => (rintro _ ⟨z, rfl⟩; go_simp <;> with_reducible rfl)
  refine wpAnyD_take (i := 9) 15 (v := ?_) rfl (by kernel_rfl) (fun _ _ _ h => h) hS (Or.inl ⟨by first | kernel_rfl | rfl, ?_⟩) ?_
  case refine_2 => (rintro _ ⟨z, rfl⟩; go_simp <;> with_reducible rfl)
  refine wpAnyD_take (i := 10) 15 (v := ?_) rfl (by kernel_rfl) (fun _ _ _ h => h) hS (Or.inl ⟨by first | kernel_rfl | rfl, ?_⟩) ?_
  case refine_2 => (rintro _ ⟨z, rfl⟩; go_simp <;> with_reducible rfl)
  refine wpAnyD_step 11 (by kernel_rfl) rfl (fun K hK => ?_)
  go_simp
  refine hK _ _ ⟨fun _ => ?_, ?_⟩
  rotate_left
  clear hK K
  case refine_1 => exact .of (G0.alloc G0.size _)
  refine wpAnyD_rest 12 (by kernel_rfl) (by kernel_rfl) ?_
  simp only [List.drop_succ_cons, List.drop_zero]
  clear u0 u1 u2 hS q0 r0 d0 d1 d2
  have hsz := HS2.out.size
  change wpList _ _ _ _ _ (W2.drew.alloc _)
  refine app_lit2 rfl _ _ 22 rfl (T + 1) 9 _ 1 16 u_strs i_str rfl (by decide) (.slice (some ⟨g2_, 0, none⟩) 2 k2_) 2 (strV [p0, p1]) ?hs_2 HS2.out.own.drew 1 _ ?hx_2 ?hl_2 ?h1_2 ?hn_2 ?hb_2 hsz ?_
  case hs_2 => rfl
  case hx_2 => rfl
  case hl_2 => rfl
  case h1_2 => (intro u hu; simp at hu; subst hu; rfl)
  case hn_2 => omega
  case hb_2 => omega
  intro v2 x2_ hO4 hG4 hob4
  obtain ⟨g3_, k3_, rfl, -⟩ := hO4.some_ (Nat.succ_pos _)
  have hR4 := HS2.out.drew.row.grow hG4 (HS2.out.ne (Nat.le_refl _))
  have HS3 : Hid (SgSt w w1 (x2_.setCell ⟨T, 2, none⟩ (.slice (some ⟨g3_, 0, none⟩) 3 k3_)) T k (.slice (some ⟨sg, 0, none⟩) 35 sc) (.slice (some ⟨g3_, 0, none⟩) 3 k3_) [p0, p1, p2]) := HS2.out.drew.push hG4 hO4
  obtain ⟨q4, q5, q6, f4, f5, f6⟩ := hR4
  clear hO4 hG4 hob4 hsz
  go_wp2_with fail
  generalize hW : x2_.setCell ⟨T, 2, none⟩ (.slice (some ⟨g3_, 0, none⟩) 3 k3_) = W3 at HS3 ⊢
  clear hW q4 q5 q6 f4 f5 f6
  obtain ⟨-, r0, d0, d1, d2⟩ := HB.out _ HS3.out.belowW
  have hR := Lib.hid HS3.out.res
  obtain ⟨q0, q1, q2, f0, f1, f2⟩ := HS3.out.row
  obtain ⟨m0, m1, m2, n0, n1, n2⟩ := HS3.out.res
  clear r0 d0 d1 d2
  rw [rounds_succ]
  go_wp2_with fail
  have hF := ((hR.out.set0 (.int .i64 k)).set1 (.slice (some ⟨sg, 0, none⟩) 35 sc)).set2 (.slice (some ⟨g3_, 0, none⟩) 3 k3_)
  have hBW := HS3.out.belowW
  refine bodyPost_ret (v := .tuple #[.agg #[.int .i64 k, .slice (some ⟨sg, 0, none⟩) 35 sc, .slice (some ⟨g3_, 0, none⟩) 3 k3_], .int .i64 0]) ?_ rfl ⟨_, _, rfl, ?_, ?_, below_set (below_set (below_set hBW (Nat.le_refl _) _) (Nat.le_refl _) _) (Nat.le_refl _) _⟩
  · obtain ⟨g0, g1, g2, -, -, -⟩ := hF
    simp [results, Tryd.f55, go_sem, g0, g1, g2]
  · exact HO.out.three_sets HS3.out.below (by simp) _ _ _
  · exact HS3.out.three_sets _ _ _
set_option maxRecDepth 100000 in
set_option maxHeartbeats 4000000 in
theorem sealSign_010 (r B : Nat) (seed m : ByteArray) (k : Nat) (w : World) (hk8 : k < 8) (a0 : k % 2 = 0) (a1 : k / 2 % 2 = 1) (a2 : k / 4 % 2 = 0) (h : BoxR w B seed) (h16 : seed.size = 16) (hm16 : m.size = 16) (hk : RAt w r) : Calls Tryd.prog 55 #[.pointer (some ⟨r, 0, none⟩), .pointer (some ⟨B, 0, none⟩), .int .i64 k, .string m] w (RSgPost seed m k w) := by
  obtain ⟨l0, l1, l2, -⟩ := rowR_length seed
  obtain ⟨k1, hk1⟩ : ∃ j, j = k / 2 := ⟨_, rfl⟩
  obtain ⟨k2, hk2⟩ : ∃ j, j = k / 4 := ⟨_, rfl⟩
  obtain ⟨s0, hs0⟩ : ∃ j, j = sibN k := ⟨_, rfl⟩
  obtain ⟨s1, hs1⟩ : ∃ j, j = sibN k1 := ⟨_, rfl⟩
  obtain ⟨s2, hs2⟩ : ∃ j, j = sibN k2 := ⟨_, rfl⟩
  have b0 : s0 < 8 := hs0 ▸ sibN_lt' (n := 4) (by omega)
  have b1 : s1 < 4 := hs1 ▸ sibN_lt' (n := 2) (by omega)
  have b2 : s2 < 2 := hs2 ▸ sibN_lt' (n := 1) (by omega)
  obtain ⟨p0, hp0⟩ : ∃ p, (rowR seed 0)[s0]? = some p := ⟨_, List.getElem?_eq_getElem (by omega)⟩
  obtain ⟨p1, hp1⟩ : ∃ p, (rowR seed 1)[s1]? = some p := ⟨_, List.getElem?_eq_getElem (by omega)⟩
  obtain ⟨p2, hp2⟩ : ∃ p, (rowR seed 2)[s2]? = some p := ⟨_, List.getElem?_eq_getElem (by omega)⟩
  have hpath : Hid (pathR seed k = [p0, p1, p2]) := pathR_is hs0.symm (by rw [← hk1]; exact hs1.symm) (by rw [← hk2]; exact hs2.symm) hp0 hp1 hp2
  obtain ⟨a, o, cap, HB⟩ := h.reads hp0 hp1 hp2
  obtain ⟨u1_, hu1⟩ : ∃ j, j = 8 + s1 := ⟨_, rfl⟩
  obtain ⟨u2_, hu2⟩ : ∃ j, j = 12 + s2 := ⟨_, rfl⟩
  rw [← hu1, ← hu2] at HB
  have HS := Lib.hid (fun W (hW : Below w.heap.size w W) => rsign_ok r seed k m W h16 hm16 (by omega) (by omega) (hk.mono hW))
  have HI : Hid (∀ W, Calls Tryd.prog 117 #[.int .i64 k, .int .i64 0, .int .i64 7] W fun e w' => e = .returned (.bool true) ∧ w' = W) := fun W => by
    have h := rin_any k 0 7 W
    rw [decide_eq_true (by omega), decide_eq_true (by omega)] at h
    exact h
  have hb : Below w.heap.size w (w.alloc (.cells #[.int .i64 0, .slice none 0 0, .slice none 0 0] 65)) := (Below.refl _ _).alloc (Nat.le_refl _) _
  have hR0 : Row3 (w.alloc (.cells #[.int .i64 0, .slice none 0 0, .slice none 0 0] 65)) w.heap.size (.int .i64 0) (.slice none 0 0) (.slice none 0 0) := Row3.of_row (T := 65) (heap_alloc_new _ _)
  obtain ⟨z0, -⟩ := HB.out _ hb
  have j1 : (k : Int) / 2 = (k1 : Int) := by omega
  have j2 : (k1 : Int) / 2 = (k2 : Int) := by omega
  have j3 : IntKind.i64.wrap (0 + 8) = 8 := by decide
  have j4 : IntKind.i64.wrap (8 + 4) = 12 := by decide
  have j5 : IntKind.i64.wrap (s0 : Int) = (s0 : Int) := IntWalk.i64_in _ (by omega)
  have j6 : IntKind.i64.wrap (8 + (s1 : Int)) = (u1_ : Int) := by rw [IntWalk.i64_in _ (by omega)]; omega
  have j7 : IntKind.i64.wrap (12 + (s2 : Int)) = (u2_ : Int) := by rw [IntWalk.i64_in _ (by omega)]; omega
  have y0 : ((s0 : Nat) : Int) < 15 := by omega
  have y1 : (u1_ : Int) < 15 := by omega
  have y2 : (u2_ : Int) < 15 := by omega
  unfold RSgPost
  rw [hpath.out]
  rw [← hk1] at a1
  rw [← hk2] at a2
  have P0 : ((k : Int) % 2 == 1) = false := by rw [beq_eq_false_iff_ne]; omega
  have N0 : (k : Int) + 1 = (s0 : Int) := by unfold sibN at hs0; rw [if_pos (by omega)] at hs0; omega
  have P1 : ((k1 : Int) % 2 == 1) = true := by rw [beq_iff_eq]; omega
  have N1 : (k1 : Int) - 1 = (s1 : Int) := by unfold sibN at hs1; rw [if_neg (by omega)] at hs1; omega
  have P2 : ((k2 : Int) % 2 == 1) = false := by rw [beq_eq_false_iff_ne]; omega
  have N2 : (k2 : Int) + 1 = (s2 : Int) := by unfold sibN at hs2; rw [if_pos (by omega)] at hs2; omega
  clear h h16 hm16 hk hp0 hp1 hp2 l0 l1 l2 hpath hs0 hs1 hs2 b0 b1 b2 hk1 hk2 a0 a1 a2 hu1 hu2
  go_enter Tryd.func55, Tryd.ntmps55
  go_wp2_with (first
    | (go_at_call 117; refine (HI.out _).mono ?_; rintro e w0 ⟨rfl, hw⟩; have hw2 := hw.symm; subst hw2)
    | (go_at_call 27; refine (HS.out _ hb).mono ?_; rintro e w1 ⟨sv, rfl, hO, hB1⟩; obtain ⟨sg, sc, rfl, -⟩ := hO.some_ (by decide); have HO := Lib.hid hO; clear hO; have hR1 := hR0.mono hB1; have C1 := hb.trans (hB1.mono hb.size); have C2 : Below w1.heap.size w1 (w1.alloc (.cells #[.int .i64 k, .slice (some ⟨sg, 0, none⟩) 35 sc, .slice none 0 0] 65)) := (Below.refl _ _).alloc (Nat.le_refl _) _; have S0 : SgSt w w1 (w1.alloc (.cells #[.int .i64 k, .slice (some ⟨sg, 0, none⟩) 35 sc, .slice none 0 0] 65)) w1.heap.size k (.slice (some ⟨sg, 0, none⟩) 35 sc) (.slice none 0 0) [] := ⟨hR1.alloc _, Row3.of_row (T := 65) (heap_alloc_new _ _), Own.nil _ _ _ _, rfl, World.block_lt_of_cell? _ _ hR1.c0, C1, C2⟩; clear hB1 C2))
  obtain ⟨T, hT⟩ : ∃ T, T = w1.heap.size := ⟨_, rfl⟩
  rw [← hT] at S0 ⊢
  generalize hW : World.alloc w1 _ = W0 at S0 ⊢
  clear hW z0 hT
  obtain ⟨-, r0, d0, d1, d2⟩ := HB.out _ S0.belowW
  have HS0 := Lib.hid S0
  clear S0
  refine wp_loop_rounds 4 ?_
  rw [rounds_succ]
  go_wp2_with fail
  have q0 := HS0.out.row.c2
  have u0 := fun z : Grown W0 => z.cell q0
  have u1 := fun z : Grown W0 => z.cell d0
  have u2 := fun z : Grown W0 => z.cell r0
  have hS := InGrown.drew W0
  have G0 := (Below.refl W0.heap.size W0).drew
  refine wp_region_D (fun j => decide (j < 12)) (InGrown W0) 15 (by kernel_rfl) rfl ?_
  refine wpAnyD_take (i := 0) 15 (v := ?_) rfl (by kernel_rfl) (fun _ _ _ h => h) hS (Or.inl ⟨by first | kernel_rfl | rfl, ?_⟩) ?_
  case refine_2 => (rintro _ ⟨z, rfl⟩; go_simp <;> with_reducible rfl)
  refine wpAnyD_take (i := 1) 15 (v := ?_) rfl (by kernel_rfl) (fun _ _ _ h => h) hS (Or.inl ⟨by first | kernel_rfl | rfl, ?_⟩) ?_
  case refine_2 => (rintro _ ⟨z, rfl⟩; go_simp <;> with_reducible rfl)
  refine wpAnyD_take (i := 2) 15 (v := ?_) rfl (by kernel_rfl) (fun _ _ _ h => h) hS (Or.inl ⟨by first | kernel_rfl | rfl, ?_⟩) ?_
  case refine_2 => (rintro _ ⟨z, rfl⟩; go_simp <;> with_reducible rfl)
  refine wpAnyD_take (i := 3) 15 (v := ?_) rfl (by kernel_rfl) (fun _ _ _ h => h) hS (Or.inl ⟨by first | kernel_rfl | rfl, ?_⟩) ?_
  case refine_2 => (rintro _ ⟨z, rfl⟩; go_simp <;> with_reducible rfl)
  refine wpAnyD_take (i := 4) 15 (v := ?_) rfl (by kernel_rfl) (fun _ _ _ h => h) hS (Or.inl ⟨by first | kernel_rfl | rfl, ?_⟩) ?_
  case refine_2 => (rintro _ ⟨z, rfl⟩; go_simp <;> with_reducible rfl)
  refine wpAnyD_take (i := 5) 15 (v := ?_) rfl (by kernel_rfl) (fun _ _ _ h => h) hS (Or.inl ⟨by first | kernel_rfl | rfl, ?_⟩) ?_
  case refine_2 => (rintro _ ⟨z, rfl⟩; go_simp <;> with_reducible rfl)
  refine wpAnyD_take (i := 6) 15 (v := ?_) rfl (by kernel_rfl) (fun _ _ _ h => h) hS (Or.inl ⟨by first | kernel_rfl | rfl, ?_⟩) ?_
  case refine_2 => (rintro _ ⟨z, rfl⟩; go_simp <;> with_reducible rfl)
  refine wpAnyD_take (i := 7) 15 (v := ?_) rfl (by kernel_rfl) (fun _ _ _ h => h) hS (Or.inl ⟨by first | kernel_rfl | rfl, ?_⟩) ?_
  case refine_2 => (rintro _ ⟨z, rfl⟩; go_simp <;> with_reducible rfl)
  refine wpAnyD_take (i := 8) 15 (v := ?_) rfl (by kernel_rfl) (fun _ _ _ h => h) hS (Or.inl ⟨by first | kernel_rfl | rfl, ?_⟩) ?_
  case refine_2 => (rintro _ ⟨z, rfl⟩; go_simp <;> with_reducible rfl)
  refine wpAnyD_take (i := 9) 15 (v := ?_) rfl (by kernel_rfl) (fun _ _ _ h => h) hS (Or.inl ⟨by first | kernel_rfl | rfl, ?_⟩) ?_
  case refine_2 => (rintro _ ⟨z, rfl⟩; go_simp <;> with_reducible rfl)
  refine wpAnyD_take (i := 10) 15 (v := ?_) rfl (by kernel_rfl) (fun _ _ _ h => h) hS (Or.inl ⟨by first | kernel_rfl | rfl, ?_⟩) ?_
  case refine_2 => (rintro _ ⟨z, rfl⟩; go_simp <;> with_reducible rfl)
  refine wpAnyD_step 11 (by kernel_rfl) rfl (fun K hK => ?_)
  go_simp
  refine hK _ _ ⟨fun _ => ?_, ?_⟩
  rotate_left
  clear hK K
  case refine_1 => exact .of (G0.alloc G0.size _)
  refine wpAnyD_rest 12 (by kernel_rfl) (by kernel_rfl) ?_
  simp only [List.drop_succ_cons, List.drop_zero]
  clear u0 u1 u2 hS q0 r0 d0 d1 d2
  have hsz := HS0.out.size
  change wpList _ _ _ _ _ (W0.drew.alloc _)
  refine app_lit2 rfl _ _ 22 rfl (T + 1) 9 _ 1 16 u_strs i_str rfl (by decide) (.slice none 0 0) 0 (strV []) ?hs_0 HS0.out.own.drew 1 _ ?hx_0 ?hl_0 ?h1_0 ?hn_0 ?hb_0 hsz ?_
  case hs_0 => rfl
  case hx_0 => rfl
  case hl_0 => rfl
  case h1_0 => (intro u hu; simp at hu; subst hu; rfl)
  case hn_0 => omega
  case hb_0 => omega
  intro v0 x0_ hO4 hG4 hob4
  obtain ⟨g1_, k1_, rfl, -⟩ := hO4.some_ (Nat.succ_pos _)
  have hR4 := HS0.out.drew.row.grow hG4 (HS0.out.ne (Nat.le_refl _))
  have HS1 : Hid (SgSt w w1 (x0_.setCell ⟨T, 2, none⟩ (.slice (some ⟨g1_, 0, none⟩) 1 k1_)) T k (.slice (some ⟨sg, 0, none⟩) 35 sc) (.slice (some ⟨g1_, 0, none⟩) 1 k1_) [p0]) := HS0.out.drew.push hG4 hO4
  obtain ⟨q4, q5, q6, f4, f5, f6⟩ := hR4
  clear hO4 hG4 hob4 hsz
  go_wp2_with fail
  generalize hW : x0_.setCell ⟨T, 2, none⟩ (.slice (some ⟨g1_, 0, none⟩) 1 k1_) = W1 at HS1 ⊢
  clear hW q4 q5 q6 f4 f5 f6
  obtain ⟨-, r0, d0, d1, d2⟩ := HB.out _ HS1.out.belowW
  rw [rounds_succ]
  go_wp2_with fail
  have q0 := HS1.out.row.c2
  have u0 := fun z : Grown W1 => z.cell q0
  have u1 := fun z : Grown W1 => z.cell d1
  have u2 := fun z : Grown W1 => z.cell r0
  have hS := InGrown.drew W1
  have G0 := (Below.refl W1.heap.size W1).drew
  refine wp_region_D (fun j => decide (j < 12)) (InGrown W1) 15 (by kernel_rfl) rfl ?_
  refine wpAnyD_take (i := 0) 15 (v := ?_) rfl (by kernel_rfl) (fun _ _ _ h => h) hS (Or.inl ⟨by first | kernel_rfl | rfl, ?_⟩) ?_
  case refine_2 => (rintro _ ⟨z, rfl⟩; go_simp <;> with_reducible rfl)
  refine wpAnyD_take (i := 1) 15 (v := ?_) rfl (by kernel_rfl) (fun _ _ _ h => h) hS (Or.inl ⟨by first | kernel_rfl | rfl, ?_⟩) ?_
  case refine_2 => (rintro _ ⟨z, rfl⟩; go_simp <;> with_reducible rfl)
  refine wpAnyD_take (i := 2) 15 (v := ?_) rfl (by kernel_rfl) (fun _ _ _ h => h) hS (Or.inl ⟨by first | kernel_rfl | rfl, ?_⟩) ?_
  case refine_2 => (rintro _ ⟨z, rfl⟩; go_simp <;> with_reducible rfl)
  refine wpAnyD_take (i := 3) 15 (v := ?_) rfl (by kernel_rfl) (fun _ _ _ h => h) hS (Or.inl ⟨by first | kernel_rfl | rfl, ?_⟩) ?_
  case refine_2 => (rintro _ ⟨z, rfl⟩; go_simp <;> with_reducible rfl)
  refine wpAnyD_take (i := 4) 15 (v := ?_) rfl (by kernel_rfl) (fun _ _ _ h => h) hS (Or.inl ⟨by first | kernel_rfl | rfl, ?_⟩) ?_
  case refine_2 => (rintro _ ⟨z, rfl⟩; go_simp <;> with_reducible rfl)
  refine wpAnyD_take (i := 5) 15 (v := ?_) rfl (by kernel_rfl) (fun _ _ _ h => h) hS (Or.inl ⟨by first | kernel_rfl | rfl, ?_⟩) ?_
  case refine_2 => (rintro _ ⟨z, rfl⟩; go_simp <;> with_reducible rfl)
  refine wpAnyD_take (i := 6) 15 (v := ?_) rfl (by kernel_rfl) (fun _ _ _ h => h) hS (Or.inl ⟨by first | kernel_rfl | rfl, ?_⟩) ?_
  case refine_2 => (rintro _ ⟨z, rfl⟩; go_simp <;> with_reducible rfl)
  refine wpAnyD_take (i := 7) 15 (v := ?_) rfl (by kernel_rfl) (fun _ _ _ h => h) hS (Or.inl ⟨by first | kernel_rfl | rfl, ?_⟩) ?_
  case refine_2 => (rintro _ ⟨z, rfl⟩; go_simp <;> with_reducible rfl)
  refine wpAnyD_take (i := 8) 15 (v := ?_) rfl (by kernel_rfl) (fun _ _ _ h => h) hS (Or.inl ⟨by first | kernel_rfl | rfl, ?_⟩) ?_
  case refine_2 => (rintro _ ⟨z, rfl⟩; go_simp <;> with_reducible rfl)
  refine wpAnyD_take (i := 9) 15 (v := ?_) rfl (by kernel_rfl) (fun _ _ _ h => h) hS (Or.inl ⟨by first | kernel_rfl | rfl, ?_⟩) ?_
  case refine_2 => (rintro _ ⟨z, rfl⟩; go_simp <;> with_reducible rfl)
  refine wpAnyD_take (i := 10) 15 (v := ?_) rfl (by kernel_rfl) (fun _ _ _ h => h) hS (Or.inl ⟨by first | kernel_rfl | rfl, ?_⟩) ?_
  case refine_2 => (rintro _ ⟨z, rfl⟩; go_simp <;> with_reducible rfl)
  refine wpAnyD_step 11 (by kernel_rfl) rfl (fun K hK => ?_)
  go_simp
  refine hK _ _ ⟨fun _ => ?_, ?_⟩
  rotate_left
  clear hK K
  case refine_1 => exact .of (G0.alloc G0.size _)
  refine wpAnyD_rest 12 (by kernel_rfl) (by kernel_rfl) ?_
  simp only [List.drop_succ_cons, List.drop_zero]
  clear u0 u1 u2 hS q0 r0 d0 d1 d2
  have hsz := HS1.out.size
  change wpList _ _ _ _ _ (W1.drew.alloc _)
  refine app_lit2 rfl _ _ 22 rfl (T + 1) 9 _ 1 16 u_strs i_str rfl (by decide) (.slice (some ⟨g1_, 0, none⟩) 1 k1_) 1 (strV [p0]) ?hs_1 HS1.out.own.drew 1 _ ?hx_1 ?hl_1 ?h1_1 ?hn_1 ?hb_1 hsz ?_
  case hs_1 => rfl
  case hx_1 => rfl
  case hl_1 => rfl
  case h1_1 => (intro u hu; simp at hu; subst hu; rfl)
  case hn_1 => omega
  case hb_1 => omega
  intro v1 x1_ hO4 hG4 hob4
  obtain ⟨g2_, k2_, rfl, -⟩ := hO4.some_ (Nat.succ_pos _)
  have hR4 := HS1.out.drew.row.grow hG4 (HS1.out.ne (Nat.le_refl _))
  have HS2 : Hid (SgSt w w1 (x1_.setCell ⟨T, 2, none⟩ (.slice (some ⟨g2_, 0, none⟩) 2 k2_)) T k (.slice (some ⟨sg, 0, none⟩) 35 sc) (.slice (some ⟨g2_, 0, none⟩) 2 k2_) [p0, p1]) := HS1.out.drew.push hG4 hO4
  obtain ⟨q4, q5, q6, f4, f5, f6⟩ := hR4
  clear hO4 hG4 hob4 hsz
  go_wp2_with fail
  generalize hW : x1_.setCell ⟨T, 2, none⟩ (.slice (some ⟨g2_, 0, none⟩) 2 k2_) = W2 at HS2 ⊢
  clear hW q4 q5 q6 f4 f5 f6
  obtain ⟨-, r0, d0, d1, d2⟩ := HB.out _ HS2.out.belowW
  rw [rounds_succ]
  go_wp2_with fail
  have q0 := HS2.out.row.c2
  have u0 := fun z : Grown W2 => z.cell q0
  have u1 := fun z : Grown W2 => z.cell d2
  have u2 := fun z : Grown W2 => z.cell r0
  have hS := InGrown.drew W2
  have G0 := (Below.refl W2.heap.size W2).drew
  refine wp_region_D (fun j => decide (j < 12)) (InGrown W2) 15 (by kernel_rfl) rfl ?_
  refine wpAnyD_take (i := 0) 15 (v := ?_) rfl (by kernel_rfl) (fun _ _ _ h => h) hS (Or.inl ⟨by first | kernel_rfl | rfl, ?_⟩) ?_
  case refine_2 => (rintro _ ⟨z, rfl⟩; go_simp <;> with_reducible rfl)
  refine wpAnyD_take (i := 1) 15 (v := ?_) rfl (by kernel_rfl) (fun _ _ _ h => h) hS (Or.inl ⟨by first | kernel_rfl | rfl, ?_⟩) ?_
  case refine_2 => (rintro _ ⟨z, rfl⟩; go_simp <;> with_reducible rfl)
  refine wpAnyD_take (i := 2) 15 (v := ?_) rfl (by kernel_rfl) (fun _ _ _ h => h) hS (Or.inl ⟨by first | kernel_rfl | rfl, ?_⟩) ?_
  case refine_2 => (rintro _ ⟨z, rfl⟩; go_simp <;> with_reducible rfl)
  refine wpAnyD_take (i := 3) 15 (v := ?_) rfl (by kernel_rfl) (fun _ _ _ h => h) hS (Or.inl ⟨by first | kernel_rfl | rfl, ?_⟩) ?_
  case refine_2 => (rintro _ ⟨z, rfl⟩; go_simp <;> with_reducible rfl)
  refine wpAnyD_take (i := 4) 15 (v := ?_) rfl (by kernel_rfl) (fun _ _ _ h => h) hS (Or.inl ⟨by first | kernel_rfl | rfl, ?_⟩) ?_
  case refine_2 => (rintro _ ⟨z, rfl⟩; go_simp <;> with_reducible rfl)
  refine wpAnyD_take (i := 5) 15 (v := ?_) rfl (by kernel_rfl) (fun _ _ _ h => h) hS (Or.inl ⟨by first | kernel_rfl | rfl, ?_⟩) ?_
  case refine_2 => (rintro _ ⟨z, rfl⟩; go_simp <;> with_reducible rfl)
  refine wpAnyD_take (i := 6) 15 (v := ?_) rfl (by kernel_rfl) (fun _ _ _ h => h) hS (Or.inl ⟨by first | kernel_rfl | rfl, ?_⟩) ?_
  case refine_2 => (rintro _ ⟨z, rfl⟩; go_simp <;> with_reducible rfl)
  refine wpAnyD_take (i := 7) 15 (v := ?_) rfl (by kernel_rfl) (fun _ _ _ h => h) hS (Or.inl ⟨by first | kernel_rfl | rfl, ?_⟩) ?_
  case refine_2 => (rintro _ ⟨z, rfl⟩; go_simp <;> with_reducible rfl)
  refine wpAnyD_take (i := 8) 15 (v := ?_) rfl (by kernel_rfl) (fun _ _ _ h => h) hS (Or.inl ⟨by first | kernel_rfl | rfl, ?_⟩) ?_
  case refine_2 => (rintro _ ⟨z, rfl⟩; go_simp <;> with_reducible rfl)
  refine wpAnyD_take (i := 9) 15 (v := ?_) rfl (by kernel_rfl) (fun _ _ _ h => h) hS (Or.inl ⟨by first | kernel_rfl | rfl, ?_⟩) ?_
  case refine_2 => (rintro _ ⟨z, rfl⟩; go_simp <;> with_reducible rfl)
  refine wpAnyD_take (i := 10) 15 (v := ?_) rfl (by kernel_rfl) (fun _ _ _ h => h) hS (Or.inl ⟨by first | kernel_rfl | rfl, ?_⟩) ?_
  case refine_2 => (rintro _ ⟨z, rfl⟩; go_simp <;> with_reducible rfl)
  refine wpAnyD_step 11 (by kernel_rfl) rfl (fun K hK => ?_)
  go_simp
  refine hK _ _ ⟨fun _ => ?_, ?_⟩
  rotate_left
  clear hK K
  case refine_1 => exact .of (G0.alloc G0.size _)
  refine wpAnyD_rest 12 (by kernel_rfl) (by kernel_rfl) ?_
  simp only [List.drop_succ_cons, List.drop_zero]
  clear u0 u1 u2 hS q0 r0 d0 d1 d2
  have hsz := HS2.out.size
  change wpList _ _ _ _ _ (W2.drew.alloc _)
  refine app_lit2 rfl _ _ 22 rfl (T + 1) 9 _ 1 16 u_strs i_str rfl (by decide) (.slice (some ⟨g2_, 0, none⟩) 2 k2_) 2 (strV [p0, p1]) ?hs_2 HS2.out.own.drew 1 _ ?hx_2 ?hl_2 ?h1_2 ?hn_2 ?hb_2 hsz ?_
  case hs_2 => rfl
  case hx_2 => rfl
  case hl_2 => rfl
  case h1_2 => (intro u hu; simp at hu; subst hu; rfl)
  case hn_2 => omega
  case hb_2 => omega
  intro v2 x2_ hO4 hG4 hob4
  obtain ⟨g3_, k3_, rfl, -⟩ := hO4.some_ (Nat.succ_pos _)
  have hR4 := HS2.out.drew.row.grow hG4 (HS2.out.ne (Nat.le_refl _))
  have HS3 : Hid (SgSt w w1 (x2_.setCell ⟨T, 2, none⟩ (.slice (some ⟨g3_, 0, none⟩) 3 k3_)) T k (.slice (some ⟨sg, 0, none⟩) 35 sc) (.slice (some ⟨g3_, 0, none⟩) 3 k3_) [p0, p1, p2]) := HS2.out.drew.push hG4 hO4
  obtain ⟨q4, q5, q6, f4, f5, f6⟩ := hR4
  clear hO4 hG4 hob4 hsz
  go_wp2_with fail
  generalize hW : x2_.setCell ⟨T, 2, none⟩ (.slice (some ⟨g3_, 0, none⟩) 3 k3_) = W3 at HS3 ⊢
  clear hW q4 q5 q6 f4 f5 f6
  obtain ⟨-, r0, d0, d1, d2⟩ := HB.out _ HS3.out.belowW
  have hR := Lib.hid HS3.out.res
  obtain ⟨q0, q1, q2, f0, f1, f2⟩ := HS3.out.row
  obtain ⟨m0, m1, m2, n0, n1, n2⟩ := HS3.out.res
  clear r0 d0 d1 d2
  rw [rounds_succ]
  go_wp2_with fail
  have hF := ((hR.out.set0 (.int .i64 k)).set1 (.slice (some ⟨sg, 0, none⟩) 35 sc)).set2 (.slice (some ⟨g3_, 0, none⟩) 3 k3_)
  have hBW := HS3.out.belowW
  refine bodyPost_ret (v := .tuple #[.agg #[.int .i64 k, .slice (some ⟨sg, 0, none⟩) 35 sc, .slice (some ⟨g3_, 0, none⟩) 3 k3_], .int .i64 0]) ?_ rfl ⟨_, _, rfl, ?_, ?_, below_set (below_set (below_set hBW (Nat.le_refl _) _) (Nat.le_refl _) _) (Nat.le_refl _) _⟩
  · obtain ⟨g0, g1, g2, -, -, -⟩ := hF
    simp [results, Tryd.f55, go_sem, g0, g1, g2]
  · exact HO.out.three_sets HS3.out.below (by simp) _ _ _
  · exact HS3.out.three_sets _ _ _
set_option maxRecDepth 100000 in
set_option maxHeartbeats 4000000 in
theorem sealSign_110 (r B : Nat) (seed m : ByteArray) (k : Nat) (w : World) (hk8 : k < 8) (a0 : k % 2 = 1) (a1 : k / 2 % 2 = 1) (a2 : k / 4 % 2 = 0) (h : BoxR w B seed) (h16 : seed.size = 16) (hm16 : m.size = 16) (hk : RAt w r) : Calls Tryd.prog 55 #[.pointer (some ⟨r, 0, none⟩), .pointer (some ⟨B, 0, none⟩), .int .i64 k, .string m] w (RSgPost seed m k w) := by
  obtain ⟨l0, l1, l2, -⟩ := rowR_length seed
  obtain ⟨k1, hk1⟩ : ∃ j, j = k / 2 := ⟨_, rfl⟩
  obtain ⟨k2, hk2⟩ : ∃ j, j = k / 4 := ⟨_, rfl⟩
  obtain ⟨s0, hs0⟩ : ∃ j, j = sibN k := ⟨_, rfl⟩
  obtain ⟨s1, hs1⟩ : ∃ j, j = sibN k1 := ⟨_, rfl⟩
  obtain ⟨s2, hs2⟩ : ∃ j, j = sibN k2 := ⟨_, rfl⟩
  have b0 : s0 < 8 := hs0 ▸ sibN_lt' (n := 4) (by omega)
  have b1 : s1 < 4 := hs1 ▸ sibN_lt' (n := 2) (by omega)
  have b2 : s2 < 2 := hs2 ▸ sibN_lt' (n := 1) (by omega)
  obtain ⟨p0, hp0⟩ : ∃ p, (rowR seed 0)[s0]? = some p := ⟨_, List.getElem?_eq_getElem (by omega)⟩
  obtain ⟨p1, hp1⟩ : ∃ p, (rowR seed 1)[s1]? = some p := ⟨_, List.getElem?_eq_getElem (by omega)⟩
  obtain ⟨p2, hp2⟩ : ∃ p, (rowR seed 2)[s2]? = some p := ⟨_, List.getElem?_eq_getElem (by omega)⟩
  have hpath : Hid (pathR seed k = [p0, p1, p2]) := pathR_is hs0.symm (by rw [← hk1]; exact hs1.symm) (by rw [← hk2]; exact hs2.symm) hp0 hp1 hp2
  obtain ⟨a, o, cap, HB⟩ := h.reads hp0 hp1 hp2
  obtain ⟨u1_, hu1⟩ : ∃ j, j = 8 + s1 := ⟨_, rfl⟩
  obtain ⟨u2_, hu2⟩ : ∃ j, j = 12 + s2 := ⟨_, rfl⟩
  rw [← hu1, ← hu2] at HB
  have HS := Lib.hid (fun W (hW : Below w.heap.size w W) => rsign_ok r seed k m W h16 hm16 (by omega) (by omega) (hk.mono hW))
  have HI : Hid (∀ W, Calls Tryd.prog 117 #[.int .i64 k, .int .i64 0, .int .i64 7] W fun e w' => e = .returned (.bool true) ∧ w' = W) := fun W => by
    have h := rin_any k 0 7 W
    rw [decide_eq_true (by omega), decide_eq_true (by omega)] at h
    exact h
  have hb : Below w.heap.size w (w.alloc (.cells #[.int .i64 0, .slice none 0 0, .slice none 0 0] 65)) := (Below.refl _ _).alloc (Nat.le_refl _) _
  have hR0 : Row3 (w.alloc (.cells #[.int .i64 0, .slice none 0 0, .slice none 0 0] 65)) w.heap.size (.int .i64 0) (.slice none 0 0) (.slice none 0 0) := Row3.of_row (T := 65) (heap_alloc_new _ _)
  obtain ⟨z0, -⟩ := HB.out _ hb
  have j1 : (k : Int) / 2 = (k1 : Int) := by omega
  have j2 : (k1 : Int) / 2 = (k2 : Int) := by omega
  have j3 : IntKind.i64.wrap (0 + 8) = 8 := by decide
  have j4 : IntKind.i64.wrap (8 + 4) = 12 := by decide
  have j5 : IntKind.i64.wrap (s0 : Int) = (s0 : Int) := IntWalk.i64_in _ (by omega)
  have j6 : IntKind.i64.wrap (8 + (s1 : Int)) = (u1_ : Int) := by rw [IntWalk.i64_in _ (by omega)]; omega
  have j7 : IntKind.i64.wrap (12 + (s2 : Int)) = (u2_ : Int) := by rw [IntWalk.i64_in _ (by omega)]; omega
  have y0 : ((s0 : Nat) : Int) < 15 := by omega
  have y1 : (u1_ : Int) < 15 := by omega
  have y2 : (u2_ : Int) < 15 := by omega
  unfold RSgPost
  rw [hpath.out]
  rw [← hk1] at a1
  rw [← hk2] at a2
  have P0 : ((k : Int) % 2 == 1) = true := by rw [beq_iff_eq]; omega
  have N0 : (k : Int) - 1 = (s0 : Int) := by unfold sibN at hs0; rw [if_neg (by omega)] at hs0; omega
  have P1 : ((k1 : Int) % 2 == 1) = true := by rw [beq_iff_eq]; omega
  have N1 : (k1 : Int) - 1 = (s1 : Int) := by unfold sibN at hs1; rw [if_neg (by omega)] at hs1; omega
  have P2 : ((k2 : Int) % 2 == 1) = false := by rw [beq_eq_false_iff_ne]; omega
  have N2 : (k2 : Int) + 1 = (s2 : Int) := by unfold sibN at hs2; rw [if_pos (by omega)] at hs2; omega
  clear h h16 hm16 hk hp0 hp1 hp2 l0 l1 l2 hpath hs0 hs1 hs2 b0 b1 b2 hk1 hk2 a0 a1 a2 hu1 hu2
  go_enter Tryd.func55, Tryd.ntmps55
  go_wp2_with (first
    | (go_at_call 117; refine (HI.out _).mono ?_; rintro e w0 ⟨rfl, hw⟩; have hw2 := hw.symm; subst hw2)
    | (go_at_call 27; refine (HS.out _ hb).mono ?_; rintro e w1 ⟨sv, rfl, hO, hB1⟩; obtain ⟨sg, sc, rfl, -⟩ := hO.some_ (by decide); have HO := Lib.hid hO; clear hO; have hR1 := hR0.mono hB1; have C1 := hb.trans (hB1.mono hb.size); have C2 : Below w1.heap.size w1 (w1.alloc (.cells #[.int .i64 k, .slice (some ⟨sg, 0, none⟩) 35 sc, .slice none 0 0] 65)) := (Below.refl _ _).alloc (Nat.le_refl _) _; have S0 : SgSt w w1 (w1.alloc (.cells #[.int .i64 k, .slice (some ⟨sg, 0, none⟩) 35 sc, .slice none 0 0] 65)) w1.heap.size k (.slice (some ⟨sg, 0, none⟩) 35 sc) (.slice none 0 0) [] := ⟨hR1.alloc _, Row3.of_row (T := 65) (heap_alloc_new _ _), Own.nil _ _ _ _, rfl, World.block_lt_of_cell? _ _ hR1.c0, C1, C2⟩; clear hB1 C2))
  obtain ⟨T, hT⟩ : ∃ T, T = w1.heap.size := ⟨_, rfl⟩
  rw [← hT] at S0 ⊢
  generalize hW : World.alloc w1 _ = W0 at S0 ⊢
  clear hW z0 hT
  obtain ⟨-, r0, d0, d1, d2⟩ := HB.out _ S0.belowW
  have HS0 := Lib.hid S0
  clear S0
  refine wp_loop_rounds 4 ?_
  rw [rounds_succ]
  go_wp2_with fail
  have q0 := HS0.out.row.c2
  have u0 := fun z : Grown W0 => z.cell q0
  have u1 := fun z : Grown W0 => z.cell d0
  have u2 := fun z : Grown W0 => z.cell r0
  have hS := InGrown.drew W0
  have G0 := (Below.refl W0.heap.size W0).drew
  refine wp_region_D (fun j => decide (j < 12)) (InGrown W0) 15 (by kernel_rfl) rfl ?_
  refine wpAnyD_take (i := 0) 15 (v := ?_) rfl (by kernel_rfl) (fun _ _ _ h => h) hS (Or.inl ⟨by first | kernel_rfl | rfl, ?_⟩) ?_
  case refine_2 => (rintro _ ⟨z, rfl⟩; go_simp <;> with_reducible rfl)
  refine wpAnyD_take (i := 1) 15 (v := ?_) rfl (by kernel_rfl) (fun _ _ _ h => h) hS (Or.inl ⟨by first | kernel_rfl | rfl, ?_⟩) ?_
  case refine_2 => (rintro _ ⟨z, rfl⟩; go_simp <;> with_reducible rfl)
  refine wpAnyD_take (i := 2) 15 (v := ?_) rfl (by kernel_rfl) (fun _ _ _ h => h) hS (Or.inl ⟨by first | kernel_rfl | rfl, ?_⟩) ?_
  case refine_2 => (rintro _ ⟨z, rfl⟩; go_simp <;> with_reducible rfl)
  refine wpAnyD_take (i := 3) 15 (v := ?_) rfl (by kernel_rfl) (fun _ _ _ h => h) hS (Or.inl ⟨by first | kernel_rfl | rfl, ?_⟩) ?_
  case refine_2 => (rintro _ ⟨z, rfl⟩; go_simp <;> with_reducible rfl)
  refine wpAnyD_take (i := 4) 15 (v := ?_) rfl (by kernel_rfl) (fun _ _ _ h => h) hS (Or.inl ⟨by first | kernel_rfl | rfl, ?_⟩) ?_
  case refine_2 => (rintro _ ⟨z, rfl⟩; go_simp <;> with_reducible rfl)
  refine wpAnyD_take (i := 5) 15 (v := ?_) rfl (by kernel_rfl) (fun _ _ _ h => h) hS (Or.inl ⟨by first | kernel_rfl | rfl, ?_⟩) ?_
  case refine_2 => (rintro _ ⟨z, rfl⟩; go_simp <;> with_reducible rfl)
  refine wpAnyD_take (i := 6) 15 (v := ?_) rfl (by kernel_rfl) (fun _ _ _ h => h) hS (Or.inl ⟨by first | kernel_rfl | rfl, ?_⟩) ?_
  case refine_2 => (rintro _ ⟨z, rfl⟩; go_simp <;> with_reducible rfl)
  refine wpAnyD_take (i := 7) 15 (v := ?_) rfl (by kernel_rfl) (fun _ _ _ h => h) hS (Or.inl ⟨by first | kernel_rfl | rfl, ?_⟩) ?_
  case refine_2 => (rintro _ ⟨z, rfl⟩; go_simp <;> with_reducible rfl)
  refine wpAnyD_take (i := 8) 15 (v := ?_) rfl (by kernel_rfl) (fun _ _ _ h => h) hS (Or.inl ⟨by first | kernel_rfl | rfl, ?_⟩) ?_
  case refine_2 => (rintro _ ⟨z, rfl⟩; go_simp <;> with_reducible rfl)
  refine wpAnyD_take (i := 9) 15 (v := ?_) rfl (by kernel_rfl) (fun _ _ _ h => h) hS (Or.inl ⟨by first | kernel_rfl | rfl, ?_⟩) ?_
  case refine_2 => (rintro _ ⟨z, rfl⟩; go_simp <;> with_reducible rfl)
  refine wpAnyD_take (i := 10) 15 (v := ?_) rfl (by kernel_rfl) (fun _ _ _ h => h) hS (Or.inl ⟨by first | kernel_rfl | rfl, ?_⟩) ?_
  case refine_2 => (rintro _ ⟨z, rfl⟩; go_simp <;> with_reducible rfl)
  refine wpAnyD_step 11 (by kernel_rfl) rfl (fun K hK => ?_)
  go_simp
  refine hK _ _ ⟨fun _ => ?_, ?_⟩
  rotate_left
  clear hK K
  case refine_1 => exact .of (G0.alloc G0.size _)
  refine wpAnyD_rest 12 (by kernel_rfl) (by kernel_rfl) ?_
  simp only [List.drop_succ_cons, List.drop_zero]
  clear u0 u1 u2 hS q0 r0 d0 d1 d2
  have hsz := HS0.out.size
  change wpList _ _ _ _ _ (W0.drew.alloc _)
  refine app_lit2 rfl _ _ 22 rfl (T + 1) 9 _ 1 16 u_strs i_str rfl (by decide) (.slice none 0 0) 0 (strV []) ?hs_0 HS0.out.own.drew 1 _ ?hx_0 ?hl_0 ?h1_0 ?hn_0 ?hb_0 hsz ?_
  case hs_0 => rfl
  case hx_0 => rfl
  case hl_0 => rfl
  case h1_0 => (intro u hu; simp at hu; subst hu; rfl)
  case hn_0 => omega
  case hb_0 => omega
  intro v0 x0_ hO4 hG4 hob4
  obtain ⟨g1_, k1_, rfl, -⟩ := hO4.some_ (Nat.succ_pos _)
  have hR4 := HS0.out.drew.row.grow hG4 (HS0.out.ne (Nat.le_refl _))
  have HS1 : Hid (SgSt w w1 (x0_.setCell ⟨T, 2, none⟩ (.slice (some ⟨g1_, 0, none⟩) 1 k1_)) T k (.slice (some ⟨sg, 0, none⟩) 35 sc) (.slice (some ⟨g1_, 0, none⟩) 1 k1_) [p0]) := HS0.out.drew.push hG4 hO4
  obtain ⟨q4, q5, q6, f4, f5, f6⟩ := hR4
  clear hO4 hG4 hob4 hsz
  go_wp2_with fail
  generalize hW : x0_.setCell ⟨T, 2, none⟩ (.slice (some ⟨g1_, 0, none⟩) 1 k1_) = W1 at HS1 ⊢
  clear hW q4 q5 q6 f4 f5 f6
  obtain ⟨-, r0, d0, d1, d2⟩ := HB.out _ HS1.out.belowW
  rw [rounds_succ]
  go_wp2_with fail
  have q0 := HS1.out.row.c2
  have u0 := fun z : Grown W1 => z.cell q0
  have u1 := fun z : Grown W1 => z.cell d1
  have u2 := fun z : Grown W1 => z.cell r0
  have hS := InGrown.drew W1
  have G0 := (Below.refl W1.heap.size W1).drew
  refine wp_region_D (fun j => decide (j < 12)) (InGrown W1) 15 (by kernel_rfl) rfl ?_
  refine wpAnyD_take (i := 0) 15 (v := ?_) rfl (by kernel_rfl) (fun _ _ _ h => h) hS (Or.inl ⟨by first | kernel_rfl | rfl, ?_⟩) ?_
  case refine_2 => (rintro _ ⟨z, rfl⟩; go_simp <;> with_reducible rfl)
  refine wpAnyD_take (i := 1) 15 (v := ?_) rfl (by kernel_rfl) (fun _ _ _ h => h) hS (Or.inl ⟨by first | kernel_rfl | rfl, ?_⟩) ?_
  case refine_2 => (rintro _ ⟨z, rfl⟩; go_simp <;> with_reducible rfl)
  refine wpAnyD_take (i := 2) 15 (v := ?_) rfl (by kernel_rfl) (fun _ _ _ h => h) hS (Or.inl ⟨by first | kernel_rfl | rfl, ?_⟩) ?_
  case refine_2 => (rintro _ ⟨z, rfl⟩; go_simp <;> with_reducible rfl)
  refine wpAnyD_take (i := 3) 15 (v := ?_) rfl (by kernel_rfl) (fun _ _ _ h => h) hS (Or.inl ⟨by first | kernel_rfl | rfl, ?_⟩) ?_
  case refine_2 => (rintro _ ⟨z, rfl⟩; go_simp <;> with_reducible rfl)
  refine wpAnyD_take (i := 4) 15 (v := ?_) rfl (by kernel_rfl) (fun _ _ _ h => h) hS (Or.inl ⟨by first | kernel_rfl | rfl, ?_⟩) ?_
  case refine_2 => (rintro _ ⟨z, rfl⟩; go_simp <;> with_reducible rfl)
  refine wpAnyD_take (i := 5) 15 (v := ?_) rfl (by kernel_rfl) (fun _ _ _ h => h) hS (Or.inl ⟨by first | kernel_rfl | rfl, ?_⟩) ?_
  case refine_2 => (rintro _ ⟨z, rfl⟩; go_simp <;> with_reducible rfl)
  refine wpAnyD_take (i := 6) 15 (v := ?_) rfl (by kernel_rfl) (fun _ _ _ h => h) hS (Or.inl ⟨by first | kernel_rfl | rfl, ?_⟩) ?_
  case refine_2 => (rintro _ ⟨z, rfl⟩; go_simp <;> with_reducible rfl)
  refine wpAnyD_take (i := 7) 15 (v := ?_) rfl (by kernel_rfl) (fun _ _ _ h => h) hS (Or.inl ⟨by first | kernel_rfl | rfl, ?_⟩) ?_
  case refine_2 => (rintro _ ⟨z, rfl⟩; go_simp <;> with_reducible rfl)
  refine wpAnyD_take (i := 8) 15 (v := ?_) rfl (by kernel_rfl) (fun _ _ _ h => h) hS (Or.inl ⟨by first | kernel_rfl | rfl, ?_⟩) ?_
  case refine_2 => (rintro _ ⟨z, rfl⟩; go_simp <;> with_reducible rfl)
  refine wpAnyD_take (i := 9) 15 (v := ?_) rfl (by kernel_rfl) (fun _ _ _ h => h) hS (Or.inl ⟨by first | kernel_rfl | rfl, ?_⟩) ?_
  case refine_2 => (rintro _ ⟨z, rfl⟩; go_simp <;> with_reducible rfl)
  refine wpAnyD_take (i := 10) 15 (v := ?_) rfl (by kernel_rfl) (fun _ _ _ h => h) hS (Or.inl ⟨by first | kernel_rfl | rfl, ?_⟩) ?_
  case refine_2 => (rintro _ ⟨z, rfl⟩; go_simp <;> with_reducible rfl)
  refine wpAnyD_step 11 (by kernel_rfl) rfl (fun K hK => ?_)
  go_simp
  refine hK _ _ ⟨fun _ => ?_, ?_⟩
  rotate_left
  clear hK K
  case refine_1 => exact .of (G0.alloc G0.size _)
  refine wpAnyD_rest 12 (by kernel_rfl) (by kernel_rfl) ?_
  simp only [List.drop_succ_cons, List.drop_zero]
  clear u0 u1 u2 hS q0 r0 d0 d1 d2
  have hsz := HS1.out.size
  change wpList _ _ _ _ _ (W1.drew.alloc _)
  refine app_lit2 rfl _ _ 22 rfl (T + 1) 9 _ 1 16 u_strs i_str rfl (by decide) (.slice (some ⟨g1_, 0, none⟩) 1 k1_) 1 (strV [p0]) ?hs_1 HS1.out.own.drew 1 _ ?hx_1 ?hl_1 ?h1_1 ?hn_1 ?hb_1 hsz ?_
  case hs_1 => rfl
  case hx_1 => rfl
  case hl_1 => rfl
  case h1_1 => (intro u hu; simp at hu; subst hu; rfl)
  case hn_1 => omega
  case hb_1 => omega
  intro v1 x1_ hO4 hG4 hob4
  obtain ⟨g2_, k2_, rfl, -⟩ := hO4.some_ (Nat.succ_pos _)
  have hR4 := HS1.out.drew.row.grow hG4 (HS1.out.ne (Nat.le_refl _))
  have HS2 : Hid (SgSt w w1 (x1_.setCell ⟨T, 2, none⟩ (.slice (some ⟨g2_, 0, none⟩) 2 k2_)) T k (.slice (some ⟨sg, 0, none⟩) 35 sc) (.slice (some ⟨g2_, 0, none⟩) 2 k2_) [p0, p1]) := HS1.out.drew.push hG4 hO4
  obtain ⟨q4, q5, q6, f4, f5, f6⟩ := hR4
  clear hO4 hG4 hob4 hsz
  go_wp2_with fail
  generalize hW : x1_.setCell ⟨T, 2, none⟩ (.slice (some ⟨g2_, 0, none⟩) 2 k2_) = W2 at HS2 ⊢
  clear hW q4 q5 q6 f4 f5 f6
  obtain ⟨-, r0, d0, d1, d2⟩ := HB.out _ HS2.out.belowW
  rw [rounds_succ]
  go_wp2_with fail
  have q0 := HS2.out.row.c2
  have u0 := fun z : Grown W2 => z.cell q0
  have u1 := fun z : Grown W2 => z.cell d2
  have u2 := fun z : Grown W2 => z.cell r0
  have hS := InGrown.drew W2
  have G0 := (Below.refl W2.heap.size W2).drew
  refine wp_region_D (fun j => decide (j < 12)) (InGrown W2) 15 (by kernel_rfl) rfl ?_
  refine wpAnyD_take (i := 0) 15 (v := ?_) rfl (by kernel_rfl) (fun _ _ _ h => h) hS (Or.inl ⟨by first | kernel_rfl | rfl, ?_⟩) ?_
  case refine_2 => (rintro _ ⟨z, rfl⟩; go_simp <;> with_reducible rfl)
  refine wpAnyD_take (i := 1) 15 (v := ?_) rfl (by kernel_rfl) (fun _ _ _ h => h) hS (Or.inl ⟨by first | kernel_rfl | rfl, ?_⟩) ?_
  case refine_2 => (rintro _ ⟨z, rfl⟩; go_simp <;> with_reducible rfl)
  refine wpAnyD_take (i := 2) 15 (v := ?_) rfl (by kernel_rfl) (fun _ _ _ h => h) hS (Or.inl ⟨by first | kernel_rfl | rfl, ?_⟩) ?_
  case refine_2 => (rintro _ ⟨z, rfl⟩; go_simp <;> with_reducible rfl)
  refine wpAnyD_take (i := 3) 15 (v := ?_) rfl (by kernel_rfl) (fun _ _ _ h => h) hS (Or.inl ⟨by first | kernel_rfl | rfl, ?_⟩) ?_
  case refine_2 => (rintro _ ⟨z, rfl⟩; go_simp <;> with_reducible rfl)
  refine wpAnyD_take (i := 4) 15 (v := ?_) rfl (by kernel_rfl) (fun _ _ _ h => h) hS (Or.inl ⟨by first | kernel_rfl | rfl, ?_⟩) ?_
  case refine_2 => (rintro _ ⟨z, rfl⟩; go_simp <;> with_reducible rfl)
  refine wpAnyD_take (i := 5) 15 (v := ?_) rfl (by kernel_rfl) (fun _ _ _ h => h) hS (Or.inl ⟨by first | kernel_rfl | rfl, ?_⟩) ?_
  case refine_2 => (rintro _ ⟨z, rfl⟩; go_simp <;> with_reducible rfl)
  refine wpAnyD_take (i := 6) 15 (v := ?_) rfl (by kernel_rfl) (fun _ _ _ h => h) hS (Or.inl ⟨by first | kernel_rfl | rfl, ?_⟩) ?_
  case refine_2 => (rintro _ ⟨z, rfl⟩; go_simp <;> with_reducible rfl)
  refine wpAnyD_take (i := 7) 15 (v := ?_) rfl (by kernel_rfl) (fun _ _ _ h => h) hS (Or.inl ⟨by first | kernel_rfl | rfl, ?_⟩) ?_
  case refine_2 => (rintro _ ⟨z, rfl⟩; go_simp <;> with_reducible rfl)
  refine wpAnyD_take (i := 8) 15 (v := ?_) rfl (by kernel_rfl) (fun _ _ _ h => h) hS (Or.inl ⟨by first | kernel_rfl | rfl, ?_⟩) ?_
  case refine_2 => (rintro _ ⟨z, rfl⟩; go_simp <;> with_reducible rfl)
  refine wpAnyD_take (i := 9) 15 (v := ?_) rfl (by kernel_rfl) (fun _ _ _ h => h) hS (Or.inl ⟨by first | kernel_rfl | rfl, ?_⟩) ?_
  case refine_2 => (rintro _ ⟨z, rfl⟩; go_simp <;> with_reducible rfl)
  refine wpAnyD_take (i := 10) 15 (v := ?_) rfl (by kernel_rfl) (fun _ _ _ h => h) hS (Or.inl ⟨by first | kernel_rfl | rfl, ?_⟩) ?_
  case refine_2 => (rintro _ ⟨z, rfl⟩; go_simp <;> with_reducible rfl)
  refine wpAnyD_step 11 (by kernel_rfl) rfl (fun K hK => ?_)
  go_simp
  refine hK _ _ ⟨fun _ => ?_, ?_⟩
  rotate_left
  clear hK K
  case refine_1 => exact .of (G0.alloc G0.size _)
  refine wpAnyD_rest 12 (by kernel_rfl) (by kernel_rfl) ?_
  simp only [List.drop_succ_cons, List.drop_zero]
  clear u0 u1 u2 hS q0 r0 d0 d1 d2
  have hsz := HS2.out.size
  change wpList _ _ _ _ _ (W2.drew.alloc _)
  refine app_lit2 rfl _ _ 22 rfl (T + 1) 9 _ 1 16 u_strs i_str rfl (by decide) (.slice (some ⟨g2_, 0, none⟩) 2 k2_) 2 (strV [p0, p1]) ?hs_2 HS2.out.own.drew 1 _ ?hx_2 ?hl_2 ?h1_2 ?hn_2 ?hb_2 hsz ?_
  case hs_2 => rfl
  case hx_2 => rfl
  case hl_2 => rfl
  case h1_2 => (intro u hu; simp at hu; subst hu; rfl)
  case hn_2 => omega
  case hb_2 => omega
  intro v2 x2_ hO4 hG4 hob4
  obtain ⟨g3_, k3_, rfl, -⟩ := hO4.some_ (Nat.succ_pos _)
  have hR4 := HS2.out.drew.row.grow hG4 (HS2.out.ne (Nat.le_refl _))
  have HS3 : Hid (SgSt w w1 (x2_.setCell ⟨T, 2, none⟩ (.slice (some ⟨g3_, 0, none⟩) 3 k3_)) T k (.slice (some ⟨sg, 0, none⟩) 35 sc) (.slice (some ⟨g3_, 0, none⟩) 3 k3_) [p0, p1, p2]) := HS2.out.drew.push hG4 hO4
  obtain ⟨q4, q5, q6, f4, f5, f6⟩ := hR4
  clear hO4 hG4 hob4 hsz
  go_wp2_with fail
  generalize hW : x2_.setCell ⟨T, 2, none⟩ (.slice (some ⟨g3_, 0, none⟩) 3 k3_) = W3 at HS3 ⊢
  clear hW q4 q5 q6 f4 f5 f6
  obtain ⟨-, r0, d0, d1, d2⟩ := HB.out _ HS3.out.belowW
  have hR := Lib.hid HS3.out.res
  obtain ⟨q0, q1, q2, f0, f1, f2⟩ := HS3.out.row
  obtain ⟨m0, m1, m2, n0, n1, n2⟩ := HS3.out.res
  clear r0 d0 d1 d2
  rw [rounds_succ]
  go_wp2_with fail
  have hF := ((hR.out.set0 (.int .i64 k)).set1 (.slice (some ⟨sg, 0, none⟩) 35 sc)).set2 (.slice (some ⟨g3_, 0, none⟩) 3 k3_)
  have hBW := HS3.out.belowW
  refine bodyPost_ret (v := .tuple #[.agg #[.int .i64 k, .slice (some ⟨sg, 0, none⟩) 35 sc, .slice (some ⟨g3_, 0, none⟩) 3 k3_], .int .i64 0]) ?_ rfl ⟨_, _, rfl, ?_, ?_, below_set (below_set (below_set hBW (Nat.le_refl _) _) (Nat.le_refl _) _) (Nat.le_refl _) _⟩
  · obtain ⟨g0, g1, g2, -, -, -⟩ := hF
    simp [results, Tryd.f55, go_sem, g0, g1, g2]
  · exact HO.out.three_sets HS3.out.below (by simp) _ _ _
  · exact HS3.out.three_sets _ _ _
set_option maxRecDepth 100000 in
set_option maxHeartbeats 4000000 in
theorem sealSign_001 (r B : Nat) (seed m : ByteArray) (k : Nat) (w : World) (hk8 : k < 8) (a0 : k % 2 = 0) (a1 : k / 2 % 2 = 0) (a2 : k / 4 % 2 = 1) (h : BoxR w B seed) (h16 : seed.size = 16) (hm16 : m.size = 16) (hk : RAt w r) : Calls Tryd.prog 55 #[.pointer (some ⟨r, 0, none⟩), .pointer (some ⟨B, 0, none⟩), .int .i64 k, .string m] w (RSgPost seed m k w) := by
  obtain ⟨l0, l1, l2, -⟩ := rowR_length seed
  obtain ⟨k1, hk1⟩ : ∃ j, j = k / 2 := ⟨_, rfl⟩
  obtain ⟨k2, hk2⟩ : ∃ j, j = k / 4 := ⟨_, rfl⟩
  obtain ⟨s0, hs0⟩ : ∃ j, j = sibN k := ⟨_, rfl⟩
  obtain ⟨s1, hs1⟩ : ∃ j, j = sibN k1 := ⟨_, rfl⟩
  obtain ⟨s2, hs2⟩ : ∃ j, j = sibN k2 := ⟨_, rfl⟩
  have b0 : s0 < 8 := hs0 ▸ sibN_lt' (n := 4) (by omega)
  have b1 : s1 < 4 := hs1 ▸ sibN_lt' (n := 2) (by omega)
  have b2 : s2 < 2 := hs2 ▸ sibN_lt' (n := 1) (by omega)
  obtain ⟨p0, hp0⟩ : ∃ p, (rowR seed 0)[s0]? = some p := ⟨_, List.getElem?_eq_getElem (by omega)⟩
  obtain ⟨p1, hp1⟩ : ∃ p, (rowR seed 1)[s1]? = some p := ⟨_, List.getElem?_eq_getElem (by omega)⟩
  obtain ⟨p2, hp2⟩ : ∃ p, (rowR seed 2)[s2]? = some p := ⟨_, List.getElem?_eq_getElem (by omega)⟩
  have hpath : Hid (pathR seed k = [p0, p1, p2]) := pathR_is hs0.symm (by rw [← hk1]; exact hs1.symm) (by rw [← hk2]; exact hs2.symm) hp0 hp1 hp2
  obtain ⟨a, o, cap, HB⟩ := h.reads hp0 hp1 hp2
  obtain ⟨u1_, hu1⟩ : ∃ j, j = 8 + s1 := ⟨_, rfl⟩
  obtain ⟨u2_, hu2⟩ : ∃ j, j = 12 + s2 := ⟨_, rfl⟩
  rw [← hu1, ← hu2] at HB
  have HS := Lib.hid (fun W (hW : Below w.heap.size w W) => rsign_ok r seed k m W h16 hm16 (by omega) (by omega) (hk.mono hW))
  have HI : Hid (∀ W, Calls Tryd.prog 117 #[.int .i64 k, .int .i64 0, .int .i64 7] W fun e w' => e = .returned (.bool true) ∧ w' = W) := fun W => by
    have h := rin_any k 0 7 W
    rw [decide_eq_true (by omega), decide_eq_true (by omega)] at h
    exact h
  have hb : Below w.heap.size w (w.alloc (.cells #[.int .i64 0, .slice none 0 0, .slice none 0 0] 65)) := (Below.refl _ _).alloc (Nat.le_refl _) _
  have hR0 : Row3 (w.alloc (.cells #[.int .i64 0, .slice none 0 0, .slice none 0 0] 65)) w.heap.size (.int .i64 0) (.slice none 0 0) (.slice none 0 0) := Row3.of_row (T := 65) (heap_alloc_new _ _)
  obtain ⟨z0, -⟩ := HB.out _ hb
  have j1 : (k : Int) / 2 = (k1 : Int) := by omega
  have j2 : (k1 : Int) / 2 = (k2 : Int) := by omega
  have j3 : IntKind.i64.wrap (0 + 8) = 8 := by decide
  have j4 : IntKind.i64.wrap (8 + 4) = 12 := by decide
  have j5 : IntKind.i64.wrap (s0 : Int) = (s0 : Int) := IntWalk.i64_in _ (by omega)
  have j6 : IntKind.i64.wrap (8 + (s1 : Int)) = (u1_ : Int) := by rw [IntWalk.i64_in _ (by omega)]; omega
  have j7 : IntKind.i64.wrap (12 + (s2 : Int)) = (u2_ : Int) := by rw [IntWalk.i64_in _ (by omega)]; omega
  have y0 : ((s0 : Nat) : Int) < 15 := by omega
  have y1 : (u1_ : Int) < 15 := by omega
  have y2 : (u2_ : Int) < 15 := by omega
  unfold RSgPost
  rw [hpath.out]
  rw [← hk1] at a1
  rw [← hk2] at a2
  have P0 : ((k : Int) % 2 == 1) = false := by rw [beq_eq_false_iff_ne]; omega
  have N0 : (k : Int) + 1 = (s0 : Int) := by unfold sibN at hs0; rw [if_pos (by omega)] at hs0; omega
  have P1 : ((k1 : Int) % 2 == 1) = false := by rw [beq_eq_false_iff_ne]; omega
  have N1 : (k1 : Int) + 1 = (s1 : Int) := by unfold sibN at hs1; rw [if_pos (by omega)] at hs1; omega
  have P2 : ((k2 : Int) % 2 == 1) = true := by rw [beq_iff_eq]; omega
  have N2 : (k2 : Int) - 1 = (s2 : Int) := by unfold sibN at hs2; rw [if_neg (by omega)] at hs2; omega
  clear h h16 hm16 hk hp0 hp1 hp2 l0 l1 l2 hpath hs0 hs1 hs2 b0 b1 b2 hk1 hk2 a0 a1 a2 hu1 hu2
  go_enter Tryd.func55, Tryd.ntmps55
  go_wp2_with (first
    | (go_at_call 117; refine (HI.out _).mono ?_; rintro e w0 ⟨rfl, hw⟩; have hw2 := hw.symm; subst hw2)
    | (go_at_call 27; refine (HS.out _ hb).mono ?_; rintro e w1 ⟨sv, rfl, hO, hB1⟩; obtain ⟨sg, sc, rfl, -⟩ := hO.some_ (by decide); have HO := Lib.hid hO; clear hO; have hR1 := hR0.mono hB1; have C1 := hb.trans (hB1.mono hb.size); have C2 : Below w1.heap.size w1 (w1.alloc (.cells #[.int .i64 k, .slice (some ⟨sg, 0, none⟩) 35 sc, .slice none 0 0] 65)) := (Below.refl _ _).alloc (Nat.le_refl _) _; have S0 : SgSt w w1 (w1.alloc (.cells #[.int .i64 k, .slice (some ⟨sg, 0, none⟩) 35 sc, .slice none 0 0] 65)) w1.heap.size k (.slice (some ⟨sg, 0, none⟩) 35 sc) (.slice none 0 0) [] := ⟨hR1.alloc _, Row3.of_row (T := 65) (heap_alloc_new _ _), Own.nil _ _ _ _, rfl, World.block_lt_of_cell? _ _ hR1.c0, C1, C2⟩; clear hB1 C2))
  obtain ⟨T, hT⟩ : ∃ T, T = w1.heap.size := ⟨_, rfl⟩
  rw [← hT] at S0 ⊢
  generalize hW : World.alloc w1 _ = W0 at S0 ⊢
  clear hW z0 hT
  obtain ⟨-, r0, d0, d1, d2⟩ := HB.out _ S0.belowW
  have HS0 := Lib.hid S0
  clear S0
  refine wp_loop_rounds 4 ?_
  rw [rounds_succ]
  go_wp2_with fail
  have q0 := HS0.out.row.c2
  have u0 := fun z : Grown W0 => z.cell q0
  have u1 := fun z : Grown W0 => z.cell d0
  have u2 := fun z : Grown W0 => z.cell r0
  have hS := InGrown.drew W0
  have G0 := (Below.refl W0.heap.size W0).drew
  refine wp_region_D (fun j => decide (j < 12)) (InGrown W0) 15 (by kernel_rfl) rfl ?_
  refine wpAnyD_take (i := 0) 15 (v := ?_) rfl (by kernel_rfl) (fun _ _ _ h => h) hS (Or.inl ⟨by first | kernel_rfl | rfl, ?_⟩) ?_
  case refine_2 => (rintro _ ⟨z, rfl⟩; go_simp <;> with_reducible rfl)
  refine wpAnyD_take (i := 1) 15 (v := ?_) rfl (by kernel_rfl) (fun _ _ _ h => h) hS (Or.inl ⟨by first | kernel_rfl | rfl, ?_⟩) ?_
  case refine_2 => (rintro _ ⟨z, rfl⟩; go_simp <;> with_reducible rfl)
  refine wpAnyD_take (i := 2) 15 (v := ?_) rfl (by kernel_rfl) (fun _ _ _ h => h) hS (Or.inl ⟨by first | kernel_rfl | rfl, ?_⟩) ?_
  case refine_2 => (rintro _ ⟨z, rfl⟩; go_simp <;> with_reducible rfl)
  refine wpAnyD_take (i := 3) 15 (v := ?_) rfl (by kernel_rfl) (fun _ _ _ h => h) hS (Or.inl ⟨by first | kernel_rfl | rfl, ?_⟩) ?_
  case refine_2 => (rintro _ ⟨z, rfl⟩; go_simp <;> with_reducible rfl)
  refine wpAnyD_take (i := 4) 15 (v := ?_) rfl (by kernel_rfl) (fun _ _ _ h => h) hS (Or.inl ⟨by first | kernel_rfl | rfl, ?_⟩) ?_
  case refine_2 => (rintro _ ⟨z, rfl⟩; go_simp <;> with_reducible rfl)
  refine wpAnyD_take (i := 5) 15 (v := ?_) rfl (by kernel_rfl) (fun _ _ _ h => h) hS (Or.inl ⟨by first | kernel_rfl | rfl, ?_⟩) ?_
  case refine_2 => (rintro _ ⟨z, rfl⟩; go_simp <;> with_reducible rfl)
  refine wpAnyD_take (i := 6) 15 (v := ?_) rfl (by kernel_rfl) (fun _ _ _ h => h) hS (Or.inl ⟨by first | kernel_rfl | rfl, ?_⟩) ?_
  case refine_2 => (rintro _ ⟨z, rfl⟩; go_simp <;> with_reducible rfl)
  refine wpAnyD_take (i := 7) 15 (v := ?_) rfl (by kernel_rfl) (fun _ _ _ h => h) hS (Or.inl ⟨by first | kernel_rfl | rfl, ?_⟩) ?_
  case refine_2 => (rintro _ ⟨z, rfl⟩; go_simp <;> with_reducible rfl)
  refine wpAnyD_take (i := 8) 15 (v := ?_) rfl (by kernel_rfl) (fun _ _ _ h => h) hS (Or.inl ⟨by first | kernel_rfl | rfl, ?_⟩) ?_
  case refine_2 => (rintro _ ⟨z, rfl⟩; go_simp <;> with_reducible rfl)
  refine wpAnyD_take (i := 9) 15 (v := ?_) rfl (by kernel_rfl) (fun _ _ _ h => h) hS (Or.inl ⟨by first | kernel_rfl | rfl, ?_⟩) ?_
  case refine_2 => (rintro _ ⟨z, rfl⟩; go_simp <;> with_reducible rfl)
  refine wpAnyD_take (i := 10) 15 (v := ?_) rfl (by kernel_rfl) (fun _ _ _ h => h) hS (Or.inl ⟨by first | kernel_rfl | rfl, ?_⟩) ?_
  case refine_2 => (rintro _ ⟨z, rfl⟩; go_simp <;> with_reducible rfl)
  refine wpAnyD_step 11 (by kernel_rfl) rfl (fun K hK => ?_)
  go_simp
  refine hK _ _ ⟨fun _ => ?_, ?_⟩
  rotate_left
  clear hK K
  case refine_1 => exact .of (G0.alloc G0.size _)
  refine wpAnyD_rest 12 (by kernel_rfl) (by kernel_rfl) ?_
  simp only [List.drop_succ_cons, List.drop_zero]
  clear u0 u1 u2 hS q0 r0 d0 d1 d2
  have hsz := HS0.out.size
  change wpList _ _ _ _ _ (W0.drew.alloc _)
  refine app_lit2 rfl _ _ 22 rfl (T + 1) 9 _ 1 16 u_strs i_str rfl (by decide) (.slice none 0 0) 0 (strV []) ?hs_0 HS0.out.own.drew 1 _ ?hx_0 ?hl_0 ?h1_0 ?hn_0 ?hb_0 hsz ?_
  case hs_0 => rfl
  case hx_0 => rfl
  case hl_0 => rfl
  case h1_0 => (intro u hu; simp at hu; subst hu; rfl)
  case hn_0 => omega
  case hb_0 => omega
  intro v0 x0_ hO4 hG4 hob4
  obtain ⟨g1_, k1_, rfl, -⟩ := hO4.some_ (Nat.succ_pos _)
  have hR4 := HS0.out.drew.row.grow hG4 (HS0.out.ne (Nat.le_refl _))
  have HS1 : Hid (SgSt w w1 (x0_.setCell ⟨T, 2, none⟩ (.slice (some ⟨g1_, 0, none⟩) 1 k1_)) T k (.slice (some ⟨sg, 0, none⟩) 35 sc) (.slice (some ⟨g1_, 0, none⟩) 1 k1_) [p0]) := HS0.out.drew.push hG4 hO4
  obtain ⟨q4, q5, q6, f4, f5, f6⟩ := hR4
  clear hO4 hG4 hob4 hsz
  go_wp2_with fail
  generalize hW : x0_.setCell ⟨T, 2, none⟩ (.slice (some ⟨g1_, 0, none⟩) 1 k1_) = W1 at HS1 ⊢
  clear hW q4 q5 q6 f4 f5 f6
  obtain ⟨-, r0, d0, d1, d2⟩ := HB.out _ HS1.out.belowW
  rw [rounds_succ]
  go_wp2_with fail
  have q0 := HS1.out.row.c2
  have u0 := fun z : Grown W1 => z.cell q0
  have u1 := fun z : Grown W1 => z.cell d1
  have u2 := fun z : Grown W1 => z.cell r0
  have hS := InGrown.drew W1
  have G0 := (Below.refl W1.heap.size W1).drew
  refine wp_region_D (fun j => decide (j < 12)) (InGrown W1) 15 (by kernel_rfl) rfl ?_
  refine wpAnyD_take (i := 0) 15 (v := ?_) rfl (by kernel_rfl) (fun _ _ _ h => h) hS (Or.inl ⟨by first | kernel_rfl | rfl, ?_⟩) ?_
  case refine_2 => (rintro _ ⟨z, rfl⟩; go_simp <;> with_reducible rfl)
  refine wpAnyD_take (i := 1) 15 (v := ?_) rfl (by kernel_rfl) (fun _ _ _ h => h) hS (Or.inl ⟨by first | kernel_rfl | rfl, ?_⟩) ?_
  case refine_2 => (rintro _ ⟨z, rfl⟩; go_simp <;> with_reducible rfl)
  refine wpAnyD_take (i := 2) 15 (v := ?_) rfl (by kernel_rfl) (fun _ _ _ h => h) hS (Or.inl ⟨by first | kernel_rfl | rfl, ?_⟩) ?_
  case refine_2 => (rintro _ ⟨z, rfl⟩; go_simp <;> with_reducible rfl)
  refine wpAnyD_take (i := 3) 15 (v := ?_) rfl (by kernel_rfl) (fun _ _ _ h => h) hS (Or.inl ⟨by first | kernel_rfl | rfl, ?_⟩) ?_
  case refine_2 => (rintro _ ⟨z, rfl⟩; go_simp <;> with_reducible rfl)
  refine wpAnyD_take (i := 4) 15 (v := ?_) rfl (by kernel_rfl) (fun _ _ _ h => h) hS (Or.inl ⟨by first | kernel_rfl | rfl, ?_⟩) ?_
  case refine_2 => (rintro _ ⟨z, rfl⟩; go_simp <;> with_reducible rfl)
  refine wpAnyD_take (i := 5) 15 (v := ?_) rfl (by kernel_rfl) (fun _ _ _ h => h) hS (Or.inl ⟨by first | kernel_rfl | rfl, ?_⟩) ?_
  case refine_2 => (rintro _ ⟨z, rfl⟩; go_simp <;> with_reducible rfl)
  refine wpAnyD_take (i := 6) 15 (v := ?_) rfl (by kernel_rfl) (fun _ _ _ h => h) hS (Or.inl ⟨by first | kernel_rfl | rfl, ?_⟩) ?_
  case refine_2 => (rintro _ ⟨z, rfl⟩; go_simp <;> with_reducible rfl)
  refine wpAnyD_take (i := 7) 15 (v := ?_) rfl (by kernel_rfl) (fun _ _ _ h => h) hS (Or.inl ⟨by first | kernel_rfl | rfl, ?_⟩) ?_
  case refine_2 => (rintro _ ⟨z, rfl⟩; go_simp <;> with_reducible rfl)
  refine wpAnyD_take (i := 8) 15 (v := ?_) rfl (by kernel_rfl) (fun _ _ _ h => h) hS (Or.inl ⟨by first | kernel_rfl | rfl, ?_⟩) ?_
  case refine_2 => (rintro _ ⟨z, rfl⟩; go_simp <;> with_reducible rfl)
  refine wpAnyD_take (i := 9) 15 (v := ?_) rfl (by kernel_rfl) (fun _ _ _ h => h) hS (Or.inl ⟨by first | kernel_rfl | rfl, ?_⟩) ?_
  case refine_2 => (rintro _ ⟨z, rfl⟩; go_simp <;> with_reducible rfl)
  refine wpAnyD_take (i := 10) 15 (v := ?_) rfl (by kernel_rfl) (fun _ _ _ h => h) hS (Or.inl ⟨by first | kernel_rfl | rfl, ?_⟩) ?_
  case refine_2 => (rintro _ ⟨z, rfl⟩; go_simp <;> with_reducible rfl)
  refine wpAnyD_step 11 (by kernel_rfl) rfl (fun K hK => ?_)
  go_simp
  refine hK _ _ ⟨fun _ => ?_, ?_⟩
  rotate_left
  clear hK K
  case refine_1 => exact .of (G0.alloc G0.size _)
  refine wpAnyD_rest 12 (by kernel_rfl) (by kernel_rfl) ?_
  simp only [List.drop_succ_cons, List.drop_zero]
  clear u0 u1 u2 hS q0 r0 d0 d1 d2
  have hsz := HS1.out.size
  change wpList _ _ _ _ _ (W1.drew.alloc _)
  refine app_lit2 rfl _ _ 22 rfl (T + 1) 9 _ 1 16 u_strs i_str rfl (by decide) (.slice (some ⟨g1_, 0, none⟩) 1 k1_) 1 (strV [p0]) ?hs_1 HS1.out.own.drew 1 _ ?hx_1 ?hl_1 ?h1_1 ?hn_1 ?hb_1 hsz ?_
  case hs_1 => rfl
  case hx_1 => rfl
  case hl_1 => rfl
  case h1_1 => (intro u hu; simp at hu; subst hu; rfl)
  case hn_1 => omega
  case hb_1 => omega
  intro v1 x1_ hO4 hG4 hob4
  obtain ⟨g2_, k2_, rfl, -⟩ := hO4.some_ (Nat.succ_pos _)
  have hR4 := HS1.out.drew.row.grow hG4 (HS1.out.ne (Nat.le_refl _))
  have HS2 : Hid (SgSt w w1 (x1_.setCell ⟨T, 2, none⟩ (.slice (some ⟨g2_, 0, none⟩) 2 k2_)) T k (.slice (some ⟨sg, 0, none⟩) 35 sc) (.slice (some ⟨g2_, 0, none⟩) 2 k2_) [p0, p1]) := HS1.out.drew.push hG4 hO4
  obtain ⟨q4, q5, q6, f4, f5, f6⟩ := hR4
  clear hO4 hG4 hob4 hsz
  go_wp2_with fail
  generalize hW : x1_.setCell ⟨T, 2, none⟩ (.slice (some ⟨g2_, 0, none⟩) 2 k2_) = W2 at HS2 ⊢
  clear hW q4 q5 q6 f4 f5 f6
  obtain ⟨-, r0, d0, d1, d2⟩ := HB.out _ HS2.out.belowW
  rw [rounds_succ]
  go_wp2_with fail
  have q0 := HS2.out.row.c2
  have u0 := fun z : Grown W2 => z.cell q0
  have u1 := fun z : Grown W2 => z.cell d2
  have u2 := fun z : Grown W2 => z.cell r0
  have hS := InGrown.drew W2
  have G0 := (Below.refl W2.heap.size W2).drew
  refine wp_region_D (fun j => decide (j < 12)) (InGrown W2) 15 (by kernel_rfl) rfl ?_
  refine wpAnyD_take (i := 0) 15 (v := ?_) rfl (by kernel_rfl) (fun _ _ _ h => h) hS (Or.inl ⟨by first | kernel_rfl | rfl, ?_⟩) ?_
  case refine_2 => (rintro _ ⟨z, rfl⟩; go_simp <;> with_reducible rfl)
  refine wpAnyD_take (i := 1) 15 (v := ?_) rfl (by kernel_rfl) (fun _ _ _ h => h) hS (Or.inl ⟨by first | kernel_rfl | rfl, ?_⟩) ?_
  case refine_2 => (rintro _ ⟨z, rfl⟩; go_simp <;> with_reducible rfl)
  refine wpAnyD_take (i := 2) 15 (v := ?_) rfl (by kernel_rfl) (fun _ _ _ h => h) hS (Or.inl ⟨by first | kernel_rfl | rfl, ?_⟩) ?_
  case refine_2 => (rintro _ ⟨z, rfl⟩; go_simp <;> with_reducible rfl)
  refine wpAnyD_take (i := 3) 15 (v := ?_) rfl (by kernel_rfl) (fun _ _ _ h => h) hS (Or.inl ⟨by first | kernel_rfl | rfl, ?_⟩) ?_
  case refine_2 => (rintro _ ⟨z, rfl⟩; go_simp <;> with_reducible rfl)
  refine wpAnyD_take (i := 4) 15 (v := ?_) rfl (by kernel_rfl) (fun _ _ _ h => h) hS (Or.inl ⟨by first | kernel_rfl | rfl, ?_⟩) ?_
  case refine_2 => (rintro _ ⟨z, rfl⟩; go_simp <;> with_reducible rfl)
  refine wpAnyD_take (i := 5) 15 (v := ?_) rfl (by kernel_rfl) (fun _ _ _ h => h) hS (Or.inl ⟨by first | kernel_rfl | rfl, ?_⟩) ?_
  case refine_2 => (rintro _ ⟨z, rfl⟩; go_simp <;> with_reducible rfl)
  refine wpAnyD_take (i := 6) 15 (v := ?_) rfl (by kernel_rfl) (fun _ _ _ h => h) hS (Or.inl ⟨by first | kernel_rfl | rfl, ?_⟩) ?_
  case refine_2 => (rintro _ ⟨z, rfl⟩; go_simp <;> with_reducible rfl)
  refine wpAnyD_take (i := 7) 15 (v := ?_) rfl (by kernel_rfl) (fun _ _ _ h => h) hS (Or.inl ⟨by first | kernel_rfl | rfl, ?_⟩) ?_
  case refine_2 => (rintro _ ⟨z, rfl⟩; go_simp <;> with_reducible rfl)
  refine wpAnyD_take (i := 8) 15 (v := ?_) rfl (by kernel_rfl) (fun _ _ _ h => h) hS (Or.inl ⟨by first | kernel_rfl | rfl, ?_⟩) ?_
  case refine_2 => (rintro _ ⟨z, rfl⟩; go_simp <;> with_reducible rfl)
  refine wpAnyD_take (i := 9) 15 (v := ?_) rfl (by kernel_rfl) (fun _ _ _ h => h) hS (Or.inl ⟨by first | kernel_rfl | rfl, ?_⟩) ?_
  case refine_2 => (rintro _ ⟨z, rfl⟩; go_simp <;> with_reducible rfl)
  refine wpAnyD_take (i := 10) 15 (v := ?_) rfl (by kernel_rfl) (fun _ _ _ h => h) hS (Or.inl ⟨by first | kernel_rfl | rfl, ?_⟩) ?_
  case refine_2 => (rintro _ ⟨z, rfl⟩; go_simp <;> with_reducible rfl)
  refine wpAnyD_step 11 (by kernel_rfl) rfl (fun K hK => ?_)
  go_simp
  refine hK _ _ ⟨fun _ => ?_, ?_⟩
  rotate_left
  clear hK K
  case refine_1 => exact .of (G0.alloc G0.size _)
  refine wpAnyD_rest 12 (by kernel_rfl) (by kernel_rfl) ?_
  simp only [List.drop_succ_cons, List.drop_zero]
  clear u0 u1 u2 hS q0 r0 d0 d1 d2
  have hsz := HS2.out.size
  change wpList _ _ _ _ _ (W2.drew.alloc _)
  refine app_lit2 rfl _ _ 22 rfl (T + 1) 9 _ 1 16 u_strs i_str rfl (by decide) (.slice (some ⟨g2_, 0, none⟩) 2 k2_) 2 (strV [p0, p1]) ?hs_2 HS2.out.own.drew 1 _ ?hx_2 ?hl_2 ?h1_2 ?hn_2 ?hb_2 hsz ?_
  case hs_2 => rfl
  case hx_2 => rfl
  case hl_2 => rfl
  case h1_2 => (intro u hu; simp at hu; subst hu; rfl)
  case hn_2 => omega
  case hb_2 => omega
  intro v2 x2_ hO4 hG4 hob4
  obtain ⟨g3_, k3_, rfl, -⟩ := hO4.some_ (Nat.succ_pos _)
  have hR4 := HS2.out.drew.row.grow hG4 (HS2.out.ne (Nat.le_refl _))
  have HS3 : Hid (SgSt w w1 (x2_.setCell ⟨T, 2, none⟩ (.slice (some ⟨g3_, 0, none⟩) 3 k3_)) T k (.slice (some ⟨sg, 0, none⟩) 35 sc) (.slice (some ⟨g3_, 0, none⟩) 3 k3_) [p0, p1, p2]) := HS2.out.drew.push hG4 hO4
  obtain ⟨q4, q5, q6, f4, f5, f6⟩ := hR4
  clear hO4 hG4 hob4 hsz
  go_wp2_with fail
  generalize hW : x2_.setCell ⟨T, 2, none⟩ (.slice (some ⟨g3_, 0, none⟩) 3 k3_) = W3 at HS3 ⊢
  clear hW q4 q5 q6 f4 f5 f6
  obtain ⟨-, r0, d0, d1, d2⟩ := HB.out _ HS3.out.belowW
  have hR := Lib.hid HS3.out.res
  obtain ⟨q0, q1, q2, f0, f1, f2⟩ := HS3.out.row
  obtain ⟨m0, m1, m2, n0, n1, n2⟩ := HS3.out.res
  clear r0 d0 d1 d2
  rw [rounds_succ]
  go_wp2_with fail
  have hF := ((hR.out.set0 (.int .i64 k)).set1 (.slice (some ⟨sg, 0, none⟩) 35 sc)).set2 (.slice (some ⟨g3_, 0, none⟩) 3 k3_)
  have hBW := HS3.out.belowW
  refine bodyPost_ret (v := .tuple #[.agg #[.int .i64 k, .slice (some ⟨sg, 0, none⟩) 35 sc, .slice (some ⟨g3_, 0, none⟩) 3 k3_], .int .i64 0]) ?_ rfl ⟨_, _, rfl, ?_, ?_, below_set (below_set (below_set hBW (Nat.le_refl _) _) (Nat.le_refl _) _) (Nat.le_refl _) _⟩
  · obtain ⟨g0, g1, g2, -, -, -⟩ := hF
    simp [results, Tryd.f55, go_sem, g0, g1, g2]
  · exact HO.out.three_sets HS3.out.below (by simp) _ _ _
  · exact HS3.out.three_sets _ _ _
set_option maxRecDepth 100000 in
set_option maxHeartbeats 4000000 in
theorem sealSign_101 (r B : Nat) (seed m : ByteArray) (k : Nat) (w : World) (hk8 : k < 8) (a0 : k % 2 = 1) (a1 : k / 2 % 2 = 0) (a2 : k / 4 % 2 = 1) (h : BoxR w B seed) (h16 : seed.size = 16) (hm16 : m.size = 16) (hk : RAt w r) : Calls Tryd.prog 55 #[.pointer (some ⟨r, 0, none⟩), .pointer (some ⟨B, 0, none⟩), .int .i64 k, .string m] w (RSgPost seed m k w) := by
  obtain ⟨l0, l1, l2, -⟩ := rowR_length seed
  obtain ⟨k1, hk1⟩ : ∃ j, j = k / 2 := ⟨_, rfl⟩
  obtain ⟨k2, hk2⟩ : ∃ j, j = k / 4 := ⟨_, rfl⟩
  obtain ⟨s0, hs0⟩ : ∃ j, j = sibN k := ⟨_, rfl⟩
  obtain ⟨s1, hs1⟩ : ∃ j, j = sibN k1 := ⟨_, rfl⟩
  obtain ⟨s2, hs2⟩ : ∃ j, j = sibN k2 := ⟨_, rfl⟩
  have b0 : s0 < 8 := hs0 ▸ sibN_lt' (n := 4) (by omega)
  have b1 : s1 < 4 := hs1 ▸ sibN_lt' (n := 2) (by omega)
  have b2 : s2 < 2 := hs2 ▸ sibN_lt' (n := 1) (by omega)
  obtain ⟨p0, hp0⟩ : ∃ p, (rowR seed 0)[s0]? = some p := ⟨_, List.getElem?_eq_getElem (by omega)⟩
  obtain ⟨p1, hp1⟩ : ∃ p, (rowR seed 1)[s1]? = some p := ⟨_, List.getElem?_eq_getElem (by omega)⟩
  obtain ⟨p2, hp2⟩ : ∃ p, (rowR seed 2)[s2]? = some p := ⟨_, List.getElem?_eq_getElem (by omega)⟩
  have hpath : Hid (pathR seed k = [p0, p1, p2]) := pathR_is hs0.symm (by rw [← hk1]; exact hs1.symm) (by rw [← hk2]; exact hs2.symm) hp0 hp1 hp2
  obtain ⟨a, o, cap, HB⟩ := h.reads hp0 hp1 hp2
  obtain ⟨u1_, hu1⟩ : ∃ j, j = 8 + s1 := ⟨_, rfl⟩
  obtain ⟨u2_, hu2⟩ : ∃ j, j = 12 + s2 := ⟨_, rfl⟩
  rw [← hu1, ← hu2] at HB
  have HS := Lib.hid (fun W (hW : Below w.heap.size w W) => rsign_ok r seed k m W h16 hm16 (by omega) (by omega) (hk.mono hW))
  have HI : Hid (∀ W, Calls Tryd.prog 117 #[.int .i64 k, .int .i64 0, .int .i64 7] W fun e w' => e = .returned (.bool true) ∧ w' = W) := fun W => by
    have h := rin_any k 0 7 W
    rw [decide_eq_true (by omega), decide_eq_true (by omega)] at h
    exact h
  have hb : Below w.heap.size w (w.alloc (.cells #[.int .i64 0, .slice none 0 0, .slice none 0 0] 65)) := (Below.refl _ _).alloc (Nat.le_refl _) _
  have hR0 : Row3 (w.alloc (.cells #[.int .i64 0, .slice none 0 0, .slice none 0 0] 65)) w.heap.size (.int .i64 0) (.slice none 0 0) (.slice none 0 0) := Row3.of_row (T := 65) (heap_alloc_new _ _)
  obtain ⟨z0, -⟩ := HB.out _ hb
  have j1 : (k : Int) / 2 = (k1 : Int) := by omega
  have j2 : (k1 : Int) / 2 = (k2 : Int) := by omega
  have j3 : IntKind.i64.wrap (0 + 8) = 8 := by decide
  have j4 : IntKind.i64.wrap (8 + 4) = 12 := by decide
  have j5 : IntKind.i64.wrap (s0 : Int) = (s0 : Int) := IntWalk.i64_in _ (by omega)
  have j6 : IntKind.i64.wrap (8 + (s1 : Int)) = (u1_ : Int) := by rw [IntWalk.i64_in _ (by omega)]; omega
  have j7 : IntKind.i64.wrap (12 + (s2 : Int)) = (u2_ : Int) := by rw [IntWalk.i64_in _ (by omega)]; omega
  have y0 : ((s0 : Nat) : Int) < 15 := by omega
  have y1 : (u1_ : Int) < 15 := by omega
  have y2 : (u2_ : Int) < 15 := by omega
  unfold RSgPost
  rw [hpath.out]
  rw [← hk1] at a1
  rw [← hk2] at a2
  have P0 : ((k : Int) % 2 == 1) = true := by rw [beq_iff_eq]; omega
  have N0 : (k : Int) - 1 = (s0 : Int) := by unfold sibN at hs0; rw [if_neg (by omega)] at hs0; omega
  have P1 : ((k1 : Int) % 2 == 1) = false := by rw [beq_eq_false_iff_ne]; omega
  have N1 : (k1 : Int) + 1 = (s1 : Int) := by unfold sibN at hs1; rw [if_pos (by omega)] at hs1; omega
  have P2 : ((k2 : Int) % 2 == 1) = true := by rw [beq_iff_eq]; omega
  have N2 : (k2 : Int) - 1 = (s2 : Int) := by unfold sibN at hs2; rw [if_neg (by omega)] at hs2; omega
  clear h h16 hm16 hk hp0 hp1 hp2 l0 l1 l2 hpath hs0 hs1 hs2 b0 b1 b2 hk1 hk2 a0 a1 a2 hu1 hu2
  go_enter Tryd.func55, Tryd.ntmps55
  go_wp2_with (first
    | (go_at_call 117; refine (HI.out _).mono ?_; rintro e w0 ⟨rfl, hw⟩; have hw2 := hw.symm; subst hw2)
    | (go_at_call 27; refine (HS.out _ hb).mono ?_; rintro e w1 ⟨sv, rfl, hO, hB1⟩; obtain ⟨sg, sc, rfl, -⟩ := hO.some_ (by decide); have HO := Lib.hid hO; clear hO; have hR1 := hR0.mono hB1; have C1 := hb.trans (hB1.mono hb.size); have C2 : Below w1.heap.size w1 (w1.alloc (.cells #[.int .i64 k, .slice (some ⟨sg, 0, none⟩) 35 sc, .slice none 0 0] 65)) := (Below.refl _ _).alloc (Nat.le_refl _) _; have S0 : SgSt w w1 (w1.alloc (.cells #[.int .i64 k, .slice (some ⟨sg, 0, none⟩) 35 sc, .slice none 0 0] 65)) w1.heap.size k (.slice (some ⟨sg, 0, none⟩) 35 sc) (.slice none 0 0) [] := ⟨hR1.alloc _, Row3.of_row (T := 65) (heap_alloc_new _ _), Own.nil _ _ _ _, rfl, World.block_lt_of_cell? _ _ hR1.c0, C1, C2⟩; clear hB1 C2))
  obtain ⟨T, hT⟩ : ∃ T, T = w1.heap.size := ⟨_, rfl⟩
  rw [← hT] at S0 ⊢
  generalize hW : World.alloc w1 _ = W0 at S0 ⊢
  clear hW z0 hT
  obtain ⟨-, r0, d0, d1, d2⟩ := HB.out _ S0.belowW
  have HS0 := Lib.hid S0
  clear S0
  refine wp_loop_rounds 4 ?_
  rw [rounds_succ]
  go_wp2_with fail
  have q0 := HS0.out.row.c2
  have u0 := fun z : Grown W0 => z.cell q0
  have u1 := fun z : Grown W0 => z.cell d0
  have u2 := fun z : Grown W0 => z.cell r0
  have hS := InGrown.drew W0
  have G0 := (Below.refl W0.heap.size W0).drew
  refine wp_region_D (fun j => decide (j < 12)) (InGrown W0) 15 (by kernel_rfl) rfl ?_
  refine wpAnyD_take (i := 0) 15 (v := ?_) rfl (by kernel_rfl) (fun _ _ _ h => h) hS (Or.inl ⟨by first | kernel_rfl | rfl, ?_⟩) ?_
  case refine_2 => (rintro _ ⟨z, rfl⟩; go_simp <;> with_reducible rfl)
  refine wpAnyD_take (i := 1) 15 (v := ?_) rfl (by kernel_rfl) (fun _ _ _ h => h) hS (Or.inl ⟨by first | kernel_rfl | rfl, ?_⟩) ?_
  case refine_2 => (rintro _ ⟨z, rfl⟩; go_simp <;> with_reducible rfl)
  refine wpAnyD_take (i := 2) 15 (v := ?_) rfl (by kernel_rfl) (fun _ _ _ h => h) hS (Or.inl ⟨by first | kernel_rfl | rfl, ?_⟩) ?_
  case refine_2 => (rintro _ ⟨z, rfl⟩; go_simp <;> with_reducible rfl)
  refine wpAnyD_take (i := 3) 15 (v := ?_) rfl (by kernel_rfl) (fun _ _ _ h => h) hS (Or.inl ⟨by first | kernel_rfl | rfl, ?_⟩) ?_
  case refine_2 => (rintro _ ⟨z, rfl⟩; go_simp <;> with_reducible rfl)
  refine wpAnyD_take (i := 4) 15 (v := ?_) rfl (by kernel_rfl) (fun _ _ _ h => h) hS (Or.inl ⟨by first | kernel_rfl | rfl, ?_⟩) ?_
  case refine_2 => (rintro _ ⟨z, rfl⟩; go_simp <;> with_reducible rfl)
  refine wpAnyD_take (i := 5) 15 (v := ?_) rfl (by kernel_rfl) (fun _ _ _ h => h) hS (Or.inl ⟨by first | kernel_rfl | rfl, ?_⟩) ?_
  case refine_2 => (rintro _ ⟨z, rfl⟩; go_simp <;> with_reducible rfl)
  refine wpAnyD_take (i := 6) 15 (v := ?_) rfl (by kernel_rfl) (fun _ _ _ h => h) hS (Or.inl ⟨by first | kernel_rfl | rfl, ?_⟩) ?_
  case refine_2 => (rintro _ ⟨z, rfl⟩; go_simp <;> with_reducible rfl)
  refine wpAnyD_take (i := 7) 15 (v := ?_) rfl (by kernel_rfl) (fun _ _ _ h => h) hS (Or.inl ⟨by first | kernel_rfl | rfl, ?_⟩) ?_
  case refine_2 => (rintro _ ⟨z, rfl⟩; go_simp <;> with_reducible rfl)
  refine wpAnyD_take (i := 8) 15 (v := ?_) rfl (by kernel_rfl) (fun _ _ _ h => h) hS (Or.inl ⟨by first | kernel_rfl | rfl, ?_⟩) ?_
  case refine_2 => (rintro _ ⟨z, rfl⟩; go_simp <;> with_reducible rfl)
  refine wpAnyD_take (i := 9) 15 (v := ?_) rfl (by kernel_rfl) (fun _ _ _ h => h) hS (Or.inl ⟨by first | kernel_rfl | rfl, ?_⟩) ?_
  case refine_2 => (rintro _ ⟨z, rfl⟩; go_simp <;> with_reducible rfl)
  refine wpAnyD_take (i := 10) 15 (v := ?_) rfl (by kernel_rfl) (fun _ _ _ h => h) hS (Or.inl ⟨by first | kernel_rfl | rfl, ?_⟩) ?_
  case refine_2 => (rintro _ ⟨z, rfl⟩; go_simp <;> with_reducible rfl)
  refine wpAnyD_step 11 (by kernel_rfl) rfl (fun K hK => ?_)
  go_simp
  refine hK _ _ ⟨fun _ => ?_, ?_⟩
  rotate_left
  clear hK K
  case refine_1 => exact .of (G0.alloc G0.size _)
  refine wpAnyD_rest 12 (by kernel_rfl) (by kernel_rfl) ?_
  simp only [List.drop_succ_cons, List.drop_zero]
  clear u0 u1 u2 hS q0 r0 d0 d1 d2
  have hsz := HS0.out.size
  change wpList _ _ _ _ _ (W0.drew.alloc _)
  refine app_lit2 rfl _ _ 22 rfl (T + 1) 9 _ 1 16 u_strs i_str rfl (by decide) (.slice none 0 0) 0 (strV []) ?hs_0 HS0.out.own.drew 1 _ ?hx_0 ?hl_0 ?h1_0 ?hn_0 ?hb_0 hsz ?_
  case hs_0 => rfl
  case hx_0 => rfl
  case hl_0 => rfl
  case h1_0 => (intro u hu; simp at hu; subst hu; rfl)
  case hn_0 => omega
  case hb_0 => omega
  intro v0 x0_ hO4 hG4 hob4
  obtain ⟨g1_, k1_, rfl, -⟩ := hO4.some_ (Nat.succ_pos _)
  have hR4 := HS0.out.drew.row.grow hG4 (HS0.out.ne (Nat.le_refl _))
  have HS1 : Hid (SgSt w w1 (x0_.setCell ⟨T, 2, none⟩ (.slice (some ⟨g1_, 0, none⟩) 1 k1_)) T k (.slice (some ⟨sg, 0, none⟩) 35 sc) (.slice (some ⟨g1_, 0, none⟩) 1 k1_) [p0]) := HS0.out.drew.push hG4 hO4
  obtain ⟨q4, q5, q6, f4, f5, f6⟩ := hR4
  clear hO4 hG4 hob4 hsz
  go_wp2_with fail
  generalize hW : x0_.setCell ⟨T, 2, none⟩ (.slice (some ⟨g1_, 0, none⟩) 1 k1_) = W1 at HS1 ⊢
  clear hW q4 q5 q6 f4 f5 f6
  obtain ⟨-, r0, d0, d1, d2⟩ := HB.out _ HS1.out.belowW
  rw [rounds_succ]
  go_wp2_with fail
  have q0 := HS1.out.row.c2
  have u0 := fun z : Grown W1 => z.cell q0
  have u1 := fun z : Grown W1 => z.cell d1
  have u2 := fun z : Grown W1 => z.cell r0
  have hS := InGrown.drew W1
  have G0 := (Below.refl W1.heap.size W1).drew
  refine wp_region_D (fun j => decide (j < 12)) (InGrown W1) 15 (by kernel_rfl) rfl ?_
  refine wpAnyD_take (i := 0) 15 (v := ?_) rfl (by kernel_rfl) (fun _ _ _ h => h) hS (Or.inl ⟨by first | kernel_rfl | rfl, ?_⟩) ?_
  case refine_2 => (rintro _ ⟨z, rfl⟩; go_simp <;> with_reducible rfl)
  refine wpAnyD_take (i := 1) 15 (v := ?_) rfl (by kernel_rfl) (fun _ _ _ h => h) hS (Or.inl ⟨by first | kernel_rfl | rfl, ?_⟩) ?_
  case refine_2 => (rintro _ ⟨z, rfl⟩; go_simp <;> with_reducible rfl)
  refine wpAnyD_take (i := 2) 15 (v := ?_) rfl (by kernel_rfl) (fun _ _ _ h => h) hS (Or.inl ⟨by first | kernel_rfl | rfl, ?_⟩) ?_
  case refine_2 => (rintro _ ⟨z, rfl⟩; go_simp <;> with_reducible rfl)
  refine wpAnyD_take (i := 3) 15 (v := ?_) rfl (by kernel_rfl) (fun _ _ _ h => h) hS (Or.inl ⟨by first | kernel_rfl | rfl, ?_⟩) ?_
  case refine_2 => (rintro _ ⟨z, rfl⟩; go_simp <;> with_reducible rfl)
  refine wpAnyD_take (i := 4) 15 (v := ?_) rfl (by kernel_rfl) (fun _ _ _ h => h) hS (Or.inl ⟨by first | kernel_rfl | rfl, ?_⟩) ?_
  case refine_2 => (rintro _ ⟨z, rfl⟩; go_simp <;> with_reducible rfl)
  refine wpAnyD_take (i := 5) 15 (v := ?_) rfl (by kernel_rfl) (fun _ _ _ h => h) hS (Or.inl ⟨by first | kernel_rfl | rfl, ?_⟩) ?_
  case refine_2 => (rintro _ ⟨z, rfl⟩; go_simp <;> with_reducible rfl)
  refine wpAnyD_take (i := 6) 15 (v := ?_) rfl (by kernel_rfl) (fun _ _ _ h => h) hS (Or.inl ⟨by first | kernel_rfl | rfl, ?_⟩) ?_
  case refine_2 => (rintro _ ⟨z, rfl⟩; go_simp <;> with_reducible rfl)
  refine wpAnyD_take (i := 7) 15 (v := ?_) rfl (by kernel_rfl) (fun _ _ _ h => h) hS (Or.inl ⟨by first | kernel_rfl | rfl, ?_⟩) ?_
  case refine_2 => (rintro _ ⟨z, rfl⟩; go_simp <;> with_reducible rfl)
  refine wpAnyD_take (i := 8) 15 (v := ?_) rfl (by kernel_rfl) (fun _ _ _ h => h) hS (Or.inl ⟨by first | kernel_rfl | rfl, ?_⟩) ?_
  case refine_2 => (rintro _ ⟨z, rfl⟩; go_simp <;> with_reducible rfl)
  refine wpAnyD_take (i := 9) 15 (v := ?_) rfl (by kernel_rfl) (fun _ _ _ h => h) hS (Or.inl ⟨by first | kernel_rfl | rfl, ?_⟩) ?_
  case refine_2 => (rintro _ ⟨z, rfl⟩; go_simp <;> with_reducible rfl)
  refine wpAnyD_take (i := 10) 15 (v := ?_) rfl (by kernel_rfl) (fun _ _ _ h => h) hS (Or.inl ⟨by first | kernel_rfl | rfl, ?_⟩) ?_
  case refine_2 => (rintro _ ⟨z, rfl⟩; go_simp <;> with_reducible rfl)
  refine wpAnyD_step 11 (by kernel_rfl) rfl (fun K hK => ?_)
  go_simp
  refine hK _ _ ⟨fun _ => ?_, ?_⟩
  rotate_left
  clear hK K
  case refine_1 => exact .of (G0.alloc G0.size _)
  refine wpAnyD_rest 12 (by kernel_rfl) (by kernel_rfl) ?_
  simp only [List.drop_succ_cons, List.drop_zero]
  clear u0 u1 u2 hS q0 r0 d0 d1 d2
  have hsz := HS1.out.size
  change wpList _ _ _ _ _ (W1.drew.alloc _)
  refine app_lit2 rfl _ _ 22 rfl (T + 1) 9 _ 1 16 u_strs i_str rfl (by decide) (.slice (some ⟨g1_, 0, none⟩) 1 k1_) 1 (strV [p0]) ?hs_1 HS1.out.own.drew 1 _ ?hx_1 ?hl_1 ?h1_1 ?hn_1 ?hb_1 hsz ?_
  case hs_1 => rfl
  case hx_1 => rfl
  case hl_1 => rfl
  case h1_1 => (intro u hu; simp at hu; subst hu; rfl)
  case hn_1 => omega
  case hb_1 => omega
  intro v1 x1_ hO4 hG4 hob4
  obtain ⟨g2_, k2_, rfl, -⟩ := hO4.some_ (Nat.succ_pos _)
  have hR4 := HS1.out.drew.row.grow hG4 (HS1.out.ne (Nat.le_refl _))
  have HS2 : Hid (SgSt w w1 (x1_.setCell ⟨T, 2, none⟩ (.slice (some ⟨g2_, 0, none⟩) 2 k2_)) T k (.slice (some ⟨sg, 0, none⟩) 35 sc) (.slice (some ⟨g2_, 0, none⟩) 2 k2_) [p0, p1]) := HS1.out.drew.push hG4 hO4
  obtain ⟨q4, q5, q6, f4, f5, f6⟩ := hR4
  clear hO4 hG4 hob4 hsz
  go_wp2_with fail
  generalize hW : x1_.setCell ⟨T, 2, none⟩ (.slice (some ⟨g2_, 0, none⟩) 2 k2_) = W2 at HS2 ⊢
  clear hW q4 q5 q6 f4 f5 f6
  obtain ⟨-, r0, d0, d1, d2⟩ := HB.out _ HS2.out.belowW
  rw [rounds_succ]
  go_wp2_with fail
  have q0 := HS2.out.row.c2
  have u0 := fun z : Grown W2 => z.cell q0
  have u1 := fun z : Grown W2 => z.cell d2
  have u2 := fun z : Grown W2 => z.cell r0
  have hS := InGrown.drew W2
  have G0 := (Below.refl W2.heap.size W2).drew
  refine wp_region_D (fun j => decide (j < 12)) (InGrown W2) 15 (by kernel_rfl) rfl ?_
  refine wpAnyD_take (i := 0) 15 (v := ?_) rfl (by kernel_rfl) (fun _ _ _ h => h) hS (Or.inl ⟨by first | kernel_rfl | rfl, ?_⟩) ?_
  case refine_2 => (rintro _ ⟨z, rfl⟩; go_simp <;> with_reducible rfl)
  refine wpAnyD_take (i := 1) 15 (v := ?_) rfl (by kernel_rfl) (fun _ _ _ h => h) hS (Or.inl ⟨by first | kernel_rfl | rfl, ?_⟩) ?_
  case refine_2 => (rintro _ ⟨z, rfl⟩; go_simp <;> with_reducible rfl)
  refine wpAnyD_take (i := 2) 15 (v := ?_) rfl (by kernel_rfl) (fun _ _ _ h => h) hS (Or.inl ⟨by first | kernel_rfl | rfl, ?_⟩) ?_
  case refine_2 => (rintro _ ⟨z, rfl⟩; go_simp <;> with_reducible rfl)
  refine wpAnyD_take (i := 3) 15 (v := ?_) rfl (by kernel_rfl) (fun _ _ _ h => h) hS (Or.inl ⟨by first | kernel_rfl | rfl, ?_⟩) ?_
  case refine_2 => (rintro _ ⟨z, rfl⟩; go_simp <;> with_reducible rfl)
  refine wpAnyD_take (i := 4) 15 (v := ?_) rfl (by kernel_rfl) (fun _ _ _ h => h) hS (Or.inl ⟨by first | kernel_rfl | rfl, ?_⟩) ?_
  case refine_2 => (rintro _ ⟨z, rfl⟩; go_simp <;> with_reducible rfl)
  refine wpAnyD_take (i := 5) 15 (v := ?_) rfl (by kernel_rfl) (fun _ _ _ h => h) hS (Or.inl ⟨by first | kernel_rfl | rfl, ?_⟩) ?_
  case refine_2 => (rintro _ ⟨z, rfl⟩; go_simp <;> with_reducible rfl)
  refine wpAnyD_take (i := 6) 15 (v := ?_) rfl (by kernel_rfl) (fun _ _ _ h => h) hS (Or.inl ⟨by first | kernel_rfl | rfl, ?_⟩) ?_
  case refine_2 => (rintro _ ⟨z, rfl⟩; go_simp <;> with_reducible rfl)
  refine wpAnyD_take (i := 7) 15 (v := ?_) rfl (by kernel_rfl) (fun _ _ _ h => h) hS (Or.inl ⟨by first | kernel_rfl | rfl, ?_⟩) ?_
  case refine_2 => (rintro _ ⟨z, rfl⟩; go_simp <;> with_reducible rfl)
  refine wpAnyD_take (i := 8) 15 (v := ?_) rfl (by kernel_rfl) (fun _ _ _ h => h) hS (Or.inl ⟨by first | kernel_rfl | rfl, ?_⟩) ?_
  case refine_2 => (rintro _ ⟨z, rfl⟩; go_simp <;> with_reducible rfl)
  refine wpAnyD_take (i := 9) 15 (v := ?_) rfl (by kernel_rfl) (fun _ _ _ h => h) hS (Or.inl ⟨by first | kernel_rfl | rfl, ?_⟩) ?_
  case refine_2 => (rintro _ ⟨z, rfl⟩; go_simp <;> with_reducible rfl)
  refine wpAnyD_take (i := 10) 15 (v := ?_) rfl (by kernel_rfl) (fun _ _ _ h => h) hS (Or.inl ⟨by first | kernel_rfl | rfl, ?_⟩) ?_
  case refine_2 => (rintro _ ⟨z, rfl⟩; go_simp <;> with_reducible rfl)
  refine wpAnyD_step 11 (by kernel_rfl) rfl (fun K hK => ?_)
  go_simp
  refine hK _ _ ⟨fun _ => ?_, ?_⟩
  rotate_left
  clear hK K
  case refine_1 => exact .of (G0.alloc G0.size _)
  refine wpAnyD_rest 12 (by kernel_rfl) (by kernel_rfl) ?_
  simp only [List.drop_succ_cons, List.drop_zero]
  clear u0 u1 u2 hS q0 r0 d0 d1 d2
  have hsz := HS2.out.size
  change wpList _ _ _ _ _ (W2.drew.alloc _)
  refine app_lit2 rfl _ _ 22 rfl (T + 1) 9 _ 1 16 u_strs i_str rfl (by decide) (.slice (some ⟨g2_, 0, none⟩) 2 k2_) 2 (strV [p0, p1]) ?hs_2 HS2.out.own.drew 1 _ ?hx_2 ?hl_2 ?h1_2 ?hn_2 ?hb_2 hsz ?_
  case hs_2 => rfl
  case hx_2 => rfl
  case hl_2 => rfl
  case h1_2 => (intro u hu; simp at hu; subst hu; rfl)
  case hn_2 => omega
  case hb_2 => omega
  intro v2 x2_ hO4 hG4 hob4
  obtain ⟨g3_, k3_, rfl, -⟩ := hO4.some_ (Nat.succ_pos _)
  have hR4 := HS2.out.drew.row.grow hG4 (HS2.out.ne (Nat.le_refl _))
  have HS3 : Hid (SgSt w w1 (x2_.setCell ⟨T, 2, none⟩ (.slice (some ⟨g3_, 0, none⟩) 3 k3_)) T k (.slice (some ⟨sg, 0, none⟩) 35 sc) (.slice (some ⟨g3_, 0, none⟩) 3 k3_) [p0, p1, p2]) := HS2.out.drew.push hG4 hO4
  obtain ⟨q4, q5, q6, f4, f5, f6⟩ := hR4
  clear hO4 hG4 hob4 hsz
  go_wp2_with fail
  generalize hW : x2_.setCell ⟨T, 2, none⟩ (.slice (some ⟨g3_, 0, none⟩) 3 k3_) = W3 at HS3 ⊢
  clear hW q4 q5 q6 f4 f5 f6
  obtain ⟨-, r0, d0, d1, d2⟩ := HB.out _ HS3.out.belowW
  have hR := Lib.hid HS3.out.res
  obtain ⟨q0, q1, q2, f0, f1, f2⟩ := HS3.out.row
  obtain ⟨m0, m1, m2, n0, n1, n2⟩ := HS3.out.res
  clear r0 d0 d1 d2
  rw [rounds_succ]
  go_wp2_with fail
  have hF := ((hR.out.set0 (.int .i64 k)).set1 (.slice (some ⟨sg, 0, none⟩) 35 sc)).set2 (.slice (some ⟨g3_, 0, none⟩) 3 k3_)
  have hBW := HS3.out.belowW
  refine bodyPost_ret (v := .tuple #[.agg #[.int .i64 k, .slice (some ⟨sg, 0, none⟩) 35 sc, .slice (some ⟨g3_, 0, none⟩) 3 k3_], .int .i64 0]) ?_ rfl ⟨_, _, rfl, ?_, ?_, below_set (below_set (below_set hBW (Nat.le_refl _) _) (Nat.le_refl _) _) (Nat.le_refl _) _⟩
  · obtain ⟨g0, g1, g2, -, -, -⟩ := hF
    simp [results, Tryd.f55, go_sem, g0, g1, g2]
  · exact HO.out.three_sets HS3.out.below (by simp) _ _ _
  · exact HS3.out.three_sets _ _ _
set_option maxRecDepth 100000 in
set_option maxHeartbeats 4000000 in
theorem sealSign_011 (r B : Nat) (seed m : ByteArray) (k : Nat) (w : World) (hk8 : k < 8) (a0 : k % 2 = 0) (a1 : k / 2 % 2 = 1) (a2 : k / 4 % 2 = 1) (h : BoxR w B seed) (h16 : seed.size = 16) (hm16 : m.size = 16) (hk : RAt w r) : Calls Tryd.prog 55 #[.pointer (some ⟨r, 0, none⟩), .pointer (some ⟨B, 0, none⟩), .int .i64 k, .string m] w (RSgPost seed m k w) := by
  obtain ⟨l0, l1, l2, -⟩ := rowR_length seed
  obtain ⟨k1, hk1⟩ : ∃ j, j = k / 2 := ⟨_, rfl⟩
  obtain ⟨k2, hk2⟩ : ∃ j, j = k / 4 := ⟨_, rfl⟩
  obtain ⟨s0, hs0⟩ : ∃ j, j = sibN k := ⟨_, rfl⟩
  obtain ⟨s1, hs1⟩ : ∃ j, j = sibN k1 := ⟨_, rfl⟩
  obtain ⟨s2, hs2⟩ : ∃ j, j = sibN k2 := ⟨_, rfl⟩
  have b0 : s0 < 8 := hs0 ▸ sibN_lt' (n := 4) (by omega)
  have b1 : s1 < 4 := hs1 ▸ sibN_lt' (n := 2) (by omega)
  have b2 : s2 < 2 := hs2 ▸ sibN_lt' (n := 1) (by omega)
  obtain ⟨p0, hp0⟩ : ∃ p, (rowR seed 0)[s0]? = some p := ⟨_, List.getElem?_eq_getElem (by omega)⟩
  obtain ⟨p1, hp1⟩ : ∃ p, (rowR seed 1)[s1]? = some p := ⟨_, List.getElem?_eq_getElem (by omega)⟩
  obtain ⟨p2, hp2⟩ : ∃ p, (rowR seed 2)[s2]? = some p := ⟨_, List.getElem?_eq_getElem (by omega)⟩
  have hpath : Hid (pathR seed k = [p0, p1, p2]) := pathR_is hs0.symm (by rw [← hk1]; exact hs1.symm) (by rw [← hk2]; exact hs2.symm) hp0 hp1 hp2
  obtain ⟨a, o, cap, HB⟩ := h.reads hp0 hp1 hp2
  obtain ⟨u1_, hu1⟩ : ∃ j, j = 8 + s1 := ⟨_, rfl⟩
  obtain ⟨u2_, hu2⟩ : ∃ j, j = 12 + s2 := ⟨_, rfl⟩
  rw [← hu1, ← hu2] at HB
  have HS := Lib.hid (fun W (hW : Below w.heap.size w W) => rsign_ok r seed k m W h16 hm16 (by omega) (by omega) (hk.mono hW))
  have HI : Hid (∀ W, Calls Tryd.prog 117 #[.int .i64 k, .int .i64 0, .int .i64 7] W fun e w' => e = .returned (.bool true) ∧ w' = W) := fun W => by
    have h := rin_any k 0 7 W
    rw [decide_eq_true (by omega), decide_eq_true (by omega)] at h
    exact h
  have hb : Below w.heap.size w (w.alloc (.cells #[.int .i64 0, .slice none 0 0, .slice none 0 0] 65)) := (Below.refl _ _).alloc (Nat.le_refl _) _
  have hR0 : Row3 (w.alloc (.cells #[.int .i64 0, .slice none 0 0, .slice none 0 0] 65)) w.heap.size (.int .i64 0) (.slice none 0 0) (.slice none 0 0) := Row3.of_row (T := 65) (heap_alloc_new _ _)
  obtain ⟨z0, -⟩ := HB.out _ hb
  have j1 : (k : Int) / 2 = (k1 : Int) := by omega
  have j2 : (k1 : Int) / 2 = (k2 : Int) := by omega
  have j3 : IntKind.i64.wrap (0 + 8) = 8 := by decide
  have j4 : IntKind.i64.wrap (8 + 4) = 12 := by decide
  have j5 : IntKind.i64.wrap (s0 : Int) = (s0 : Int) := IntWalk.i64_in _ (by omega)
  have j6 : IntKind.i64.wrap (8 + (s1 : Int)) = (u1_ : Int) := by rw [IntWalk.i64_in _ (by omega)]; omega
  have j7 : IntKind.i64.wrap (12 + (s2 : Int)) = (u2_ : Int) := by rw [IntWalk.i64_in _ (by omega)]; omega
  have y0 : ((s0 : Nat) : Int) < 15 := by omega
  have y1 : (u1_ : Int) < 15 := by omega
  have y2 : (u2_ : Int) < 15 := by omega
  unfold RSgPost
  rw [hpath.out]
  rw [← hk1] at a1
  rw [← hk2] at a2
  have P0 : ((k : Int) % 2 == 1) = false := by rw [beq_eq_false_iff_ne]; omega
  have N0 : (k : Int) + 1 = (s0 : Int) := by unfold sibN at hs0; rw [if_pos (by omega)] at hs0; omega
  have P1 : ((k1 : Int) % 2 == 1) = true := by rw [beq_iff_eq]; omega
  have N1 : (k1 : Int) - 1 = (s1 : Int) := by unfold sibN at hs1; rw [if_neg (by omega)] at hs1; omega
  have P2 : ((k2 : Int) % 2 == 1) = true := by rw [beq_iff_eq]; omega
  have N2 : (k2 : Int) - 1 = (s2 : Int) := by unfold sibN at hs2; rw [if_neg (by omega)] at hs2; omega
  clear h h16 hm16 hk hp0 hp1 hp2 l0 l1 l2 hpath hs0 hs1 hs2 b0 b1 b2 hk1 hk2 a0 a1 a2 hu1 hu2
  go_enter Tryd.func55, Tryd.ntmps55
  go_wp2_with (first
    | (go_at_call 117; refine (HI.out _).mono ?_; rintro e w0 ⟨rfl, hw⟩; have hw2 := hw.symm; subst hw2)
    | (go_at_call 27; refine (HS.out _ hb).mono ?_; rintro e w1 ⟨sv, rfl, hO, hB1⟩; obtain ⟨sg, sc, rfl, -⟩ := hO.some_ (by decide); have HO := Lib.hid hO; clear hO; have hR1 := hR0.mono hB1; have C1 := hb.trans (hB1.mono hb.size); have C2 : Below w1.heap.size w1 (w1.alloc (.cells #[.int .i64 k, .slice (some ⟨sg, 0, none⟩) 35 sc, .slice none 0 0] 65)) := (Below.refl _ _).alloc (Nat.le_refl _) _; have S0 : SgSt w w1 (w1.alloc (.cells #[.int .i64 k, .slice (some ⟨sg, 0, none⟩) 35 sc, .slice none 0 0] 65)) w1.heap.size k (.slice (some ⟨sg, 0, none⟩) 35 sc) (.slice none 0 0) [] := ⟨hR1.alloc _, Row3.of_row (T := 65) (heap_alloc_new _ _), Own.nil _ _ _ _, rfl, World.block_lt_of_cell? _ _ hR1.c0, C1, C2⟩; clear hB1 C2))
  obtain ⟨T, hT⟩ : ∃ T, T = w1.heap.size := ⟨_, rfl⟩
  rw [← hT] at S0 ⊢
  generalize hW : World.alloc w1 _ = W0 at S0 ⊢
  clear hW z0 hT
  obtain ⟨-, r0, d0, d1, d2⟩ := HB.out _ S0.belowW
  have HS0 := Lib.hid S0
  clear S0
  refine wp_loop_rounds 4 ?_
  rw [rounds_succ]
  go_wp2_with fail
  have q0 := HS0.out.row.c2
  have u0 := fun z : Grown W0 => z.cell q0
  have u1 := fun z : Grown W0 => z.cell d0
  have u2 := fun z : Grown W0 => z.cell r0
  have hS := InGrown.drew W0
  have G0 := (Below.refl W0.heap.size W0).drew
  refine wp_region_D (fun j => decide (j < 12)) (InGrown W0) 15 (by kernel_rfl) rfl ?_
  refine wpAnyD_take (i := 0) 15 (v := ?_) rfl (by kernel_rfl) (fun _ _ _ h => h) hS (Or.inl ⟨by first | kernel_rfl | rfl, ?_⟩) ?_
  case refine_2 => (rintro _ ⟨z, rfl⟩; go_simp <;> with_reducible rfl)
  refine wpAnyD_take (i := 1) 15 (v := ?_) rfl (by kernel_rfl) (fun _ _ _ h => h) hS (Or.inl ⟨by first | kernel_rfl | rfl, ?_⟩) ?_
  case refine_2 => (rintro _ ⟨z, rfl⟩; go_simp <;> with_reducible rfl)
  refine wpAnyD_take (i := 2) 15 (v := ?_) rfl (by kernel_rfl) (fun _ _ _ h => h) hS (Or.inl ⟨by first | kernel_rfl | rfl, ?_⟩) ?_
  case refine_2 => (rintro _ ⟨z, rfl⟩; go_simp <;> with_reducible rfl)
  refine wpAnyD_take (i := 3) 15 (v := ?_) rfl (by kernel_rfl) (fun _ _ _ h => h) hS (Or.inl ⟨by first | kernel_rfl | rfl, ?_⟩) ?_
  case refine_2 => (rintro _ ⟨z, rfl⟩; go_simp <;> with_reducible rfl)
  refine wpAnyD_take (i := 4) 15 (v := ?_) rfl (by kernel_rfl) (fun _ _ _ h => h) hS (Or.inl ⟨by first | kernel_rfl | rfl, ?_⟩) ?_
  case refine_2 => (rintro _ ⟨z, rfl⟩; go_simp <;> with_reducible rfl)
  refine wpAnyD_take (i := 5) 15 (v := ?_) rfl (by kernel_rfl) (fun _ _ _ h => h) hS (Or.inl ⟨by first | kernel_rfl | rfl, ?_⟩) ?_
  case refine_2 => (rintro _ ⟨z, rfl⟩; go_simp <;> with_reducible rfl)
  refine wpAnyD_take (i := 6) 15 (v := ?_) rfl (by kernel_rfl) (fun _ _ _ h => h) hS (Or.inl ⟨by first | kernel_rfl | rfl, ?_⟩) ?_
  case refine_2 => (rintro _ ⟨z, rfl⟩; go_simp <;> with_reducible rfl)
  refine wpAnyD_take (i := 7) 15 (v := ?_) rfl (by kernel_rfl) (fun _ _ _ h => h) hS (Or.inl ⟨by first | kernel_rfl | rfl, ?_⟩) ?_
  case refine_2 => (rintro _ ⟨z, rfl⟩; go_simp <;> with_reducible rfl)
  refine wpAnyD_take (i := 8) 15 (v := ?_) rfl (by kernel_rfl) (fun _ _ _ h => h) hS (Or.inl ⟨by first | kernel_rfl | rfl, ?_⟩) ?_
  case refine_2 => (rintro _ ⟨z, rfl⟩; go_simp <;> with_reducible rfl)
  refine wpAnyD_take (i := 9) 15 (v := ?_) rfl (by kernel_rfl) (fun _ _ _ h => h) hS (Or.inl ⟨by first | kernel_rfl | rfl, ?_⟩) ?_
  case refine_2 => (rintro _ ⟨z, rfl⟩; go_simp <;> with_reducible rfl)
  refine wpAnyD_take (i := 10) 15 (v := ?_) rfl (by kernel_rfl) (fun _ _ _ h => h) hS (Or.inl ⟨by first | kernel_rfl | rfl, ?_⟩) ?_
  case refine_2 => (rintro _ ⟨z, rfl⟩; go_simp <;> with_reducible rfl)
  refine wpAnyD_step 11 (by kernel_rfl) rfl (fun K hK => ?_)
  go_simp
  refine hK _ _ ⟨fun _ => ?_, ?_⟩
  rotate_left
  clear hK K
  case refine_1 => exact .of (G0.alloc G0.size _)
  refine wpAnyD_rest 12 (by kernel_rfl) (by kernel_rfl) ?_
  simp only [List.drop_succ_cons, List.drop_zero]
  clear u0 u1 u2 hS q0 r0 d0 d1 d2
  have hsz := HS0.out.size
  change wpList _ _ _ _ _ (W0.drew.alloc _)
  refine app_lit2 rfl _ _ 22 rfl (T + 1) 9 _ 1 16 u_strs i_str rfl (by decide) (.slice none 0 0) 0 (strV []) ?hs_0 HS0.out.own.drew 1 _ ?hx_0 ?hl_0 ?h1_0 ?hn_0 ?hb_0 hsz ?_
  case hs_0 => rfl
  case hx_0 => rfl
  case hl_0 => rfl
  case h1_0 => (intro u hu; simp at hu; subst hu; rfl)
  case hn_0 => omega
  case hb_0 => omega
  intro v0 x0_ hO4 hG4 hob4
  obtain ⟨g1_, k1_, rfl, -⟩ := hO4.some_ (Nat.succ_pos _)
  have hR4 := HS0.out.drew.row.grow hG4 (HS0.out.ne (Nat.le_refl _))
  have HS1 : Hid (SgSt w w1 (x0_.setCell ⟨T, 2, none⟩ (.slice (some ⟨g1_, 0, none⟩) 1 k1_)) T k (.slice (some ⟨sg, 0, none⟩) 35 sc) (.slice (some ⟨g1_, 0, none⟩) 1 k1_) [p0]) := HS0.out.drew.push hG4 hO4
  obtain ⟨q4, q5, q6, f4, f5, f6⟩ := hR4
  clear hO4 hG4 hob4 hsz
  go_wp2_with fail
  generalize hW : x0_.setCell ⟨T, 2, none⟩ (.slice (some ⟨g1_, 0, none⟩) 1 k1_) = W1 at HS1 ⊢
  clear hW q4 q5 q6 f4 f5 f6
  obtain ⟨-, r0, d0, d1, d2⟩ := HB.out _ HS1.out.belowW
  rw [rounds_succ]
  go_wp2_with fail
  have q0 := HS1.out.row.c2
  have u0 := fun z : Grown W1 => z.cell q0
  have u1 := fun z : Grown W1 => z.cell d1
  have u2 := fun z : Grown W1 => z.cell r0
  have hS := InGrown.drew W1
  have G0 := (Below.refl W1.heap.size W1).drew
  refine wp_region_D (fun j => decide (j < 12)) (InGrown W1) 15 (by kernel_rfl) rfl ?_
  refine wpAnyD_take (i := 0) 15 (v := ?_) rfl (by kernel_rfl) (fun _ _ _ h => h) hS (Or.inl ⟨by first | kernel_rfl | rfl, ?_⟩) ?_
  case refine_2 => (rintro _ ⟨z, rfl⟩; go_simp <;> with_reducible rfl)
  refine wpAnyD_take (i := 1) 15 (v := ?_) rfl (by kernel_rfl) (fun _ _ _ h => h) hS (Or.inl ⟨by first | kernel_rfl | rfl, ?_⟩) ?_
  case refine_2 => (rintro _ ⟨z, rfl⟩; go_simp <;> with_reducible rfl)
  refine wpAnyD_take (i := 2) 15 (v := ?_) rfl (by kernel_rfl) (fun _ _ _ h => h) hS (Or.inl ⟨by first | kernel_rfl | rfl, ?_⟩) ?_
  case refine_2 => (rintro _ ⟨z, rfl⟩; go_simp <;> with_reducible rfl)
  refine wpAnyD_take (i := 3) 15 (v := ?_) rfl (by kernel_rfl) (fun _ _ _ h => h) hS (Or.inl ⟨by first | kernel_rfl | rfl, ?_⟩) ?_
  case refine_2 => (rintro _ ⟨z, rfl⟩; go_simp <;> with_reducible rfl)
  refine wpAnyD_take (i := 4) 15 (v := ?_) rfl (by kernel_rfl) (fun _ _ _ h => h) hS (Or.inl ⟨by first | kernel_rfl | rfl, ?_⟩) ?_
  case refine_2 => (rintro _ ⟨z, rfl⟩; go_simp <;> with_reducible rfl)
  refine wpAnyD_take (i := 5) 15 (v := ?_) rfl (by kernel_rfl) (fun _ _ _ h => h) hS (Or.inl ⟨by first | kernel_rfl | rfl, ?_⟩) ?_
  case refine_2 => (rintro _ ⟨z, rfl⟩; go_simp <;> with_reducible rfl)
  refine wpAnyD_take (i := 6) 15 (v := ?_) rfl (by kernel_rfl) (fun _ _ _ h => h) hS (Or.inl ⟨by first | kernel_rfl | rfl, ?_⟩) ?_
  case refine_2 => (rintro _ ⟨z, rfl⟩; go_simp <;> with_reducible rfl)
  refine wpAnyD_take (i := 7) 15 (v := ?_) rfl (by kernel_rfl) (fun _ _ _ h => h) hS (Or.inl ⟨by first | kernel_rfl | rfl, ?_⟩) ?_
  case refine_2 => (rintro _ ⟨z, rfl⟩; go_simp <;> with_reducible rfl)
  refine wpAnyD_take (i := 8) 15 (v := ?_) rfl (by kernel_rfl) (fun _ _ _ h => h) hS (Or.inl ⟨by first | kernel_rfl | rfl, ?_⟩) ?_
  case refine_2 => (rintro _ ⟨z, rfl⟩; go_simp <;> with_reducible rfl)
  refine wpAnyD_take (i := 9) 15 (v := ?_) rfl (by kernel_rfl) (fun _ _ _ h => h) hS (Or.inl ⟨by first | kernel_rfl | rfl, ?_⟩) ?_
  case refine_2 => (rintro _ ⟨z, rfl⟩; go_simp <;> with_reducible rfl)
  refine wpAnyD_take (i := 10) 15 (v := ?_) rfl (by kernel_rfl) (fun _ _ _ h => h) hS (Or.inl ⟨by first | kernel_rfl | rfl, ?_⟩) ?_
  case refine_2 => (rintro _ ⟨z, rfl⟩; go_simp <;> with_reducible rfl)
  refine wpAnyD_step 11 (by kernel_rfl) rfl (fun K hK => ?_)
  go_simp
  refine hK _ _ ⟨fun _ => ?_, ?_⟩
  rotate_left
  clear hK K
  case refine_1 => exact .of (G0.alloc G0.size _)
  refine wpAnyD_rest 12 (by kernel_rfl) (by kernel_rfl) ?_
  simp only [List.drop_succ_cons, List.drop_zero]
  clear u0 u1 u2 hS q0 r0 d0 d1 d2
  have hsz := HS1.out.size
  change wpList _ _ _ _ _ (W1.drew.alloc _)
  refine app_lit2 rfl _ _ 22 rfl (T + 1) 9 _ 1 16 u_strs i_str rfl (by decide) (.slice (some ⟨g1_, 0, none⟩) 1 k1_) 1 (strV [p0]) ?hs_1 HS1.out.own.drew 1 _ ?hx_1 ?hl_1 ?h1_1 ?hn_1 ?hb_1 hsz ?_
  case hs_1 => rfl
  case hx_1 => rfl
  case hl_1 => rfl
  case h1_1 => (intro u hu; simp at hu; subst hu; rfl)
  case hn_1 => omega
  case hb_1 => omega
  intro v1 x1_ hO4 hG4 hob4
  obtain ⟨g2_, k2_, rfl, -⟩ := hO4.some_ (Nat.succ_pos _)
  have hR4 := HS1.out.drew.row.grow hG4 (HS1.out.ne (Nat.le_refl _))
  have HS2 : Hid (SgSt w w1 (x1_.setCell ⟨T, 2, none⟩ (.slice (some ⟨g2_, 0, none⟩) 2 k2_)) T k (.slice (some ⟨sg, 0, none⟩) 35 sc) (.slice (some ⟨g2_, 0, none⟩) 2 k2_) [p0, p1]) := HS1.out.drew.push hG4 hO4
  obtain ⟨q4, q5, q6, f4, f5, f6⟩ := hR4
  clear hO4 hG4 hob4 hsz
  go_wp2_with fail
  generalize hW : x1_.setCell ⟨T, 2, none⟩ (.slice (some ⟨g2_, 0, none⟩) 2 k2_) = W2 at HS2 ⊢
  clear hW q4 q5 q6 f4 f5 f6
  obtain ⟨-, r0, d0, d1, d2⟩ := HB.out _ HS2.out.belowW
  rw [rounds_succ]
  go_wp2_with fail
  have q0 := HS2.out.row.c2
  have u0 := fun z : Grown W2 => z.cell q0
  have u1 := fun z : Grown W2 => z.cell d2
  have u2 := fun z : Grown W2 => z.cell r0
  have hS := InGrown.drew W2
  have G0 := (Below.refl W2.heap.size W2).drew
  refine wp_region_D (fun j => decide (j < 12)) (InGrown W2) 15 (by kernel_rfl) rfl ?_
  refine wpAnyD_take (i := 0) 15 (v := ?_) rfl (by kernel_rfl) (fun _ _ _ h => h) hS (Or.inl ⟨by first | kernel_rfl | rfl, ?_⟩) ?_
  case refine_2 => (rintro _ ⟨z, rfl⟩; go_simp <;> with_reducible rfl)
  refine wpAnyD_take (i := 1) 15 (v := ?_) rfl (by kernel_rfl) (fun _ _ _ h => h) hS (Or.inl ⟨by first | kernel_rfl | rfl, ?_⟩) ?_
  case refine_2 => (rintro _ ⟨z, rfl⟩; go_simp <;> with_reducible rfl)
  refine wpAnyD_take (i := 2) 15 (v := ?_) rfl (by kernel_rfl) (fun _ _ _ h => h) hS (Or.inl ⟨by first | kernel_rfl | rfl, ?_⟩) ?_
  case refine_2 => (rintro _ ⟨z, rfl⟩; go_simp <;> with_reducible rfl)
  refine wpAnyD_take (i := 3) 15 (v := ?_) rfl (by kernel_rfl) (fun _ _ _ h => h) hS (Or.inl ⟨by first | kernel_rfl | rfl, ?_⟩) ?_
  case refine_2 => (rintro _ ⟨z, rfl⟩; go_simp <;> with_reducible rfl)
  refine wpAnyD_take (i := 4) 15 (v := ?_) rfl (by kernel_rfl) (fun _ _ _ h => h) hS (Or.inl ⟨by first | kernel_rfl | rfl, ?_⟩) ?_
  case refine_2 => (rintro _ ⟨z, rfl⟩; go_simp <;> with_reducible rfl)
  refine wpAnyD_take (i := 5) 15 (v := ?_) rfl (by kernel_rfl) (fun _ _ _ h => h) hS (Or.inl ⟨by first | kernel_rfl | rfl, ?_⟩) ?_
  case refine_2 => (rintro _ ⟨z, rfl⟩; go_simp <;> with_reducible rfl)
  refine wpAnyD_take (i := 6) 15 (v := ?_) rfl (by kernel_rfl) (fun _ _ _ h => h) hS (Or.inl ⟨by first | kernel_rfl | rfl, ?_⟩) ?_
  case refine_2 => (rintro _ ⟨z, rfl⟩; go_simp <;> with_reducible rfl)
  refine wpAnyD_take (i := 7) 15 (v := ?_) rfl (by kernel_rfl) (fun _ _ _ h => h) hS (Or.inl ⟨by first | kernel_rfl | rfl, ?_⟩) ?_
  case refine_2 => (rintro _ ⟨z, rfl⟩; go_simp <;> with_reducible rfl)
  refine wpAnyD_take (i := 8) 15 (v := ?_) rfl (by kernel_rfl) (fun _ _ _ h => h) hS (Or.inl ⟨by first | kernel_rfl | rfl, ?_⟩) ?_
  case refine_2 => (rintro _ ⟨z, rfl⟩; go_simp <;> with_reducible rfl)
  refine wpAnyD_take (i := 9) 15 (v := ?_) rfl (by kernel_rfl) (fun _ _ _ h => h) hS (Or.inl ⟨by first | kernel_rfl | rfl, ?_⟩) ?_
  case refine_2 => (rintro _ ⟨z, rfl⟩; go_simp <;> with_reducible rfl)
  refine wpAnyD_take (i := 10) 15 (v := ?_) rfl (by kernel_rfl) (fun _ _ _ h => h) hS (Or.inl ⟨by first | kernel_rfl | rfl, ?_⟩) ?_
  case refine_2 => (rintro _ ⟨z, rfl⟩; go_simp <;> with_reducible rfl)
  refine wpAnyD_step 11 (by kernel_rfl) rfl (fun K hK => ?_)
  go_simp
  refine hK _ _ ⟨fun _ => ?_, ?_⟩
  rotate_left
  clear hK K
  case refine_1 => exact .of (G0.alloc G0.size _)
  refine wpAnyD_rest 12 (by kernel_rfl) (by kernel_rfl) ?_
  simp only [List.drop_succ_cons, List.drop_zero]
  clear u0 u1 u2 hS q0 r0 d0 d1 d2
  have hsz := HS2.out.size
  change wpList _ _ _ _ _ (W2.drew.alloc _)
  refine app_lit2 rfl _ _ 22 rfl (T + 1) 9 _ 1 16 u_strs i_str rfl (by decide) (.slice (some ⟨g2_, 0, none⟩) 2 k2_) 2 (strV [p0, p1]) ?hs_2 HS2.out.own.drew 1 _ ?hx_2 ?hl_2 ?h1_2 ?hn_2 ?hb_2 hsz ?_
  case hs_2 => rfl
  case hx_2 => rfl
  case hl_2 => rfl
  case h1_2 => (intro u hu; simp at hu; subst hu; rfl)
  case hn_2 => omega
  case hb_2 => omega
  intro v2 x2_ hO4 hG4 hob4
  obtain ⟨g3_, k3_, rfl, -⟩ := hO4.some_ (Nat.succ_pos _)
  have hR4 := HS2.out.drew.row.grow hG4 (HS2.out.ne (Nat.le_refl _))
  have HS3 : Hid (SgSt w w1 (x2_.setCell ⟨T, 2, none⟩ (.slice (some ⟨g3_, 0, none⟩) 3 k3_)) T k (.slice (some ⟨sg, 0, none⟩) 35 sc) (.slice (some ⟨g3_, 0, none⟩) 3 k3_) [p0, p1, p2]) := HS2.out.drew.push hG4 hO4
  obtain ⟨q4, q5, q6, f4, f5, f6⟩ := hR4
  clear hO4 hG4 hob4 hsz
  go_wp2_with fail
  generalize hW : x2_.setCell ⟨T, 2, none⟩ (.slice (some ⟨g3_, 0, none⟩) 3 k3_) = W3 at HS3 ⊢
  clear hW q4 q5 q6 f4 f5 f6
  obtain ⟨-, r0, d0, d1, d2⟩ := HB.out _ HS3.out.belowW
  have hR := Lib.hid HS3.out.res
  obtain ⟨q0, q1, q2, f0, f1, f2⟩ := HS3.out.row
  obtain ⟨m0, m1, m2, n0, n1, n2⟩ := HS3.out.res
  clear r0 d0 d1 d2
  rw [rounds_succ]
  go_wp2_with fail
  have hF := ((hR.out.set0 (.int .i64 k)).set1 (.slice (some ⟨sg, 0, none⟩) 35 sc)).set2 (.slice (some ⟨g3_, 0, none⟩) 3 k3_)
  have hBW := HS3.out.belowW
  refine bodyPost_ret (v := .tuple #[.agg #[.int .i64 k, .slice (some ⟨sg, 0, none⟩) 35 sc, .slice (some ⟨g3_, 0, none⟩) 3 k3_], .int .i64 0]) ?_ rfl ⟨_, _, rfl, ?_, ?_, below_set (below_set (below_set hBW (Nat.le_refl _) _) (Nat.le_refl _) _) (Nat.le_refl _) _⟩
  · obtain ⟨g0, g1, g2, -, -, -⟩ := hF
    simp [results, Tryd.f55, go_sem, g0, g1, g2]
  · exact HO.out.three_sets HS3.out.below (by simp) _ _ _
  · exact HS3.out.three_sets _ _ _
set_option maxRecDepth 100000 in
set_option maxHeartbeats 4000000 in
theorem sealSign_111 (r B : Nat) (seed m : ByteArray) (k : Nat) (w : World) (hk8 : k < 8) (a0 : k % 2 = 1) (a1 : k / 2 % 2 = 1) (a2 : k / 4 % 2 = 1) (h : BoxR w B seed) (h16 : seed.size = 16) (hm16 : m.size = 16) (hk : RAt w r) : Calls Tryd.prog 55 #[.pointer (some ⟨r, 0, none⟩), .pointer (some ⟨B, 0, none⟩), .int .i64 k, .string m] w (RSgPost seed m k w) := by
  obtain ⟨l0, l1, l2, -⟩ := rowR_length seed
  obtain ⟨k1, hk1⟩ : ∃ j, j = k / 2 := ⟨_, rfl⟩
  obtain ⟨k2, hk2⟩ : ∃ j, j = k / 4 := ⟨_, rfl⟩
  obtain ⟨s0, hs0⟩ : ∃ j, j = sibN k := ⟨_, rfl⟩
  obtain ⟨s1, hs1⟩ : ∃ j, j = sibN k1 := ⟨_, rfl⟩
  obtain ⟨s2, hs2⟩ : ∃ j, j = sibN k2 := ⟨_, rfl⟩
  have b0 : s0 < 8 := hs0 ▸ sibN_lt' (n := 4) (by omega)
  have b1 : s1 < 4 := hs1 ▸ sibN_lt' (n := 2) (by omega)
  have b2 : s2 < 2 := hs2 ▸ sibN_lt' (n := 1) (by omega)
  obtain ⟨p0, hp0⟩ : ∃ p, (rowR seed 0)[s0]? = some p := ⟨_, List.getElem?_eq_getElem (by omega)⟩
  obtain ⟨p1, hp1⟩ : ∃ p, (rowR seed 1)[s1]? = some p := ⟨_, List.getElem?_eq_getElem (by omega)⟩
  obtain ⟨p2, hp2⟩ : ∃ p, (rowR seed 2)[s2]? = some p := ⟨_, List.getElem?_eq_getElem (by omega)⟩
  have hpath : Hid (pathR seed k = [p0, p1, p2]) := pathR_is hs0.symm (by rw [← hk1]; exact hs1.symm) (by rw [← hk2]; exact hs2.symm) hp0 hp1 hp2
  obtain ⟨a, o, cap, HB⟩ := h.reads hp0 hp1 hp2
  obtain ⟨u1_, hu1⟩ : ∃ j, j = 8 + s1 := ⟨_, rfl⟩
  obtain ⟨u2_, hu2⟩ : ∃ j, j = 12 + s2 := ⟨_, rfl⟩
  rw [← hu1, ← hu2] at HB
  have HS := Lib.hid (fun W (hW : Below w.heap.size w W) => rsign_ok r seed k m W h16 hm16 (by omega) (by omega) (hk.mono hW))
  have HI : Hid (∀ W, Calls Tryd.prog 117 #[.int .i64 k, .int .i64 0, .int .i64 7] W fun e w' => e = .returned (.bool true) ∧ w' = W) := fun W => by
    have h := rin_any k 0 7 W
    rw [decide_eq_true (by omega), decide_eq_true (by omega)] at h
    exact h
  have hb : Below w.heap.size w (w.alloc (.cells #[.int .i64 0, .slice none 0 0, .slice none 0 0] 65)) := (Below.refl _ _).alloc (Nat.le_refl _) _
  have hR0 : Row3 (w.alloc (.cells #[.int .i64 0, .slice none 0 0, .slice none 0 0] 65)) w.heap.size (.int .i64 0) (.slice none 0 0) (.slice none 0 0) := Row3.of_row (T := 65) (heap_alloc_new _ _)
  obtain ⟨z0, -⟩ := HB.out _ hb
  have j1 : (k : Int) / 2 = (k1 : Int) := by omega
  have j2 : (k1 : Int) / 2 = (k2 : Int) := by omega
  have j3 : IntKind.i64.wrap (0 + 8) = 8 := by decide
  have j4 : IntKind.i64.wrap (8 + 4) = 12 := by decide
  have j5 : IntKind.i64.wrap (s0 : Int) = (s0 : Int) := IntWalk.i64_in _ (by omega)
  have j6 : IntKind.i64.wrap (8 + (s1 : Int)) = (u1_ : Int) := by rw [IntWalk.i64_in _ (by omega)]; omega
  have j7 : IntKind.i64.wrap (12 + (s2 : Int)) = (u2_ : Int) := by rw [IntWalk.i64_in _ (by omega)]; omega
  have y0 : ((s0 : Nat) : Int) < 15 := by omega
  have y1 : (u1_ : Int) < 15 := by omega
  have y2 : (u2_ : Int) < 15 := by omega
  unfold RSgPost
  rw [hpath.out]
  rw [← hk1] at a1
  rw [← hk2] at a2
  have P0 : ((k : Int) % 2 == 1) = true := by rw [beq_iff_eq]; omega
  have N0 : (k : Int) - 1 = (s0 : Int) := by unfold sibN at hs0; rw [if_neg (by omega)] at hs0; omega
  have P1 : ((k1 : Int) % 2 == 1) = true := by rw [beq_iff_eq]; omega
  have N1 : (k1 : Int) - 1 = (s1 : Int) := by unfold sibN at hs1; rw [if_neg (by omega)] at hs1; omega
  have P2 : ((k2 : Int) % 2 == 1) = true := by rw [beq_iff_eq]; omega
  have N2 : (k2 : Int) - 1 = (s2 : Int) := by unfold sibN at hs2; rw [if_neg (by omega)] at hs2; omega
  clear h h16 hm16 hk hp0 hp1 hp2 l0 l1 l2 hpath hs0 hs1 hs2 b0 b1 b2 hk1 hk2 a0 a1 a2 hu1 hu2
  go_enter Tryd.func55, Tryd.ntmps55
  go_wp2_with (first
    | (go_at_call 117; refine (HI.out _).mono ?_; rintro e w0 ⟨rfl, hw⟩; have hw2 := hw.symm; subst hw2)
    | (go_at_call 27; refine (HS.out _ hb).mono ?_; rintro e w1 ⟨sv, rfl, hO, hB1⟩; obtain ⟨sg, sc, rfl, -⟩ := hO.some_ (by decide); have HO := Lib.hid hO; clear hO; have hR1 := hR0.mono hB1; have C1 := hb.trans (hB1.mono hb.size); have C2 : Below w1.heap.size w1 (w1.alloc (.cells #[.int .i64 k, .slice (some ⟨sg, 0, none⟩) 35 sc, .slice none 0 0] 65)) := (Below.refl _ _).alloc (Nat.le_refl _) _; have S0 : SgSt w w1 (w1.alloc (.cells #[.int .i64 k, .slice (some ⟨sg, 0, none⟩) 35 sc, .slice none 0 0] 65)) w1.heap.size k (.slice (some ⟨sg, 0, none⟩) 35 sc) (.slice none 0 0) [] := ⟨hR1.alloc _, Row3.of_row (T := 65) (heap_alloc_new _ _), Own.nil _ _ _ _, rfl, World.block_lt_of_cell? _ _ hR1.c0, C1, C2⟩; clear hB1 C2))
  obtain ⟨T, hT⟩ : ∃ T, T = w1.heap.size := ⟨_, rfl⟩
  rw [← hT] at S0 ⊢
  generalize hW : World.alloc w1 _ = W0 at S0 ⊢
  clear hW z0 hT
  obtain ⟨-, r0, d0, d1, d2⟩ := HB.out _ S0.belowW
  have HS0 := Lib.hid S0
  clear S0
  refine wp_loop_rounds 4 ?_
  rw [rounds_succ]
  go_wp2_with fail
  have q0 := HS0.out.row.c2
  have u0 := fun z : Grown W0 => z.cell q0
  have u1 := fun z : Grown W0 => z.cell d0
  have u2 := fun z : Grown W0 => z.cell r0
  have hS := InGrown.drew W0
  have G0 := (Below.refl W0.heap.size W0).drew
  refine wp_region_D (fun j => decide (j < 12)) (InGrown W0) 15 (by kernel_rfl) rfl ?_
  refine wpAnyD_take (i := 0) 15 (v := ?_) rfl (by kernel_rfl) (fun _ _ _ h => h) hS (Or.inl ⟨by first | kernel_rfl | rfl, ?_⟩) ?_
  case refine_2 => (rintro _ ⟨z, rfl⟩; go_simp <;> with_reducible rfl)
  refine wpAnyD_take (i := 1) 15 (v := ?_) rfl (by kernel_rfl) (fun _ _ _ h => h) hS (Or.inl ⟨by first | kernel_rfl | rfl, ?_⟩) ?_
  case refine_2 => (rintro _ ⟨z, rfl⟩; go_simp <;> with_reducible rfl)
  refine wpAnyD_take (i := 2) 15 (v := ?_) rfl (by kernel_rfl) (fun _ _ _ h => h) hS (Or.inl ⟨by first | kernel_rfl | rfl, ?_⟩) ?_
  case refine_2 => (rintro _ ⟨z, rfl⟩; go_simp <;> with_reducible rfl)
  refine wpAnyD_take (i := 3) 15 (v := ?_) rfl (by kernel_rfl) (fun _ _ _ h => h) hS (Or.inl ⟨by first | kernel_rfl | rfl, ?_⟩) ?_
  case refine_2 => (rintro _ ⟨z, rfl⟩; go_simp <;> with_reducible rfl)
  refine wpAnyD_take (i := 4) 15 (v := ?_) rfl (by kernel_rfl) (fun _ _ _ h => h) hS (Or.inl ⟨by first | kernel_rfl | rfl, ?_⟩) ?_
  case refine_2 => (rintro _ ⟨z, rfl⟩; go_simp <;> with_reducible rfl)
  refine wpAnyD_take (i := 5) 15 (v := ?_) rfl (by kernel_rfl) (fun _ _ _ h => h) hS (Or.inl ⟨by first | kernel_rfl | rfl, ?_⟩) ?_
  case refine_2 => (rintro _ ⟨z, rfl⟩; go_simp <;> with_reducible rfl)
  refine wpAnyD_take (i := 6) 15 (v := ?_) rfl (by kernel_rfl) (fun _ _ _ h => h) hS (Or.inl ⟨by first | kernel_rfl | rfl, ?_⟩) ?_
  case refine_2 => (rintro _ ⟨z, rfl⟩; go_simp <;> with_reducible rfl)
  refine wpAnyD_take (i := 7) 15 (v := ?_) rfl (by kernel_rfl) (fun _ _ _ h => h) hS (Or.inl ⟨by first | kernel_rfl | rfl, ?_⟩) ?_
  case refine_2 => (rintro _ ⟨z, rfl⟩; go_simp <;> with_reducible rfl)
  refine wpAnyD_take (i := 8) 15 (v := ?_) rfl (by kernel_rfl) (fun _ _ _ h => h) hS (Or.inl ⟨by first | kernel_rfl | rfl, ?_⟩) ?_
  case refine_2 => (rintro _ ⟨z, rfl⟩; go_simp <;> with_reducible rfl)
  refine wpAnyD_take (i := 9) 15 (v := ?_) rfl (by kernel_rfl) (fun _ _ _ h => h) hS (Or.inl ⟨by first | kernel_rfl | rfl, ?_⟩) ?_
  case refine_2 => (rintro _ ⟨z, rfl⟩; go_simp <;> with_reducible rfl)
  refine wpAnyD_take (i := 10) 15 (v := ?_) rfl (by kernel_rfl) (fun _ _ _ h => h) hS (Or.inl ⟨by first | kernel_rfl | rfl, ?_⟩) ?_
  case refine_2 => (rintro _ ⟨z, rfl⟩; go_simp <;> with_reducible rfl)
  refine wpAnyD_step 11 (by kernel_rfl) rfl (fun K hK => ?_)
  go_simp
  refine hK _ _ ⟨fun _ => ?_, ?_⟩
  rotate_left
  clear hK K
  case refine_1 => exact .of (G0.alloc G0.size _)
  refine wpAnyD_rest 12 (by kernel_rfl) (by kernel_rfl) ?_
  simp only [List.drop_succ_cons, List.drop_zero]
  clear u0 u1 u2 hS q0 r0 d0 d1 d2
  have hsz := HS0.out.size
  change wpList _ _ _ _ _ (W0.drew.alloc _)
  refine app_lit2 rfl _ _ 22 rfl (T + 1) 9 _ 1 16 u_strs i_str rfl (by decide) (.slice none 0 0) 0 (strV []) ?hs_0 HS0.out.own.drew 1 _ ?hx_0 ?hl_0 ?h1_0 ?hn_0 ?hb_0 hsz ?_
  case hs_0 => rfl
  case hx_0 => rfl
  case hl_0 => rfl
  case h1_0 => (intro u hu; simp at hu; subst hu; rfl)
  case hn_0 => omega
  case hb_0 => omega
  intro v0 x0_ hO4 hG4 hob4
  obtain ⟨g1_, k1_, rfl, -⟩ := hO4.some_ (Nat.succ_pos _)
  have hR4 := HS0.out.drew.row.grow hG4 (HS0.out.ne (Nat.le_refl _))
  have HS1 : Hid (SgSt w w1 (x0_.setCell ⟨T, 2, none⟩ (.slice (some ⟨g1_, 0, none⟩) 1 k1_)) T k (.slice (some ⟨sg, 0, none⟩) 35 sc) (.slice (some ⟨g1_, 0, none⟩) 1 k1_) [p0]) := HS0.out.drew.push hG4 hO4
  obtain ⟨q4, q5, q6, f4, f5, f6⟩ := hR4
  clear hO4 hG4 hob4 hsz
  go_wp2_with fail
  generalize hW : x0_.setCell ⟨T, 2, none⟩ (.slice (some ⟨g1_, 0, none⟩) 1 k1_) = W1 at HS1 ⊢
  clear hW q4 q5 q6 f4 f5 f6
  obtain ⟨-, r0, d0, d1, d2⟩ := HB.out _ HS1.out.belowW
  rw [rounds_succ]
  go_wp2_with fail
  have q0 := HS1.out.row.c2
  have u0 := fun z : Grown W1 => z.cell q0
  have u1 := fun z : Grown W1 => z.cell d1
  have u2 := fun z : Grown W1 => z.cell r0
  have hS := InGrown.drew W1
  have G0 := (Below.refl W1.heap.size W1).drew
  refine wp_region_D (fun j => decide (j < 12)) (InGrown W1) 15 (by kernel_rfl) rfl ?_
  refine wpAnyD_take (i := 0) 15 (v := ?_) rfl (by kernel_rfl) (fun _ _ _ h => h) hS (Or.inl ⟨by first | kernel_rfl | rfl, ?_⟩) ?_
  case refine_2 => (rintro _ ⟨z, rfl⟩; go_simp <;> with_reducible rfl)
  refine wpAnyD_take (i := 1) 15 (v := ?_) rfl (by kernel_rfl) (fun _ _ _ h => h) hS (Or.inl ⟨by first | kernel_rfl | rfl, ?_⟩) ?_
  case refine_2 => (rintro _ ⟨z, rfl⟩; go_simp <;> with_reducible rfl)
  refine wpAnyD_take (i := 2) 15 (v := ?_) rfl (by kernel_rfl) (fun _ _ _ h => h) hS (Or.inl ⟨by first | kernel_rfl | rfl, ?_⟩) ?_
  case refine_2 => (rintro _ ⟨z, rfl⟩; go_simp <;> with_reducible rfl)
  refine wpAnyD_take (i := 3) 15 (v := ?_) rfl (by kernel_rfl) (fun _ _ _ h => h) hS (Or.inl ⟨by first | kernel_rfl | rfl, ?_⟩) ?_
  case refine_2 => (rintro _ ⟨z, rfl⟩; go_simp <;> with_reducible rfl)
  refine wpAnyD_take (i := 4) 15 (v := ?_) rfl (by kernel_rfl) (fun _ _ _ h => h) hS (Or.inl ⟨by first | kernel_rfl | rfl, ?_⟩) ?_
  case refine_2 => (rintro _ ⟨z, rfl⟩; go_simp <;> with_reducible rfl)
  refine wpAnyD_take (i := 5) 15 (v := ?_) rfl (by kernel_rfl) (fun _ _ _ h => h) hS (Or.inl ⟨by first | kernel_rfl | rfl, ?_⟩) ?_
  case refine_2 => (rintro _ ⟨z, rfl⟩; go_simp <;> with_reducible rfl)
  refine wpAnyD_take (i := 6) 15 (v := ?_) rfl (by kernel_rfl) (fun _ _ _ h => h) hS (Or.inl ⟨by first | kernel_rfl | rfl, ?_⟩) ?_
  case refine_2 => (rintro _ ⟨z, rfl⟩; go_simp <;> with_reducible rfl)
  refine wpAnyD_take (i := 7) 15 (v := ?_) rfl (by kernel_rfl) (fun _ _ _ h => h) hS (Or.inl ⟨by first | kernel_rfl | rfl, ?_⟩) ?_
  case refine_2 => (rintro _ ⟨z, rfl⟩; go_simp <;> with_reducible rfl)
  refine wpAnyD_take (i := 8) 15 (v := ?_) rfl (by kernel_rfl) (fun _ _ _ h => h) hS (Or.inl ⟨by first | kernel_rfl | rfl, ?_⟩) ?_
  case refine_2 => (rintro _ ⟨z, rfl⟩; go_simp <;> with_reducible rfl)
  refine wpAnyD_take (i := 9) 15 (v := ?_) rfl (by kernel_rfl) (fun _ _ _ h => h) hS (Or.inl ⟨by first | kernel_rfl | rfl, ?_⟩) ?_
  case refine_2 => (rintro _ ⟨z, rfl⟩; go_simp <;> with_reducible rfl)
  refine wpAnyD_take (i := 10) 15 (v := ?_) rfl (by kernel_rfl) (fun _ _ _ h => h) hS (Or.inl ⟨by first | kernel_rfl | rfl, ?_⟩) ?_
  case refine_2 => (rintro _ ⟨z, rfl⟩; go_simp <;> with_reducible rfl)
  refine wpAnyD_step 11 (by kernel_rfl) rfl (fun K hK => ?_)
  go_simp
  refine hK _ _ ⟨fun _ => ?_, ?_⟩
  rotate_left
  clear hK K
  case refine_1 => exact .of (G0.alloc G0.size _)
  refine wpAnyD_rest 12 (by kernel_rfl) (by kernel_rfl) ?_
  simp only [List.drop_succ_cons, List.drop_zero]
  clear u0 u1 u2 hS q0 r0 d0 d1 d2
  have hsz := HS1.out.size
  change wpList _ _ _ _ _ (W1.drew.alloc _)
  refine app_lit2 rfl _ _ 22 rfl (T + 1) 9 _ 1 16 u_strs i_str rfl (by decide) (.slice (some ⟨g1_, 0, none⟩) 1 k1_) 1 (strV [p0]) ?hs_1 HS1.out.own.drew 1 _ ?hx_1 ?hl_1 ?h1_1 ?hn_1 ?hb_1 hsz ?_
  case hs_1 => rfl
  case hx_1 => rfl
  case hl_1 => rfl
  case h1_1 => (intro u hu; simp at hu; subst hu; rfl)
  case hn_1 => omega
  case hb_1 => omega
  intro v1 x1_ hO4 hG4 hob4
  obtain ⟨g2_, k2_, rfl, -⟩ := hO4.some_ (Nat.succ_pos _)
  have hR4 := HS1.out.drew.row.grow hG4 (HS1.out.ne (Nat.le_refl _))
  have HS2 : Hid (SgSt w w1 (x1_.setCell ⟨T, 2, none⟩ (.slice (some ⟨g2_, 0, none⟩) 2 k2_)) T k (.slice (some ⟨sg, 0, none⟩) 35 sc) (.slice (some ⟨g2_, 0, none⟩) 2 k2_) [p0, p1]) := HS1.out.drew.push hG4 hO4
  obtain ⟨q4, q5, q6, f4, f5, f6⟩ := hR4
  clear hO4 hG4 hob4 hsz
  go_wp2_with fail
  generalize hW : x1_.setCell ⟨T, 2, none⟩ (.slice (some ⟨g2_, 0, none⟩) 2 k2_) = W2 at HS2 ⊢
  clear hW q4 q5 q6 f4 f5 f6
  obtain ⟨-, r0, d0, d1, d2⟩ := HB.out _ HS2.out.belowW
  rw [rounds_succ]
  go_wp2_with fail
  have q0 := HS2.out.row.c2
  have u0 := fun z : Grown W2 => z.cell q0
  have u1 := fun z : Grown W2 => z.cell d2
  have u2 := fun z : Grown W2 => z.cell r0
  have hS := InGrown.drew W2
  have G0 := (Below.refl W2.heap.size W2).drew
  refine wp_region_D (fun j => decide (j < 12)) (InGrown W2) 15 (by kernel_rfl) rfl ?_
  refine wpAnyD_take (i := 0) 15 (v := ?_) rfl (by kernel_rfl) (fun _ _ _ h => h) hS (Or.inl ⟨by first | kernel_rfl | rfl, ?_⟩) ?_
  case refine_2 => (rintro _ ⟨z, rfl⟩; go_simp <;> with_reducible rfl)
  refine wpAnyD_take (i := 1) 15 (v := ?_) rfl (by kernel_rfl) (fun _ _ _ h => h) hS (Or.inl ⟨by first | kernel_rfl | rfl, ?_⟩) ?_
  case refine_2 => (rintro _ ⟨z, rfl⟩; go_simp <;> with_reducible rfl)
  refine wpAnyD_take (i := 2) 15 (v := ?_) rfl (by kernel_rfl) (fun _ _ _ h => h) hS (Or.inl ⟨by first | kernel_rfl | rfl, ?_⟩) ?_
  case refine_2 => (rintro _ ⟨z, rfl⟩; go_simp <;> with_reducible rfl)
  refine wpAnyD_take (i := 3) 15 (v := ?_) rfl (by kernel_rfl) (fun _ _ _ h => h) hS (Or.inl ⟨by first | kernel_rfl | rfl, ?_⟩) ?_
  case refine_2 => (rintro _ ⟨z, rfl⟩; go_simp <;> with_reducible rfl)
  refine wpAnyD_take (i := 4) 15 (v := ?_) rfl (by kernel_rfl) (fun _ _ _ h => h) hS (Or.inl ⟨by first | kernel_rfl | rfl, ?_⟩) ?_
  case refine_2 => (rintro _ ⟨z, rfl⟩; go_simp <;> with_reducible rfl)
  refine wpAnyD_take (i := 5) 15 (v := ?_) rfl (by kernel_rfl) (fun _ _ _ h => h) hS (Or.inl ⟨by first | kernel_rfl | rfl, ?_⟩) ?_
  case refine_2 => (rintro _ ⟨z, rfl⟩; go_simp <;> with_reducible rfl)
  refine wpAnyD_take (i := 6) 15 (v := ?_) rfl (by kernel_rfl) (fun _ _ _ h => h) hS (Or.inl ⟨by first | kernel_rfl | rfl, ?_⟩) ?_
  case refine_2 => (rintro _ ⟨z, rfl⟩; go_simp <;> with_reducible rfl)
  refine wpAnyD_take (i := 7) 15 (v := ?_) rfl (by kernel_rfl) (fun _ _ _ h => h) hS (Or.inl ⟨by first | kernel_rfl | rfl, ?_⟩) ?_
  case refine_2 => (rintro _ ⟨z, rfl⟩; go_simp <;> with_reducible rfl)
  refine wpAnyD_take (i := 8) 15 (v := ?_) rfl (by kernel_rfl) (fun _ _ _ h => h) hS (Or.inl ⟨by first | kernel_rfl | rfl, ?_⟩) ?_
  case refine_2 => (rintro _ ⟨z, rfl⟩; go_simp <;> with_reducible rfl)
  refine wpAnyD_take (i := 9) 15 (v := ?_) rfl (by kernel_rfl) (fun _ _ _ h => h) hS (Or.inl ⟨by first | kernel_rfl | rfl, ?_⟩) ?_
  case refine_2 => (rintro _ ⟨z, rfl⟩; go_simp <;> with_reducible rfl)
  refine wpAnyD_take (i := 10) 15 (v := ?_) rfl (by kernel_rfl) (fun _ _ _ h => h) hS (Or.inl ⟨by first | kernel_rfl | rfl, ?_⟩) ?_
  case refine_2 => (rintro _ ⟨z, rfl⟩; go_simp <;> with_reducible rfl)
  refine wpAnyD_step 11 (by kernel_rfl) rfl (fun K hK => ?_)
  go_simp
  refine hK _ _ ⟨fun _ => ?_, ?_⟩
  rotate_left
  clear hK K
  case refine_1 => exact .of (G0.alloc G0.size _)
  refine wpAnyD_rest 12 (by kernel_rfl) (by kernel_rfl) ?_
  simp only [List.drop_succ_cons, List.drop_zero]
  clear u0 u1 u2 hS q0 r0 d0 d1 d2
  have hsz := HS2.out.size
  change wpList _ _ _ _ _ (W2.drew.alloc _)
  refine app_lit2 rfl _ _ 22 rfl (T + 1) 9 _ 1 16 u_strs i_str rfl (by decide) (.slice (some ⟨g2_, 0, none⟩) 2 k2_) 2 (strV [p0, p1]) ?hs_2 HS2.out.own.drew 1 _ ?hx_2 ?hl_2 ?h1_2 ?hn_2 ?hb_2 hsz ?_
  case hs_2 => rfl
  case hx_2 => rfl
  case hl_2 => rfl
  case h1_2 => (intro u hu; simp at hu; subst hu; rfl)
  case hn_2 => omega
  case hb_2 => omega
  intro v2 x2_ hO4 hG4 hob4
  obtain ⟨g3_, k3_, rfl, -⟩ := hO4.some_ (Nat.succ_pos _)
  have hR4 := HS2.out.drew.row.grow hG4 (HS2.out.ne (Nat.le_refl _))
  have HS3 : Hid (SgSt w w1 (x2_.setCell ⟨T, 2, none⟩ (.slice (some ⟨g3_, 0, none⟩) 3 k3_)) T k (.slice (some ⟨sg, 0, none⟩) 35 sc) (.slice (some ⟨g3_, 0, none⟩) 3 k3_) [p0, p1, p2]) := HS2.out.drew.push hG4 hO4
  obtain ⟨q4, q5, q6, f4, f5, f6⟩ := hR4
  clear hO4 hG4 hob4 hsz
  go_wp2_with fail
  generalize hW : x2_.setCell ⟨T, 2, none⟩ (.slice (some ⟨g3_, 0, none⟩) 3 k3_) = W3 at HS3 ⊢
  clear hW q4 q5 q6 f4 f5 f6
  obtain ⟨-, r0, d0, d1, d2⟩ := HB.out _ HS3.out.belowW
  have hR := Lib.hid HS3.out.res
  obtain ⟨q0, q1, q2, f0, f1, f2⟩ := HS3.out.row
  obtain ⟨m0, m1, m2, n0, n1, n2⟩ := HS3.out.res
  clear r0 d0 d1 d2
  rw [rounds_succ]
  go_wp2_with fail
  have hF := ((hR.out.set0 (.int .i64 k)).set1 (.slice (some ⟨sg, 0, none⟩) 35 sc)).set2 (.slice (some ⟨g3_, 0, none⟩) 3 k3_)
  have hBW := HS3.out.belowW
  refine bodyPost_ret (v := .tuple #[.agg #[.int .i64 k, .slice (some ⟨sg, 0, none⟩) 35 sc, .slice (some ⟨g3_, 0, none⟩) 3 k3_], .int .i64 0]) ?_ rfl ⟨_, _, rfl, ?_, ?_, below_set (below_set (below_set hBW (Nat.le_refl _) _) (Nat.le_refl _) _) (Nat.le_refl _) _⟩
  · obtain ⟨g0, g1, g2, -, -, -⟩ := hF
    simp [results, Tryd.f55, go_sem, g0, g1, g2]
  · exact HO.out.three_sets HS3.out.below (by simp) _ _ _
  · exact HS3.out.three_sets _ _ _
theorem sealSign_ok (r B : Nat) (seed m : ByteArray) (k : Nat) (w : World) (hk8 : k < 8) (h : BoxR w B seed) (h16 : seed.size = 16) (hm16 : m.size = 16) (hk : RAt w r) : Calls Tryd.prog 55 #[.pointer (some ⟨r, 0, none⟩), .pointer (some ⟨B, 0, none⟩), .int .i64 k, .string m] w (RSgPost seed m k w) := by
  rcases (by omega : k % 2 = 0 ∨ k % 2 = 1) with a0 | a0 <;> rcases (by omega : k / 2 % 2 = 0 ∨ k / 2 % 2 = 1) with a1 | a1 <;> rcases (by omega : k / 4 % 2 = 0 ∨ k / 4 % 2 = 1) with a2 | a2
  · exact sealSign_000 r B seed m k w hk8 a0 a1 a2 h h16 hm16 hk
  · exact sealSign_001 r B seed m k w hk8 a0 a1 a2 h h16 hm16 hk
  · exact sealSign_010 r B seed m k w hk8 a0 a1 a2 h h16 hm16 hk
  · exact sealSign_011 r B seed m k w hk8 a0 a1 a2 h h16 hm16 hk
  · exact sealSign_100 r B seed m k w hk8 a0 a1 a2 h h16 hm16 hk
  · exact sealSign_101 r B seed m k w hk8 a0 a1 a2 h h16 hm16 hk
  · exact sealSign_110 r B seed m k w hk8 a0 a1 a2 h h16 hm16 hk
  · exact sealSign_111 r B seed m k w hk8 a0 a1 a2 h h16 hm16 hk
set_option maxRecDepth 100000 in
set_option maxHeartbeats 4000000 in
theorem sealSign_range (r B : Nat) (m : ByteArray) (key : Int) (w : World) (h : ¬ (0 ≤ key ∧ key ≤ 7)) : Calls Tryd.prog 55 #[.pointer (some ⟨r, 0, none⟩), .pointer (some ⟨B, 0, none⟩), .int .i64 key, .string m] w (RSgNone 2 w) := by
  have hb : Below w.heap.size w (w.alloc (.cells #[.int .i64 0, .slice none 0 0, .slice none 0 0] 65)) := (Below.refl _ _).alloc (Nat.le_refl _) _
  have hR0 : Row3 (w.alloc (.cells #[.int .i64 0, .slice none 0 0, .slice none 0 0] 65)) w.heap.size (.int .i64 0) (.slice none 0 0) (.slice none 0 0) := Row3.of_row (T := 65) (heap_alloc_new _ _)
  obtain ⟨m0, m1, m2, n0, n1, n2⟩ := hR0
  have HI := Lib.hid (fun W => rin_any key 0 7 W)
  have e1 : (decide ((0 : Int) ≤ key) && decide (key ≤ 7)) = false := by rw [Bool.and_eq_false_iff, decide_eq_false_iff_not, decide_eq_false_iff_not]; omega
  rw [e1] at HI
  clear h e1
  go_enter Tryd.func55, Tryd.ntmps55
  go_wp2_with (go_at_call 117; refine (HI.out _).mono ?_; rintro e w0 ⟨rfl, hw⟩; have hw2 := hw.symm; subst hw2)
  refine bodyPost_ret (v := .tuple #[.agg #[.int .i64 0, .slice none 0 0, .slice none 0 0], .int .i64 2]) ?_ rfl ⟨rfl, hb⟩
  simp [results, Tryd.f55, go_sem, m0, m1, m2]
set_option maxRecDepth 100000 in
set_option maxHeartbeats 4000000 in
theorem sealSign_arg (r B : Nat) (seed m : ByteArray) (key : Int) (w : World) (h : 0 ≤ key ∧ key ≤ 7) (hB : BoxR w B seed) (hm : m.size ≠ 16) : Calls Tryd.prog 55 #[.pointer (some ⟨r, 0, none⟩), .pointer (some ⟨B, 0, none⟩), .int .i64 key, .string m] w (RSgNone 1 w) := by
  have hb : Below w.heap.size w (w.alloc (.cells #[.int .i64 0, .slice none 0 0, .slice none 0 0] 65)) := (Below.refl _ _).alloc (Nat.le_refl _) _
  have hR0 : Row3 (w.alloc (.cells #[.int .i64 0, .slice none 0 0, .slice none 0 0] 65)) w.heap.size (.int .i64 0) (.slice none 0 0) (.slice none 0 0) := Row3.of_row (T := 65) (heap_alloc_new _ _)
  obtain ⟨m0, m1, m2, n0, n1, n2⟩ := hR0
  obtain ⟨z0, -⟩ := hB.mono hb
  have HS := Lib.hid (fun W => rsign_no r seed key m W (fun h => hm h.2))
  have HI := Lib.hid (fun W => rin_any key 0 7 W)
  rw [decide_eq_true h.1, decide_eq_true h.2] at HI
  clear h hm hB
  go_enter Tryd.func55, Tryd.ntmps55
  go_wp2_with (first
    | (go_at_call 117; refine (HI.out _).mono ?_; rintro e w0 ⟨rfl, hw⟩; have hw2 := hw.symm; subst hw2)
    | (go_at_call 27; refine (HS.out _).mono ?_; rintro e w1 ⟨rfl, hw⟩; have hw2 := hw.symm; subst hw2))
  refine bodyPost_ret (v := .tuple #[.agg #[.int .i64 0, .slice none 0 0, .slice none 0 0], .int .i64 1]) ?_ rfl ⟨rfl, hb⟩
  simp [results, Tryd.f55, go_sem, m0, m1, m2]
end Go.Proofs.YtfhjnfocmlndpaaDoor
