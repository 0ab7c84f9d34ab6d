/- Keep's rooted. (Printed by wip/gen_troot.py.) -/
import Derived.Test.YtfhjnfocmlndpaaDoorTHeld
import Derived.Test.YtfhjnfocmlndpaaDoorTake
import Derived.Test.YtfhjnfocmlndpaaDoorTNode
namespace Go.Proofs.YtfhjnfocmlndpaaDoor
open Go Go.RowKit Go.Proofs Go.Shelf

def xLow : It := ⟨rep16 0, rep16 99⟩
def xHigh : It := ⟨rep16 255, rep16 100⟩
def both : List It := [xLow, xHigh]
theorem right_both : rightI both = true := by
  rw [rightI_iff]
  refine ⟨by decide, fun x hx => ?_, ?_⟩
  · unfold both at hx
    rcases List.mem_cons.1 hx with rfl | hx
    · exact ⟨rfl, rfl⟩
    · rw [List.mem_singleton.1 hx]; exact ⟨rfl, rfl⟩
  · unfold Rising both
    rw [List.pairwise_cons]
    refine ⟨fun y hy => ?_, List.pairwise_singleton _ _⟩
    rw [List.mem_singleton.1 hy]
    decide +kernel
theorem lo_both : loI both 0 = [xLow] := by unfold both; rfl
theorem hi_both : hiI both 0 = [xHigh] := by unfold both; rfl
theorem root_both : rootS both = joinS (leafS (rep16 0) (rep16 99) 1) (leafS (rep16 255) (rep16 100) 1) ∧ rootK both = 0 := by
  unfold rootS rootK
  rw [right_both, if_pos rfl, if_pos rfl, nodeS_two (by decide) (by decide), lo_both, hi_both, nodeS_one, nodeS_one]
  exact ⟨rfl, rfl⟩
theorem root_none : rootS [] = emptyS 0 ∧ rootK [] = 0 := by
  have h : rightI [] = true := rfl
  unfold rootS rootK
  rw [h, if_pos rfl, if_pos rfl, nodeS_nil]
  exact ⟨rfl, rfl⟩
theorem IReads.lit2 (w : World) (x y : It) : IReads (w.alloc (.cells #[.string x.ix, .string x.cm, .string y.ix, .string y.cm] 49)) (.slice (some ⟨w.heap.size, 0, none⟩) 2 2) [x, y] := ⟨Reads.lit w 49 2 2 _ rfl, fun _ _ _ h => by simp only [Value.slice.injEq] at h; omega⟩
set_option maxRecDepth 100000 in
set_option maxHeartbeats 4000000 in
theorem rooted_any (w : World) (hk : KAt w 0) : Calls Tryd.prog 73 #[] w (BoolPost true w) := by
  have HR := Lib.hid (fun W B (hB : W.heap.size = B) (hW : Below w.heap.size w W) => hB ▸ troot_any _ both _ (IReads.lit2 W xLow xHigh) ((hk.mono hW).mono ((Below.refl _ _).alloc (Nat.le_refl _) (.cells #[.string (rep16 0), .string (rep16 99), .string (rep16 255), .string (rep16 100)] 49))))
  have HE := Lib.hid (fun W (hW : Below w.heap.size w W) => troot_any (.slice none 0 0) [] W (IReads.nil _ _ _) (hk.mono hW))
  unfold StrPost at HR HE
  rw [root_both.1, root_both.2, errV_0] at HR
  rw [root_none.1, root_none.2, errV_0] at HE
  have hx0 : xLow.ix = rep16 0 := rfl
  have hx1 : xLow.cm = rep16 99 := rfl
  have hx2 : xHigh.ix = rep16 255 := rfl
  have hx3 : xHigh.cm = rep16 100 := rfl
  rw [hx0, hx1, hx2, hx3] at HR
  unfold joinS emptyS leafS at *
  have s1 : (markS 108 [numS 1, rep16 0, rep16 99]).size ≤ 1000 := by rw [markS_size]; decide
  have s2 : (markS 108 [numS 1, rep16 255, rep16 100]).size ≤ 1000 := by rw [markS_size]; decide
  have HM1 := Lib.hid (fun W (hW : Below w.heap.size w W) => mark3 108 108 rfl (numS 1) (rep16 0) (rep16 99) W (by rw [numS_size]; decide) (by decide) (by decide) (hk.mono hW))
  have HM2 := Lib.hid (fun W (hW : Below w.heap.size w W) => mark3 108 108 rfl (numS 1) (rep16 255) (rep16 100) W (by rw [numS_size]; decide) (by decide) (by decide) (hk.mono hW))
  have HM3 := Lib.hid (fun W (hW : Below w.heap.size w W) => mark2 110 110 rfl _ _ W s1 s2 (hk.mono hW))
  have HM4 := Lib.hid (fun W (hW : Below w.heap.size w W) => mark1 101 101 rfl (numS 0) W (by rw [numS_size]; decide) (hk.mono hW))
  have HN := Lib.hid (fun n W h1 h2 => num_any n W h1 h2)
  have H0 := Lib.hid rep_0
  have H1 := Lib.hid rep_255
  have Hc := Lib.hid rep_c
  have Hd := Lib.hid rep_d
  unfold RepPost at H0 H1 Hc Hd
  have hn1 : ((1 : Nat) : Int) = 1 := rfl
  have hn0 : ((0 : Nat) : Int) = 0 := rfl
  rw [hn1] at HR
  rw [hn0] at HE
  generalize markS 101 [numS 0] = E at *
  generalize markS 110 [markS 108 [numS 1, rep16 0, rep16 99], markS 108 [numS 1, rep16 255, rep16 100]] = J at *
  generalize markS 108 [numS 1, rep16 0, rep16 99] = L1 at *
  generalize markS 108 [numS 1, rep16 255, rep16 100] = L2 at *
  generalize rep16 0 = r0 at *
  generalize rep16 255 = r1 at *
  generalize rep16 99 = rc at *
  generalize rep16 100 = rd at *
  have hRf := Below.refl w.heap.size w
  clear hk hx0 hx1 hx2 hx3 s1 s2 hn0 hn1
  unfold BoolPost
  go_enter Tryd.func73, Tryd.ntmps73
  go_wp2_with (first
    | (go_at_call 134; with_reducible refine (H0.out _).mono ?_; rintro e w1 ⟨rfl, hB1⟩)
    | (go_at_call 134; with_reducible refine (Hc.out _).mono ?_; rintro e w2 ⟨rfl, hB2⟩; have hC2 := hB1.trans (hB2.mono hB1.size))
    | (go_at_call 134; with_reducible refine (H1.out _).mono ?_; rintro e w3 ⟨rfl, hB3⟩)
    | (go_at_call 134; with_reducible refine (Hd.out _).mono ?_; rintro e w4 ⟨rfl, hB4⟩; have hC3 : Below w.heap.size w (w2.alloc (.cells #[.string r0, .string rc] 49)) := hC2.alloc hC2.size _; have hX3 := Pair.new w2 (.string r0) (.string rc) 49; have hG4 := hB3.trans (hB4.mono hB3.size); have hC4 := hC3.trans (hG4.mono hC3.size); have hX4 := hX3.mono hG4; have hX5 := hX4.mono ((Below.refl _ _).alloc (Nat.le_refl _) (.cells #[.string r1, .string rd] 49)); have hY5 := Pair.new w4 (.string r1) (.string rd) 49; have hC5 : Below w.heap.size w (w4.alloc (.cells #[.string r1, .string rd] 49)) := hC4.alloc hC4.size _; have HX5 := Lib.hid hX5; have HY5 := Lib.hid hY5; obtain ⟨a0, a1⟩ := hX5; obtain ⟨b0, b1⟩ := hY5; clear hG4 hB3 hB4 hX3 hX4))
  have hb6 : Below (w4.alloc (.cells #[.string r1, .string rd] 49)).heap.size (w4.alloc (.cells #[.string r1, .string rd] 49)) ((w4.alloc (.cells #[.string r1, .string rd] 49)).alloc (.cells #[.string r0, .string rc, .string r1, .string rd] 49)) := (Below.refl _ _).alloc (Nat.le_refl _) _
  refine (HR.out _ _ (by simp) hC5).mono ?_
  rintro e w6 ⟨rfl, hB6⟩
  have hG6 := hb6.trans (hB6.mono hb6.size)
  have hC6 := hC5.trans (hG6.mono hC5.size)
  have hX6 := Lib.hid (HX5.out.mono hG6)
  have hY6 := Lib.hid (HY5.out.mono hG6)
  clear hG6 hB6 hb6 a0 a1 b0 b1
  go_wp2_with (go_at_call 79; refine (HE.out _ hC6).mono ?_; rintro e w7 ⟨rfl, hB7⟩; have hC7 := hC6.trans (hB7.mono hC6.size); have hX7 := hX6.out.mono hB7; have hY7 := hY6.out.mono hB7; obtain ⟨a0, a1⟩ := hX7; obtain ⟨b0, b1⟩ := hY7)
  have y0 := fun x : Grown w7 => x.cell a0
  have y1 := fun x : Grown w7 => x.cell a1
  have y2 := fun x : Grown w7 => x.cell b0
  have y3 := fun x : Grown w7 => x.cell b1
  have G0 := (Below.refl w7.heap.size w7).drew
  have hS := InGrown.of G0
  clear hC5 hC4 hC3 hC2 HX5 HY5
  refine wp_region_D (fun _ => true) (InGrown w7) 34 (by kernel_rfl) rfl ?_
  refine wpAnyD_take (i := 0) 34 (v := ?_) rfl (by kernel_rfl) (fun _ _ _ h => h) (InGrown.of G0) (Or.inl ⟨by first | kernel_rfl | rfl, ?_⟩) ?_
  case refine_2 => (rintro _ ⟨x, rfl⟩; go_simp <;> with_reducible rfl)
  refine wpAnyD_take (i := 1) 34 (v := ?_) rfl (by kernel_rfl) (fun _ _ _ h => h) (InGrown.of G0) (Or.inl ⟨by first | kernel_rfl | rfl, ?_⟩) ?_
  case refine_2 => (rintro _ ⟨x, rfl⟩; go_simp <;> with_reducible rfl)
  refine wpAnyD_take (i := 2) 34 (v := ?_) rfl (by kernel_rfl) (fun _ _ _ h => h) (InGrown.of G0) (Or.inl ⟨by first | kernel_rfl | rfl, ?_⟩) ?_
  case refine_2 => (rintro _ ⟨x, rfl⟩; go_simp <;> with_reducible rfl)
  refine wpAnyD_take (i := 3) 34 (v := ?_) rfl (by kernel_rfl) (fun _ _ _ h => h) (InGrown.of G0) (Or.inl ⟨by first | kernel_rfl | rfl, ?_⟩) ?_
  case refine_2 => (rintro _ ⟨x, rfl⟩; go_simp <;> with_reducible rfl)
  refine wpAnyD_take (i := 4) 34 (v := ?_) rfl (by kernel_rfl) (fun _ _ _ h => h) (InGrown.of G0) (Or.inl ⟨by first | kernel_rfl | rfl, ?_⟩) ?_
  case refine_2 => (rintro _ ⟨x, rfl⟩; go_simp <;> with_reducible rfl)
  refine wpAnyD_take (i := 5) 34 (v := ?_) rfl (by kernel_rfl) (fun _ _ _ h => h) (InGrown.of G0) (Or.inl ⟨by first | kernel_rfl | rfl, ?_⟩) ?_
  case refine_2 => (rintro _ ⟨x, rfl⟩; go_simp <;> with_reducible rfl)
  refine wpAnyD_take (i := 6) 34 (v := ?_) rfl (by kernel_rfl) (fun _ _ _ h => h) (InGrown.of G0) (Or.inl ⟨by first | kernel_rfl | rfl, ?_⟩) ?_
  case refine_2 => (rintro _ ⟨x, rfl⟩; go_simp <;> with_reducible rfl)
  refine wpAnyD_take (i := 7) 34 (v := ?_) rfl (by kernel_rfl) (fun _ _ _ h => h) (InGrown.of G0) (Or.inl ⟨by first | kernel_rfl | rfl, ?_⟩) ?_
  case refine_2 => (rintro _ ⟨x, rfl⟩; go_simp <;> with_reducible rfl)
  refine wpAnyD_take (i := 9) 34 (v := ?_) rfl (by kernel_rfl) (fun _ _ _ h => h) (InGrown.of G0) (Or.inl ⟨by first | kernel_rfl | rfl, ?_⟩) ?_
  case refine_2 => (rintro _ ⟨x, rfl⟩; go_simp <;> with_reducible rfl)
  refine wpAnyD_take (i := 10) 34 (v := ?_) rfl (by kernel_rfl) (fun _ _ _ h => h) (InGrown.of G0) (Or.inl ⟨by first | kernel_rfl | rfl, ?_⟩) ?_
  case refine_2 => (rintro _ ⟨x, rfl⟩; go_simp <;> with_reducible rfl)
  refine wpAnyD_take (i := 11) 34 (v := ?_) rfl (by kernel_rfl) (fun _ _ _ h => h) (InGrown.of G0) (Or.inl ⟨by first | kernel_rfl | rfl, ?_⟩) ?_
  case refine_2 => (rintro _ ⟨x, rfl⟩; go_simp <;> with_reducible rfl)
  refine wpAnyD_take (i := 12) 34 (v := ?_) rfl (by kernel_rfl) (fun _ _ _ h => h) (InGrown.of G0) (Or.inl ⟨by first | kernel_rfl | rfl, ?_⟩) ?_
  case refine_2 => (rintro _ ⟨x, rfl⟩; go_simp <;> with_reducible rfl)
  refine wpAnyD_take (i := 16) 34 (v := ?_) rfl (by kernel_rfl) (fun _ _ _ h => h) (InGrown.of G0) (Or.inl ⟨by first | kernel_rfl | rfl, ?_⟩) ?_
  case refine_2 => (rintro _ ⟨x, rfl⟩; go_simp <;> with_reducible rfl)
  refine wpAnyD_take (i := 17) 34 (v := ?_) rfl (by kernel_rfl) (fun _ _ _ h => h) (InGrown.of G0) (Or.inl ⟨by first | kernel_rfl | rfl, ?_⟩) ?_
  case refine_2 => (rintro _ ⟨x, rfl⟩; go_simp <;> with_reducible rfl)
  refine wpAnyD_take (i := 18) 34 (v := ?_) rfl (by kernel_rfl) (fun _ _ _ h => h) (InGrown.of G0) (Or.inl ⟨by first | kernel_rfl | rfl, ?_⟩) ?_
  case refine_2 => (rintro _ ⟨x, rfl⟩; go_simp <;> with_reducible rfl)
  refine wpAnyD_take (i := 19) 34 (v := ?_) rfl (by kernel_rfl) (fun _ _ _ h => h) (InGrown.of G0) (Or.inl ⟨by first | kernel_rfl | rfl, ?_⟩) ?_
  case refine_2 => (rintro _ ⟨x, rfl⟩; go_simp <;> with_reducible rfl)
  refine wpAnyD_step 8 (by kernel_rfl) rfl (fun K hK => ?_)
  go_simp
  (go_at_call 19; with_reducible refine (HN.out 1 _ (by decide) (by decide)).mono ?_; rintro e v1 ⟨rfl, hD1⟩; have G1 := G0.trans (hD1.mono G0.size))
  dsimp only
  refine hK _ _ ⟨fun _ => ?_, ?_⟩
  rotate_left
  clear hK K
  case refine_1 => exact .of (G1)
  refine wpAnyD_step 13 (by kernel_rfl) rfl (fun K hK => ?_)
  go_simp
  refine hK _ _ ⟨fun _ => ?_, ?_⟩
  rotate_left
  clear hK K
  case refine_1 => exact .of (G1.alloc G1.size _)
  refine wpAnyD_step 14 (by kernel_rfl) rfl (fun K hK => ?_)
  go_simp
  (go_at_call 21; with_reducible refine (HM1.out _ (hC7.trans (G1.mono hC7.size))).mono ?_; rintro e v2 ⟨rfl, hD2⟩; have G2 := G1.trans (hD2.mono G1.size))
  dsimp only
  refine hK _ _ ⟨fun _ => ?_, ?_⟩
  rotate_left
  clear hK K
  case refine_1 => exact .of (G2)
  refine wpAnyD_step 15 (by kernel_rfl) rfl (fun K hK => ?_)
  go_simp
  (go_at_call 19; with_reducible refine (HN.out 1 _ (by decide) (by decide)).mono ?_; rintro e v3 ⟨rfl, hD3⟩; have G3 := G2.trans (hD3.mono G2.size))
  dsimp only
  refine hK _ _ ⟨fun _ => ?_, ?_⟩
  rotate_left
  clear hK K
  case refine_1 => exact .of (G3)
  refine wpAnyD_step 20 (by kernel_rfl) rfl (fun K hK => ?_)
  go_simp
  refine hK _ _ ⟨fun _ => ?_, ?_⟩
  rotate_left
  clear hK K
  case refine_1 => exact .of (G3.alloc G3.size _)
  refine wpAnyD_step 21 (by kernel_rfl) rfl (fun K hK => ?_)
  go_simp
  (go_at_call 21; with_reducible refine (HM2.out _ (hC7.trans (G3.mono hC7.size))).mono ?_; rintro e v4 ⟨rfl, hD4⟩; have G4 := G3.trans (hD4.mono G3.size))
  dsimp only
  refine hK _ _ ⟨fun _ => ?_, ?_⟩
  rotate_left
  clear hK K
  case refine_1 => exact .of (G4)
  refine wpAnyD_step 22 (by kernel_rfl) rfl (fun K hK => ?_)
  go_simp
  refine hK _ _ ⟨fun _ => ?_, ?_⟩
  rotate_left
  clear hK K
  case refine_1 => exact .of (G4.alloc G4.size _)
  refine wpAnyD_step 23 (by kernel_rfl) rfl (fun K hK => ?_)
  go_simp
  (go_at_call 21; with_reducible refine (HM3.out _ (hC7.trans (G4.mono hC7.size))).mono ?_; rintro e v5 ⟨rfl, hD5⟩; have G5 := G4.trans (hD5.mono G4.size))
  dsimp only
  refine hK _ _ ⟨fun _ => ?_, ?_⟩
  rotate_left
  clear hK K
  case refine_1 => exact .of (G5)
  refine wpAnyD_take (i := 24) 34 (v := ?_) rfl (by kernel_rfl) (fun _ _ _ h => h) (InGrown.of G5) (Or.inl ⟨by first | kernel_rfl | rfl, ?_⟩) ?_
  case refine_2 => (rintro _ ⟨x, rfl⟩; go_simp <;> with_reducible rfl)
  refine wpAnyD_take (i := 25) 34 (v := ?_) rfl (by kernel_rfl) (fun _ _ _ h => h) (InGrown.of G5) (Or.inl ⟨by first | kernel_rfl | rfl, ?_⟩) ?_
  case refine_2 => (rintro _ ⟨x, rfl⟩; go_simp <;> with_reducible rfl)
  refine wpAnyD_take (i := 26) 34 (v := ?_) rfl (by kernel_rfl) (fun _ _ _ h => h) (InGrown.of G5) (Or.inl ⟨by first | kernel_rfl | rfl, ?_⟩) ?_
  case refine_2 => (rintro _ ⟨x, rfl⟩; go_simp <;> with_reducible rfl)
  refine wpAnyD_take (i := 27) 34 (v := ?_) rfl (by kernel_rfl) (fun _ _ _ h => h) (InGrown.of G5) (Or.inl ⟨by first | kernel_rfl | rfl, ?_⟩) ?_
  case refine_2 => (rintro _ ⟨x, rfl⟩; go_simp <;> with_reducible rfl)
  refine wpAnyD_step 28 (by kernel_rfl) rfl (fun K hK => ?_)
  go_simp
  (go_at_call 19; with_reducible refine (HN.out 0 _ (by decide) (by decide)).mono ?_; rintro e v6 ⟨rfl, hD6⟩; have G6 := G5.trans (hD6.mono G5.size))
  dsimp only
  refine hK _ _ ⟨fun _ => ?_, ?_⟩
  rotate_left
  clear hK K
  case refine_1 => exact .of (G6)
  refine wpAnyD_step 29 (by kernel_rfl) rfl (fun K hK => ?_)
  go_simp
  refine hK _ _ ⟨fun _ => ?_, ?_⟩
  rotate_left
  clear hK K
  case refine_1 => exact .of (G6.alloc G6.size _)
  refine wpAnyD_step 30 (by kernel_rfl) rfl (fun K hK => ?_)
  go_simp
  (go_at_call 21; with_reducible refine (HM4.out _ (hC7.trans (G6.mono hC7.size))).mono ?_; rintro e v7 ⟨rfl, hD7⟩; have G7 := G6.trans (hD7.mono G6.size))
  dsimp only
  refine hK _ _ ⟨fun _ => ?_, ?_⟩
  rotate_left
  clear hK K
  case refine_1 => exact .of (G7)
  refine wpAnyD_take (i := 31) 34 (v := ?_) rfl (by kernel_rfl) (fun _ _ _ h => h) (InGrown.of G7) (Or.inl ⟨by first | kernel_rfl | rfl, ?_⟩) ?_
  case refine_2 => (rintro _ ⟨x, rfl⟩; go_simp <;> with_reducible rfl)
  refine wpAnyD_take (i := 32) 34 (v := ?_) rfl (by kernel_rfl) (fun _ _ _ h => h) (InGrown.of G7) (Or.inl ⟨by first | kernel_rfl | rfl, ?_⟩) ?_
  case refine_2 => (rintro _ ⟨x, rfl⟩; go_simp <;> with_reducible rfl)
  refine wpAnyD_take (i := 33) 34 (v := ?_) rfl (by kernel_rfl) (fun _ _ _ h => h) (InGrown.of G7) (Or.inl ⟨by first | kernel_rfl | rfl, ?_⟩) ?_
  case refine_2 => (rintro _ ⟨x, rfl⟩; go_simp <;> with_reducible rfl)
  refine wpAnyD_done (by kernel_rfl) ?_
  go_wp2_with fail
  go_ret
  exact ⟨rfl, hC7.trans (G7.mono hC7.size)⟩
end Go.Proofs.YtfhjnfocmlndpaaDoor
