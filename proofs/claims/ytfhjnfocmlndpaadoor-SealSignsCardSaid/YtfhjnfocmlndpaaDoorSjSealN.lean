/- seal.New: the box of eight keys, row over row. -/
import Derived.Test.YtfhjnfocmlndpaaDoorSjSealNo
namespace Go.Proofs.YtfhjnfocmlndpaaDoor
open Go Go.RowKit Go.Proofs Go.Shelf
attribute [local go_sem] Oper.semAt_some

set_option maxRecDepth 100000 in
set_option maxHeartbeats 4000000 in
theorem new_ok (seed : ByteArray) (w : World) (h16 : seed.size = 16) (hk : KAt w 0) : Calls Tryd.prog 52 #[.string seed] w (BoxPost seed w) := by
  have Hk := Lib.hid hk
  have HP := Lib.hid (fun (k : Nat) W (h : k < 8) (hW : Below w.heap.size w W) => public_ok seed k W h16 (by omega) (by omega) (hk.mono hW))
  have HN := Lib.hid (fun (k : Nat) W (h : k < 8) => num_any k W (by omega) (by omega))
  have HM := Lib.hid (fun (k : Nat) (x : ByteArray) W (hx : x.size = 16) (hW : Below w.heap.size w W) => mark2 116 116 rfl (numS k) x W (by rw [numS_size]; decide) (by omega) (hk.mono hW))
  clear hk
  refine (callsIn_wide (n := 5)).1 ?_
  refine callsIn_of_wp_marks Tryd.func52 rfl trivial ?_ rfl
  simp only [Tryd.ntmps52, List.size_toArray, List.length_cons, List.length_nil, Nat.reduceAdd, Nat.reduceSub, Array.replicate_succ, Array.replicate_zero, List.push_toArray, List.append_toArray, List.nil_append, List.cons_append]
  refine wpIn_wide.2 ?_
  go_wp2_with fail
  go_loopw [4, 11] (fun v i wr => ∃ k : Nat, k ≤ 8 ∧ i = .int .i64 k ∧ Own wr w.heap.size 9 1 v k (strV (leafR seed k)) ∧ Below w.heap.size w wr) (fun _ i _ => 8 - (intOf i).toNat)
  case atStart => exact ⟨0, by omega, rfl, Own.nil _ _ _ _, Below.refl _ _⟩
  case round =>
    obtain ⟨k, hk, rfl, hO, hB⟩ := hrel
    have HO := Lib.hid hO
    have HB := Lib.hid hB
    clear hO hB
    by_cases hlt : k < 8
    · have e1 : (k : Int) < 8 := by omega
      have hp16 : (pubS seed k).size = 16 := markS_size _ _
      have HPk := Lib.hid (HP.out k wr hlt HB.out)
      have HMk := Lib.hid (fun W hW => HM.out k (pubS seed k) W hp16 hW)
      have HE : Hid (markS 116 [numS k, pubS seed k] = keyT k (pubS seed k)) := rfl
      rw [HE.out] at HMk
      have HL := Lib.hid (leafR_succ seed k)
      generalize keyT k (pubS seed k) = T at *
      generalize pubS seed k = x at *
      go_wp2_with (first
        | (go_at_call 25; refine HPk.out.mono ?_; rintro e w1 ⟨rfl, hB1⟩; have hC1 := HB.out.trans (hB1.mono HB.out.size))
        | (go_at_call 19; refine (HN.out k _ hlt).mono ?_; rintro e w2 ⟨rfl, hB2⟩; have hC2 := hC1.trans (hB2.mono hC1.size))
        | (go_at_call 21; refine (HMk.out _ hC2).mono ?_; rintro e w3 ⟨rfl, hB3⟩; have hG := hB1.trans ((hB2.trans (hB3.mono hB2.size)).mono hB1.size); have hOw := HO.out.below hG (fun j hj => (HO.out.lt j hj).2); have hbw := Nat.le_trans HB.out.size hG.size)
        | (at_builtin; refine app_lit rfl _ _ 22 rfl w.heap.size 9 (.string ⟨#[]⟩) 1 16 u_strs i_str rfl (by decide) _ _ _ rfl hOw 1 _ rfl rfl (by intro u hu; simp at hu; subst hu; rfl) (by omega) (by omega) hbw ?_; intro v1 w4 hown1 hgrow1))
      have hrow : ∀ j, u4.ownBlock = some j → w.heap.size ≤ j := fun j hj => (HO.out.lt j hj).1
      go_roundw
      case rel =>
        refine ⟨k + 1, hlt, by go_num, ?_, (HB.out.trans (hG.mono HB.out.size)).grown hgrow1 hbw hrow⟩
        rw [HL.out, strV_snoc]
        exact hown1
      case measure => simp [intOf]; omega
    · have e1 : ¬ (k : Int) < 8 := by omega
      obtain rfl : k = 8 := by omega
      obtain ⟨hl0, hl1, hl2, hl3⟩ := rowR_length seed
      obtain ⟨g0, c0, rfl, hgb0, hgl0, hc8, -⟩ := HO.out.some_ (by omega)
      have HR0 : Hid (Own wr w.heap.size 9 1 (.slice (some ⟨g0, 0, none⟩) 8 c0) 8 (strV (rowR seed 0))) := HO.out
      have HC8 := Lib.hid hc8
      clear hc8
      clear HO HP HN HM
      go_wp2_with fail
      have hcs := CellO.new0 wr (.string seed) (.slice none 0 0) 176
      have hB0 : Below w.heap.size w (wr.alloc (.cells #[.string seed, .slice none 0 0] 176)) := HB.out.alloc HB.out.size _
      have hR1 : Own (wr.alloc (.cells #[.string seed, .slice none 0 0] 176)) w.heap.size 9 1 (.slice (some ⟨g0, 0, none⟩) 8 c0) 8 (strV (rowR seed 0)) := HR0.out.alloc _
      have hBz : wr.heap.size < (wr.alloc (.cells #[.string seed, .slice none 0 0] 176)).heap.size := by simp
      obtain ⟨B, hB⟩ : ∃ B, B = wr.heap.size := ⟨_, rfl⟩
      have HBb : Hid (w.heap.size ≤ B) := by unfold Hid; rw [hB]; exact HB.out.size
      rw [← hB] at hcs hBz hgl0 ⊢
      generalize wr.alloc (.cells #[.string seed, .slice none 0 0] 176) = W0 at hcs hB0 hR1 hBz ⊢
      have HBW0 := Lib.hid hB0
      have HRd0 := Lib.hid hR1
      have HCs0 := Lib.hid hcs.1
      have HCr0 := Lib.hid hcs.2
      have HOr0 : Hid (Own W0 w.heap.size 22 1 (.slice none 0 0) 0 []) := Own.nil _ _ _ _
      clear hB hcs hB0 hR1 HB HR0
      have HSt0 : Hid (BoxSt w W0 B seed (.slice none 0 0) 0 []) := ⟨HCs0.out, HCr0.out, HOr0.out, by simp [Value.ownBlock], HBb.out, HBW0.out⟩
      have HR0_0 : Hid (RowSt w W0 B (.slice none 0 0) (.slice (some ⟨g0, 0, none⟩) 8 c0) (rowR seed 0)) := ⟨by rw [hl0]; exact HRd0.out, by simp only [Value.ownBlock, ne_eq, Option.some.injEq]; omega, .inr (by simp [Value.ownBlock])⟩
      have HC0 := Lib.hid HC8.out
      clear HRd0 HCs0 HCr0 HOr0 HBW0 HC8 hBz hgl0
      refine wp_loop_rounds 4 ?_
      rw [rounds_succ]
      have pr0 := HSt0.out.cr.c
      have hbs0 := HSt0.out.below.size
      go_wp2_with (first
        | (at_builtin; refine app_lit2 rfl _ _ 44 rfl w.heap.size 22 _ 1 24 u_textss i_texts rfl (by decide) (.slice none 0 0) 0 [] rfl HSt0.out.own 1 _ rfl rfl (by intro u hu; simp at hu; subst hu; rfl) (by omega) (by omega) hbs0 ?_; intro rvn Wa0 hO hG hob; obtain ⟨gr0, kr0, rfl, -⟩ := hO.some_ (Nat.succ_pos _); have cr := HSt0.out.cr.grown hG HSt0.out.ne; have crk := cr; obtain ⟨q1, f1⟩ := crk)
        | (go_at_call 130; refine ((callsIn_wide (n := 4)).1 (chunk_in 4 _ _ _ _)).mono ?_; rintro e w' ⟨rfl, rfl⟩))
      have HT0 := Lib.hid (HSt0.out.push hG hO hob)
      have HQ0_0 := Lib.hid (HR0_0.out.push hG hob)
      have hBWl : B < Wa0.heap.size := cr.lt
      have hsz : (Wa0.setCell ⟨B, 1, none⟩ (.slice (some ⟨gr0, 0, none⟩) 1 kr0)).heap.size = Wa0.heap.size := by simp
      obtain ⟨N0, hN⟩ : ∃ N, N = Wa0.heap.size := ⟨_, rfl⟩
      rw [← hN] at hBWl hsz ⊢
      generalize Wa0.setCell ⟨B, 1, none⟩ (.slice (some ⟨gr0, 0, none⟩) 1 kr0) = Wb0 at HT0 HQ0_0 hsz ⊢
      have hsz0 := hsz
      skip
      clear hO hG hob cr q1 f1 hN pr0 hbs0 hsz
      have cu := CellO.new1 Wb0 (.slice none 0 0) 22
      have cs := CellO.new1 (Wb0.alloc (.cells #[.slice none 0 0] 22)) (.slice (some ⟨g0, 0, none⟩) 8 c0) 22
      have cn := CellO.new1 ((Wb0.alloc (.cells #[.slice none 0 0] 22)).alloc (.cells #[.slice (some ⟨g0, 0, none⟩) 8 c0] 22)) (.int .i64 2) 3
      have cu1 := cu.mono ((Below.refl ((Wb0.alloc (.cells #[.slice none 0 0] 22)).heap.size) _).alloc (Nat.le_refl _) (.cells #[.slice (some ⟨g0, 0, none⟩) 8 c0] 22)) cu.lt
      have cu2 := cu1.mono ((Below.refl (((Wb0.alloc (.cells #[.slice none 0 0] 22)).alloc (.cells #[.slice (some ⟨g0, 0, none⟩) 8 c0] 22)).heap.size) _).alloc (Nat.le_refl _) (.cells #[.int .i64 2] 3)) cu1.lt
      have cs2 := cs.mono ((Below.refl (((Wb0.alloc (.cells #[.slice none 0 0] 22)).alloc (.cells #[.slice (some ⟨g0, 0, none⟩) 8 c0] 22)).heap.size) _).alloc (Nat.le_refl _) (.cells #[.int .i64 2] 3)) cs.lt
      have hBV : Below N0 Wb0 (((Wb0.alloc (.cells #[.slice none 0 0] 22)).alloc (.cells #[.slice (some ⟨g0, 0, none⟩) 8 c0] 22)).alloc (.cells #[.int .i64 2] 3)) := (((Below.refl _ _).alloc (by omega) _).alloc (by simp; omega) _).alloc (by simp; omega) _
      simp only [World.size_alloc, hsz0] at cs2 cn cu2
      generalize ((Wb0.alloc (.cells #[.slice none 0 0] 22)).alloc (.cells #[.slice (some ⟨g0, 0, none⟩) 8 c0] 22)).alloc (.cells #[.int .i64 2] 3) = V0 at cu2 cs2 cn hBV ⊢
      clear cu cs cu1
      have HBV := Lib.hid hBV
      have Hcu := Lib.hid cu2
      have hw1 : N0 + 1 < V0.heap.size := cs2.lt
      have hw2 : N0 + 2 < V0.heap.size := cn.lt
      have hw3 : N0 ≤ V0.heap.size := by omega
      refine (wpIn_wide (n := 5)).1 ?_
      refine wpIn_rangeFunc_ownG rfl (by omega) (gf := 156) (lb := #[.pointer (some ⟨N0 + 1, 0, none⟩), .pointer (some ⟨N0 + 1 + 1, 0, none⟩)]) rfl trivial (enters_of Tryd.func156 (by kernel_rfl) rfl)
        (chunk_stops (fun x : {j : Nat // j < 4} => x.val) (finOf 4 (by decide)) 4 4 (fun j hj => finOf_is _ hj) (by decide) (N0 + 1) (N0 + 1 + 1) N0 g0 0 c0 (by decide) HC0.out V0 hw1 hw2 hw3 cs2.c cn.c) kpC_t (kpC_b hw3 hw1 hw2) (Below.refl _ _) (fun _ => rfl)
        (fun pre W => RowIn Wb0 N0 N0 (N0 + 1) (N0 + 1 + 1) (rowR seed 0) (.slice (some ⟨g0, 0, none⟩) 8 c0) pre W ∧ Below N0 Wb0 W) (fun _ _ _ => False)
        (OwnFrom.and (rowIn_from _ _ _ _ _ _ _ _ _) (ownFrom_below (by omega) hw3)) (fun _ _ _ _ _ hs _ _ => hs)
        ⟨⟨⟨.slice none 0 0, Hcu.out, Own.nil _ _ _ _, by simp [Value.ownBlock], by simp [Value.ownBlock], by simp [Value.ownBlock]⟩, cs2.c, cn.c⟩, HBV.out⟩ ?a1_0 ?assign_0 ?body_0 ?done_0 ?stop_0
      case assign_0 =>
        intro l x W K hK
        gi_wp2
        exact hK
      case body_0 =>
        rintro l pre x W ⟨⟨⟨uv, hu, hO, n1, n2, n3⟩, hs, hn⟩, hBW⟩ hlen
        have HHu := Lib.hid hu
        have HHO := Lib.hid hO
        have HHB := Lib.hid hBW
        have hx1 : 2 * x.val < (rowR seed 0).length := by have := x.2; omega
        have hx2 : 2 * x.val + 1 < (rowR seed 0).length := by have := x.2; omega
        obtain ⟨p1, hp1⟩ : ∃ p, (rowR seed 0)[2 * x.val]? = some p := ⟨_, List.getElem?_eq_getElem hx1⟩
        obtain ⟨p2, hp2⟩ : ∃ p, (rowR seed 0)[2 * x.val + 1]? = some p := ⟨_, List.getElem?_eq_getElem hx2⟩
        have hz1 : p1.size = 16 := rowR_size seed 0 _ (List.mem_of_getElem? hp1)
        have hz2 : p2.size = 16 := rowR_size seed 0 _ (List.mem_of_getElem? hp2)
        have hpair : Hid (pairR (rowR seed 0) x.val = upM p1 p2) := by unfold Hid pairR; rw [hp1, hp2]; rfl
        have hgN : g0 < N0 := by have := (HQ0_0.out.own.lt g0 rfl).2; omega
        have d1 : W.cell? ⟨g0, 2 * x.val, none⟩ = some (.string p1) := by rw [hBW.cell (by exact hgN)]; exact HQ0_0.out.own.cell (g := g0) rfl (by unfold strV; rw [List.getElem?_map, hp1]; rfl)
        have d2 : W.cell? ⟨g0, 2 * x.val + 1, none⟩ = some (.string p2) := by rw [hBW.cell (by exact hgN)]; exact HQ0_0.out.own.cell (g := g0) rfl (by unfold strV; rw [List.getElem?_map, hp2]; rfl)
        have HMk := Lib.hid (fun Wq (hWq : Below W.heap.size W Wq) => mark2 117 117 rfl p1 p2 Wq (by omega) (by omega) (Hk.out.mono (HT0.out.below.trans ((hBW.trans (hWq.mono (by have := hBW.size; omega))).mono (by have := HT0.out.below.size; omega)))))
        have y0 := fun z : Grown W => z.cell hu.c
        have y1 := fun z : Grown W => z.cell d1
        have y2 := fun z : Grown W => z.cell d2
        have hS := InGrown.drew W
        have G0 := (Below.refl W.heap.size W).drew
        clear hu hO hBW hp1 hp2 hx1 hx2
        gi_wp2_with fail
        refine wpIn_region_D (fun j => decide (j < 10)) (InGrown W) 12 (by kernel_rfl) (by rintro ⟨a, w, h⟩; exact h) (by kernel_rfl) rfl ?_
        refine wpAnyD_take (i := 0) 12 (v := ?_) rfl (by kernel_rfl) (fun _ _ _ h => h) (hS) (Or.inl ⟨by first | kernel_rfl | rfl, ?_⟩) ?_
        case refine_2 => (rintro _ ⟨z, rfl⟩; go_simp <;> with_reducible rfl)
        refine wpAnyD_take (i := 1) 12 (v := ?_) rfl (by kernel_rfl) (fun _ _ _ h => h) (hS) (Or.inl ⟨by first | kernel_rfl | rfl, ?_⟩) ?_
        case refine_2 => (rintro _ ⟨z, rfl⟩; go_simp <;> with_reducible rfl)
        refine wpAnyD_take (i := 2) 12 (v := ?_) rfl (by kernel_rfl) (fun _ _ _ h => h) (hS) (Or.inl ⟨by first | kernel_rfl | rfl, ?_⟩) ?_
        case refine_2 => (rintro _ ⟨z, rfl⟩; go_simp <;> with_reducible rfl)
        refine wpAnyD_take (i := 3) 12 (v := ?_) rfl (by kernel_rfl) (fun _ _ _ h => h) (hS) (Or.inl ⟨by first | kernel_rfl | rfl, ?_⟩) ?_
        case refine_2 => (rintro _ ⟨z, rfl⟩; go_simp <;> with_reducible rfl)
        refine wpAnyD_take (i := 4) 12 (v := ?_) rfl (by kernel_rfl) (fun _ _ _ h => h) (hS) (Or.inl ⟨by first | kernel_rfl | rfl, ?_⟩) ?_
        case refine_2 => (rintro _ ⟨z, rfl⟩; go_simp <;> with_reducible rfl)
        refine wpAnyD_take (i := 5) 12 (v := ?_) rfl (by kernel_rfl) (fun _ _ _ h => h) (hS) (Or.inl ⟨by first | kernel_rfl | rfl, ?_⟩) ?_
        case refine_2 => (rintro _ ⟨z, rfl⟩; go_simp <;> with_reducible rfl)
        refine wpAnyD_take (i := 6) 12 (v := ?_) rfl (by kernel_rfl) (fun _ _ _ h => h) (hS) (Or.inl ⟨by first | kernel_rfl | rfl, ?_⟩) ?_
        case refine_2 => (rintro _ ⟨z, rfl⟩; go_simp <;> with_reducible rfl)
        refine wpAnyD_step 7 (by kernel_rfl) rfl (fun K hK => ?_)
        go_simp
        refine hK _ _ ⟨fun _ => ?_, ?_⟩
        rotate_left
        clear hK K
        case refine_1 => exact .of (G0.alloc G0.size _)
        refine wpAnyD_step 8 (by kernel_rfl) rfl (fun K hK => ?_)
        go_simp
        (go_at_call 21; refine (HMk.out _ G0).mono ?_; rintro e w3 ⟨rfl, hB3⟩; have G3 := G0.trans (hB3.mono G0.size))
        dsimp only
        refine hK _ _ ⟨fun _ => ?_, ?_⟩
        rotate_left
        clear hK K
        case refine_1 => exact .of G3
        refine wpAnyD_step 9 (by kernel_rfl) rfl (fun K hK => ?_)
        go_simp
        refine hK _ _ ⟨fun _ => ?_, ?_⟩
        rotate_left
        clear hK K
        case refine_1 => exact .of (G3.alloc G3.size _)
        refine wpAnyD_rest 10 (by kernel_rfl) (by kernel_rfl) ?_
        simp only [List.drop_succ_cons, List.drop_zero]
        have hu3 := HHu.out.mono G3 HHu.out.lt
        have hO3 := HHO.out.below G3 (fun j hj => (HHO.out.lt j hj).2)
        have HO3 := Lib.hid hO3
        have hbase : N0 ≤ w3.heap.size := Nat.le_trans (Nat.le_of_lt HHu.out.lt) G3.size
        have HM : Hid (markS 117 [p1, p2] = upM p1 p2) := rfl
        rw [HM.out]
        generalize upM p1 p2 = M at *
        have Hlen := Lib.hid hlen
        clear y0 y1 y2 hS hO3 d1 d2
        refine app_lit2 rfl _ _ 22 rfl N0 9 _ 1 16 u_strs i_str rfl (by decide) uv pre.length _ ?hs_0 HO3.out 1 _ ?hx_0 ?hl_0 ?h1_0 ?hn_0 ?hb_0 hbase ?_
        case hs_0 => rfl
        case hx_0 => rfl
        case hl_0 => rfl
        case h1_0 => (intro u hu; simp at hu; subst hu; rfl)
        case hn_0 => (have := Hlen.out; omega)
        case hb_0 => (have := Hlen.out; omega)
        intro v4 w4 hO4 hG4 hob4
        obtain ⟨g4, k4, rfl, -⟩ := hO4.some_ (Nat.succ_pos _)
        have hu4 := hu3.grown hG4 n1
        have hu4k := hu4
        obtain ⟨q4, f4⟩ := hu4k
        go_wp2_with fail
        have hbs : N0 + 1 < W.heap.size := World.block_lt_of_cell? W ⟨N0 + 1, 0, none⟩ hs
        have hbn : N0 + 1 + 1 < W.heap.size := World.block_lt_of_cell? W ⟨N0 + 1 + 1, 0, none⟩ hn
        have hg4 : g4 ≠ N0 ∧ g4 ≠ N0 + 1 ∧ g4 ≠ N0 + 1 + 1 := by
          rcases hob4 g4 rfl with h | h
          · exact ⟨fun e => n1 (by rw [h, e]), fun e => n2 (by rw [h, e]), fun e => n3 (by rw [h, e])⟩
          · have := G3.size
            exact ⟨by omega, by omega, by omega⟩
        have hsz3 := G3.size
        have hs4 : (w4.setCell ⟨N0, 0, none⟩ (.slice (some ⟨g4, 0, none⟩) (pre.length + 1) k4)).cell? ⟨N0 + 1, 0, none⟩ = some (.slice (some ⟨g0, 0, none⟩) 8 c0) := by
          rw [World.cell?_setCell_other _ _ _ _ (by simp), World.cell?_of_block (a := ⟨N0 + 1, 0, none⟩) (hG4.block _ (by show N0 + 1 < w3.heap.size; omega) (fun e => n2 e.symm)), G3.cell (by exact hbs)]
          exact hs
        have hn4 : (w4.setCell ⟨N0, 0, none⟩ (.slice (some ⟨g4, 0, none⟩) (pre.length + 1) k4)).cell? ⟨N0 + 1 + 1, 0, none⟩ = some (.int .i64 2) := by
          rw [World.cell?_setCell_other _ _ _ _ (by simp), World.cell?_of_block (a := ⟨N0 + 1 + 1, 0, none⟩) (hG4.block _ (by show N0 + 1 + 1 < w3.heap.size; omega) (fun e => n3 e.symm)), G3.cell (by exact hbn)]
          exact hn
        have hNw : Below N0 W (w4.setCell ⟨N0, 0, none⟩ (.slice (some ⟨g4, 0, none⟩) (pre.length + 1) k4)) :=
          below_set (((G3.mono (Nat.le_of_lt HHu.out.lt))).grown hG4 hbase (fun j hj => (HO3.out.lt j hj).1)) (Nat.le_refl _) _
        refine ⟨(KeepsFrom.of_grownBy (grown_below G3 none) (fun j e => by cases e)).trans (((keeps_grown hG4 (own_cells HO3.out)).trans (KeepsOthers.setCell _ _ _)).from _), ⟨hNw, hs4.trans hs.symm, hn4.trans hn.symm⟩, ⟨⟨_, hu4.same _, ?_, ?_⟩, hs4, hn4⟩, HHB.out.trans (hNw.mono (by omega))⟩
        · have h := hO4.kept (grownBy_setCell w4 N0 0 (.slice (some ⟨g4, 0, none⟩) (pre.length + 1) k4)) (.inr (by simp only [Value.ownBlock, ne_eq, Option.some.injEq]; exact hg4.1))
          rw [List.map_append, List.length_append]
          unfold strV at h ⊢
          rw [List.map_append, List.map_cons, List.map_nil, List.map_cons, List.map_nil, hpair.out]
          exact h
        · simp only [Value.ownBlock, ne_eq, Option.some.injEq]
          exact hg4
      case stop_0 =>
        rintro D c pre W _ _ ⟨⟩
      case done_0 =>
        rintro D0 ys W1 hD rfl ⟨⟨⟨uv, hu, hO, n1, n2, n3⟩, hs, hn⟩, hBW⟩ hK
        rw [upto_length, upto_pairs (by decide) (by rw [hl0])] at hO
        obtain ⟨g1, c1, rfl, hgb, hgl, hcm, -⟩ := hO.some_ (by decide)
        have hBz : Below Wb0.heap.size Wb0 W1 := by rw [hsz0]; exact hBW
        have HSt1 := Lib.hid (HT0.out.mono hBz)
        have hND0 : N0 ≤ D0 := Nat.le_trans hw3 hD
        have hNb : w.heap.size ≤ N0 := by rw [← hsz0]; exact HT0.out.below.size
        have hgr : gr0 < N0 := by rw [← hsz0]; exact (HT0.out.own.lt gr0 rfl).2
        have hBN : B < N0 := by rw [← hsz0]; exact HT0.out.cs.lt
        have HR1_1 : Hid (RowSt w W1 B (.slice (some ⟨gr0, 0, none⟩) 1 kr0) (.slice (some ⟨g1, 0, none⟩) 4 c1) (rowR seed 1)) := ⟨by rw [hl1]; exact own_weaken hO hNb, by simp only [Value.ownBlock, ne_eq, Option.some.injEq]; omega, .inr (by simp only [Value.ownBlock, ne_eq, Option.some.injEq]; omega)⟩
        have HC1 := Lib.hid hcm
        have HK1_0 := Lib.hid hK
        have pu := hu.c
        have HR1_0 := Lib.hid (HQ0_0.out.mono hBz)
        clear hO hgb hgl hcm hK hBW hBz hu hs hn n1 n2 n3 hD
        go_wp2_with fail
        rw [rounds_succ]
        have pr1 := HSt1.out.cr.c
        have hbs1 := HSt1.out.below.size
        go_wp2_with (first
          | (at_builtin; refine app_lit2 rfl _ _ 44 rfl w.heap.size 22 _ 1 24 u_textss i_texts rfl (by decide) (.slice (some ⟨gr0, 0, none⟩) 1 kr0) 1 [.slice (some ⟨g0, 0, none⟩) 8 c0] rfl HSt1.out.own 1 _ rfl rfl (by intro u hu; simp at hu; subst hu; rfl) (by omega) (by omega) hbs1 ?_; intro rvn Wa1 hO hG hob; obtain ⟨gr1, kr1, rfl, -⟩ := hO.some_ (Nat.succ_pos _); have cr := HSt1.out.cr.grown hG HSt1.out.ne; have crk := cr; obtain ⟨q1, f1⟩ := crk)
          | (go_at_call 130; refine ((callsIn_wide (n := 4)).1 (chunk_in 4 _ _ _ _)).mono ?_; rintro e w' ⟨rfl, rfl⟩))
        have HT1 := Lib.hid (HSt1.out.push hG hO hob)
        have HQ1_0 := Lib.hid (HR1_0.out.push hG hob)
        have HQ1_1 := Lib.hid (HR1_1.out.push hG hob)
        have HL1_0 := Lib.hid (((keeps_grown hG (own_cells HSt1.out.own)).trans (KeepsOthers.setCell Wa1 ⟨B, 1, none⟩ (.slice (some ⟨gr1, 0, none⟩) 2 kr1))).same D0 _ HK1_0.out rfl)
        have hBWl : B < Wa1.heap.size := cr.lt
        have hsz : (Wa1.setCell ⟨B, 1, none⟩ (.slice (some ⟨gr1, 0, none⟩) 2 kr1)).heap.size = Wa1.heap.size := by simp
        obtain ⟨N1, hN⟩ : ∃ N, N = Wa1.heap.size := ⟨_, rfl⟩
        rw [← hN] at hBWl hsz ⊢
        generalize Wa1.setCell ⟨B, 1, none⟩ (.slice (some ⟨gr1, 0, none⟩) 2 kr1) = Wb1 at HT1 HQ1_0 HQ1_1 HL1_0 hsz ⊢
        have hsz1 := hsz
        have hDN1_0 : D0 < N1 := by rw [← hsz]; exact (Array.getElem?_eq_some_iff.1 HL1_0.out).1
        clear hO hG hob cr q1 f1 hN pr1 hbs1 hsz
        have cu := CellO.new1 Wb1 (.slice none 0 0) 22
        have cs := CellO.new1 (Wb1.alloc (.cells #[.slice none 0 0] 22)) (.slice (some ⟨g1, 0, none⟩) 4 c1) 22
        have cn := CellO.new1 ((Wb1.alloc (.cells #[.slice none 0 0] 22)).alloc (.cells #[.slice (some ⟨g1, 0, none⟩) 4 c1] 22)) (.int .i64 2) 3
        have cu1 := cu.mono ((Below.refl ((Wb1.alloc (.cells #[.slice none 0 0] 22)).heap.size) _).alloc (Nat.le_refl _) (.cells #[.slice (some ⟨g1, 0, none⟩) 4 c1] 22)) cu.lt
        have cu2 := cu1.mono ((Below.refl (((Wb1.alloc (.cells #[.slice none 0 0] 22)).alloc (.cells #[.slice (some ⟨g1, 0, none⟩) 4 c1] 22)).heap.size) _).alloc (Nat.le_refl _) (.cells #[.int .i64 2] 3)) cu1.lt
        have cs2 := cs.mono ((Below.refl (((Wb1.alloc (.cells #[.slice none 0 0] 22)).alloc (.cells #[.slice (some ⟨g1, 0, none⟩) 4 c1] 22)).heap.size) _).alloc (Nat.le_refl _) (.cells #[.int .i64 2] 3)) cs.lt
        have hBV : Below N1 Wb1 (((Wb1.alloc (.cells #[.slice none 0 0] 22)).alloc (.cells #[.slice (some ⟨g1, 0, none⟩) 4 c1] 22)).alloc (.cells #[.int .i64 2] 3)) := (((Below.refl _ _).alloc (by omega) _).alloc (by simp; omega) _).alloc (by simp; omega) _
        simp only [World.size_alloc, hsz1] at cs2 cn cu2
        generalize ((Wb1.alloc (.cells #[.slice none 0 0] 22)).alloc (.cells #[.slice (some ⟨g1, 0, none⟩) 4 c1] 22)).alloc (.cells #[.int .i64 2] 3) = V0 at cu2 cs2 cn hBV ⊢
        clear cu cs cu1
        have HBV := Lib.hid hBV
        have Hcu := Lib.hid cu2
        have hw1 : N1 + 1 < V0.heap.size := cs2.lt
        have hw2 : N1 + 2 < V0.heap.size := cn.lt
        have hw3 : N1 ≤ V0.heap.size := by omega
        refine (wpIn_wide (n := 5)).1 ?_
        refine wpIn_rangeFunc_ownG rfl (by omega) (gf := 156) (lb := #[.pointer (some ⟨N1 + 1, 0, none⟩), .pointer (some ⟨N1 + 1 + 1, 0, none⟩)]) rfl trivial (enters_of Tryd.func156 (by kernel_rfl) rfl)
          (chunk_stops (fun x : {j : Nat // j < 2} => x.val) (finOf 2 (by decide)) 4 2 (fun j hj => finOf_is _ hj) (by decide) (N1 + 1) (N1 + 1 + 1) N1 g1 0 c1 (by decide) HC1.out V0 hw1 hw2 hw3 cs2.c cn.c) kpC_t (kpC_b hw3 hw1 hw2) (Below.refl _ _) (fun _ => rfl)
          (fun pre W => RowIn Wb1 N1 N1 (N1 + 1) (N1 + 1 + 1) (rowR seed 1) (.slice (some ⟨g1, 0, none⟩) 4 c1) pre W ∧ Below N1 Wb1 W) (fun _ _ _ => False)
          (OwnFrom.and (rowIn_from _ _ _ _ _ _ _ _ _) (ownFrom_below (by omega) hw3)) (fun _ _ _ _ _ hs _ _ => hs)
          ⟨⟨⟨.slice none 0 0, Hcu.out, Own.nil _ _ _ _, by simp [Value.ownBlock], by simp [Value.ownBlock], by simp [Value.ownBlock]⟩, cs2.c, cn.c⟩, HBV.out⟩ ?a1_1 ?assign_1 ?body_1 ?done_1 ?stop_1
        case assign_1 =>
          intro l x W K hK
          gi_wp2
          exact hK
        case body_1 =>
          rintro l pre x W ⟨⟨⟨uv, hu, hO, n1, n2, n3⟩, hs, hn⟩, hBW⟩ hlen
          have HHu := Lib.hid hu
          have HHO := Lib.hid hO
          have HHB := Lib.hid hBW
          have hx1 : 2 * x.val < (rowR seed 1).length := by have := x.2; omega
          have hx2 : 2 * x.val + 1 < (rowR seed 1).length := by have := x.2; omega
          obtain ⟨p1, hp1⟩ : ∃ p, (rowR seed 1)[2 * x.val]? = some p := ⟨_, List.getElem?_eq_getElem hx1⟩
          obtain ⟨p2, hp2⟩ : ∃ p, (rowR seed 1)[2 * x.val + 1]? = some p := ⟨_, List.getElem?_eq_getElem hx2⟩
          have hz1 : p1.size = 16 := rowR_size seed 1 _ (List.mem_of_getElem? hp1)
          have hz2 : p2.size = 16 := rowR_size seed 1 _ (List.mem_of_getElem? hp2)
          have hpair : Hid (pairR (rowR seed 1) x.val = upM p1 p2) := by unfold Hid pairR; rw [hp1, hp2]; rfl
          have hgN : g1 < N1 := by have := (HQ1_1.out.own.lt g1 rfl).2; omega
          have d1 : W.cell? ⟨g1, 2 * x.val, none⟩ = some (.string p1) := by rw [hBW.cell (by exact hgN)]; exact HQ1_1.out.own.cell (g := g1) rfl (by unfold strV; rw [List.getElem?_map, hp1]; rfl)
          have d2 : W.cell? ⟨g1, 2 * x.val + 1, none⟩ = some (.string p2) := by rw [hBW.cell (by exact hgN)]; exact HQ1_1.out.own.cell (g := g1) rfl (by unfold strV; rw [List.getElem?_map, hp2]; rfl)
          have HMk := Lib.hid (fun Wq (hWq : Below W.heap.size W Wq) => mark2 117 117 rfl p1 p2 Wq (by omega) (by omega) (Hk.out.mono (HT1.out.below.trans ((hBW.trans (hWq.mono (by have := hBW.size; omega))).mono (by have := HT1.out.below.size; omega)))))
          have y0 := fun z : Grown W => z.cell hu.c
          have y1 := fun z : Grown W => z.cell d1
          have y2 := fun z : Grown W => z.cell d2
          have hS := InGrown.drew W
          have G0 := (Below.refl W.heap.size W).drew
          clear hu hO hBW hp1 hp2 hx1 hx2
          gi_wp2_with fail
          refine wpIn_region_D (fun j => decide (j < 10)) (InGrown W) 12 (by kernel_rfl) (by rintro ⟨a, w, h⟩; exact h) (by kernel_rfl) rfl ?_
          refine wpAnyD_take (i := 0) 12 (v := ?_) rfl (by kernel_rfl) (fun _ _ _ h => h) (hS) (Or.inl ⟨by first | kernel_rfl | rfl, ?_⟩) ?_
          case refine_2 => (rintro _ ⟨z, rfl⟩; go_simp <;> with_reducible rfl)
          refine wpAnyD_take (i := 1) 12 (v := ?_) rfl (by kernel_rfl) (fun _ _ _ h => h) (hS) (Or.inl ⟨by first | kernel_rfl | rfl, ?_⟩) ?_
          case refine_2 => (rintro _ ⟨z, rfl⟩; go_simp <;> with_reducible rfl)
          refine wpAnyD_take (i := 2) 12 (v := ?_) rfl (by kernel_rfl) (fun _ _ _ h => h) (hS) (Or.inl ⟨by first | kernel_rfl | rfl, ?_⟩) ?_
          case refine_2 => (rintro _ ⟨z, rfl⟩; go_simp <;> with_reducible rfl)
          refine wpAnyD_take (i := 3) 12 (v := ?_) rfl (by kernel_rfl) (fun _ _ _ h => h) (hS) (Or.inl ⟨by first | kernel_rfl | rfl, ?_⟩) ?_
          case refine_2 => (rintro _ ⟨z, rfl⟩; go_simp <;> with_reducible rfl)
          refine wpAnyD_take (i := 4) 12 (v := ?_) rfl (by kernel_rfl) (fun _ _ _ h => h) (hS) (Or.inl ⟨by first | kernel_rfl | rfl, ?_⟩) ?_
          case refine_2 => (rintro _ ⟨z, rfl⟩; go_simp <;> with_reducible rfl)
          refine wpAnyD_take (i := 5) 12 (v := ?_) rfl (by kernel_rfl) (fun _ _ _ h => h) (hS) (Or.inl ⟨by first | kernel_rfl | rfl, ?_⟩) ?_
          case refine_2 => (rintro _ ⟨z, rfl⟩; go_simp <;> with_reducible rfl)
          refine wpAnyD_take (i := 6) 12 (v := ?_) rfl (by kernel_rfl) (fun _ _ _ h => h) (hS) (Or.inl ⟨by first | kernel_rfl | rfl, ?_⟩) ?_
          case refine_2 => (rintro _ ⟨z, rfl⟩; go_simp <;> with_reducible rfl)
          refine wpAnyD_step 7 (by kernel_rfl) rfl (fun K hK => ?_)
          go_simp
          refine hK _ _ ⟨fun _ => ?_, ?_⟩
          rotate_left
          clear hK K
          case refine_1 => exact .of (G0.alloc G0.size _)
          refine wpAnyD_step 8 (by kernel_rfl) rfl (fun K hK => ?_)
          go_simp
          (go_at_call 21; refine (HMk.out _ G0).mono ?_; rintro e w3 ⟨rfl, hB3⟩; have G3 := G0.trans (hB3.mono G0.size))
          dsimp only
          refine hK _ _ ⟨fun _ => ?_, ?_⟩
          rotate_left
          clear hK K
          case refine_1 => exact .of G3
          refine wpAnyD_step 9 (by kernel_rfl) rfl (fun K hK => ?_)
          go_simp
          refine hK _ _ ⟨fun _ => ?_, ?_⟩
          rotate_left
          clear hK K
          case refine_1 => exact .of (G3.alloc G3.size _)
          refine wpAnyD_rest 10 (by kernel_rfl) (by kernel_rfl) ?_
          simp only [List.drop_succ_cons, List.drop_zero]
          have hu3 := HHu.out.mono G3 HHu.out.lt
          have hO3 := HHO.out.below G3 (fun j hj => (HHO.out.lt j hj).2)
          have HO3 := Lib.hid hO3
          have hbase : N1 ≤ w3.heap.size := Nat.le_trans (Nat.le_of_lt HHu.out.lt) G3.size
          have HM : Hid (markS 117 [p1, p2] = upM p1 p2) := rfl
          rw [HM.out]
          generalize upM p1 p2 = M at *
          have Hlen := Lib.hid hlen
          clear y0 y1 y2 hS hO3 d1 d2
          refine app_lit2 rfl _ _ 22 rfl N1 9 _ 1 16 u_strs i_str rfl (by decide) uv pre.length _ ?hs_1 HO3.out 1 _ ?hx_1 ?hl_1 ?h1_1 ?hn_1 ?hb_1 hbase ?_
          case hs_1 => rfl
          case hx_1 => rfl
          case hl_1 => rfl
          case h1_1 => (intro u hu; simp at hu; subst hu; rfl)
          case hn_1 => (have := Hlen.out; omega)
          case hb_1 => (have := Hlen.out; omega)
          intro v4 w4 hO4 hG4 hob4
          obtain ⟨g4, k4, rfl, -⟩ := hO4.some_ (Nat.succ_pos _)
          have hu4 := hu3.grown hG4 n1
          have hu4k := hu4
          obtain ⟨q4, f4⟩ := hu4k
          go_wp2_with fail
          have hbs : N1 + 1 < W.heap.size := World.block_lt_of_cell? W ⟨N1 + 1, 0, none⟩ hs
          have hbn : N1 + 1 + 1 < W.heap.size := World.block_lt_of_cell? W ⟨N1 + 1 + 1, 0, none⟩ hn
          have hg4 : g4 ≠ N1 ∧ g4 ≠ N1 + 1 ∧ g4 ≠ N1 + 1 + 1 := by
            rcases hob4 g4 rfl with h | h
            · exact ⟨fun e => n1 (by rw [h, e]), fun e => n2 (by rw [h, e]), fun e => n3 (by rw [h, e])⟩
            · have := G3.size
              exact ⟨by omega, by omega, by omega⟩
          have hsz3 := G3.size
          have hs4 : (w4.setCell ⟨N1, 0, none⟩ (.slice (some ⟨g4, 0, none⟩) (pre.length + 1) k4)).cell? ⟨N1 + 1, 0, none⟩ = some (.slice (some ⟨g1, 0, none⟩) 4 c1) := by
            rw [World.cell?_setCell_other _ _ _ _ (by simp), World.cell?_of_block (a := ⟨N1 + 1, 0, none⟩) (hG4.block _ (by show N1 + 1 < w3.heap.size; omega) (fun e => n2 e.symm)), G3.cell (by exact hbs)]
            exact hs
          have hn4 : (w4.setCell ⟨N1, 0, none⟩ (.slice (some ⟨g4, 0, none⟩) (pre.length + 1) k4)).cell? ⟨N1 + 1 + 1, 0, none⟩ = some (.int .i64 2) := by
            rw [World.cell?_setCell_other _ _ _ _ (by simp), World.cell?_of_block (a := ⟨N1 + 1 + 1, 0, none⟩) (hG4.block _ (by show N1 + 1 + 1 < w3.heap.size; omega) (fun e => n3 e.symm)), G3.cell (by exact hbn)]
            exact hn
          have hNw : Below N1 W (w4.setCell ⟨N1, 0, none⟩ (.slice (some ⟨g4, 0, none⟩) (pre.length + 1) k4)) :=
            below_set (((G3.mono (Nat.le_of_lt HHu.out.lt))).grown hG4 hbase (fun j hj => (HO3.out.lt j hj).1)) (Nat.le_refl _) _
          refine ⟨(KeepsFrom.of_grownBy (grown_below G3 none) (fun j e => by cases e)).trans (((keeps_grown hG4 (own_cells HO3.out)).trans (KeepsOthers.setCell _ _ _)).from _), ⟨hNw, hs4.trans hs.symm, hn4.trans hn.symm⟩, ⟨⟨_, hu4.same _, ?_, ?_⟩, hs4, hn4⟩, HHB.out.trans (hNw.mono (by omega))⟩
          · have h := hO4.kept (grownBy_setCell w4 N1 0 (.slice (some ⟨g4, 0, none⟩) (pre.length + 1) k4)) (.inr (by simp only [Value.ownBlock, ne_eq, Option.some.injEq]; exact hg4.1))
            rw [List.map_append, List.length_append]
            unfold strV at h ⊢
            rw [List.map_append, List.map_cons, List.map_nil, List.map_cons, List.map_nil, hpair.out]
            exact h
          · simp only [Value.ownBlock, ne_eq, Option.some.injEq]
            exact hg4
        case stop_1 =>
          rintro D c pre W _ _ ⟨⟩
        case done_1 =>
          rintro D1 ys W2 hD rfl ⟨⟨⟨uv, hu, hO, n1, n2, n3⟩, hs, hn⟩, hBW⟩ hK
          rw [upto_length, upto_pairs (by decide) (by rw [hl1])] at hO
          obtain ⟨g2, c2, rfl, hgb, hgl, hcm, -⟩ := hO.some_ (by decide)
          have hBz : Below Wb1.heap.size Wb1 W2 := by rw [hsz1]; exact hBW
          have HSt2 := Lib.hid (HT1.out.mono hBz)
          have hND1 : N1 ≤ D1 := Nat.le_trans hw3 hD
          have hNb : w.heap.size ≤ N1 := by rw [← hsz1]; exact HT1.out.below.size
          have hgr : gr1 < N1 := by rw [← hsz1]; exact (HT1.out.own.lt gr1 rfl).2
          have hBN : B < N1 := by rw [← hsz1]; exact HT1.out.cs.lt
          have HR2_2 : Hid (RowSt w W2 B (.slice (some ⟨gr1, 0, none⟩) 2 kr1) (.slice (some ⟨g2, 0, none⟩) 2 c2) (rowR seed 2)) := ⟨by rw [hl2]; exact own_weaken hO hNb, by simp only [Value.ownBlock, ne_eq, Option.some.injEq]; omega, .inr (by simp only [Value.ownBlock, ne_eq, Option.some.injEq]; omega)⟩
          have HC2 := Lib.hid hcm
          have HK2_1 := Lib.hid hK
          have pu := hu.c
          have HR2_0 := Lib.hid (HQ1_0.out.mono hBz)
          have HR2_1 := Lib.hid (HQ1_1.out.mono hBz)
          have HK2_0 := Lib.hid ((hBz.block D0 (Array.getElem?_eq_some_iff.1 HL1_0.out).1).trans HL1_0.out)
          clear hO hgb hgl hcm hK hBW hBz hu hs hn n1 n2 n3 hD
          go_wp2_with fail
          rw [rounds_succ]
          have pr2 := HSt2.out.cr.c
          have hbs2 := HSt2.out.below.size
          go_wp2_with (first
            | (at_builtin; refine app_lit2 rfl _ _ 44 rfl w.heap.size 22 _ 1 24 u_textss i_texts rfl (by decide) (.slice (some ⟨gr1, 0, none⟩) 2 kr1) 2 [.slice (some ⟨g0, 0, none⟩) 8 c0, .slice (some ⟨g1, 0, none⟩) 4 c1] rfl HSt2.out.own 1 _ rfl rfl (by intro u hu; simp at hu; subst hu; rfl) (by omega) (by omega) hbs2 ?_; intro rvn Wa2 hO hG hob; obtain ⟨gr2, kr2, rfl, -⟩ := hO.some_ (Nat.succ_pos _); have cr := HSt2.out.cr.grown hG HSt2.out.ne; have crk := cr; obtain ⟨q1, f1⟩ := crk)
            | (go_at_call 130; refine ((callsIn_wide (n := 4)).1 (chunk_in 4 _ _ _ _)).mono ?_; rintro e w' ⟨rfl, rfl⟩))
          have HT2 := Lib.hid (HSt2.out.push hG hO hob)
          have HQ2_0 := Lib.hid (HR2_0.out.push hG hob)
          have HQ2_1 := Lib.hid (HR2_1.out.push hG hob)
          have HQ2_2 := Lib.hid (HR2_2.out.push hG hob)
          have HL2_0 := Lib.hid (((keeps_grown hG (own_cells HSt2.out.own)).trans (KeepsOthers.setCell Wa2 ⟨B, 1, none⟩ (.slice (some ⟨gr2, 0, none⟩) 3 kr2))).same D0 _ HK2_0.out rfl)
          have HL2_1 := Lib.hid (((keeps_grown hG (own_cells HSt2.out.own)).trans (KeepsOthers.setCell Wa2 ⟨B, 1, none⟩ (.slice (some ⟨gr2, 0, none⟩) 3 kr2))).same D1 _ HK2_1.out rfl)
          have hBWl : B < Wa2.heap.size := cr.lt
          have hsz : (Wa2.setCell ⟨B, 1, none⟩ (.slice (some ⟨gr2, 0, none⟩) 3 kr2)).heap.size = Wa2.heap.size := by simp
          obtain ⟨N2, hN⟩ : ∃ N, N = Wa2.heap.size := ⟨_, rfl⟩
          rw [← hN] at hBWl hsz ⊢
          generalize Wa2.setCell ⟨B, 1, none⟩ (.slice (some ⟨gr2, 0, none⟩) 3 kr2) = Wb2 at HT2 HQ2_0 HQ2_1 HQ2_2 HL2_0 HL2_1 hsz ⊢
          have hsz2 := hsz
          have hDN2_0 : D0 < N2 := by rw [← hsz]; exact (Array.getElem?_eq_some_iff.1 HL2_0.out).1
          have hDN2_1 : D1 < N2 := by rw [← hsz]; exact (Array.getElem?_eq_some_iff.1 HL2_1.out).1
          clear hO hG hob cr q1 f1 hN pr2 hbs2 hsz
          have cu := CellO.new1 Wb2 (.slice none 0 0) 22
          have cs := CellO.new1 (Wb2.alloc (.cells #[.slice none 0 0] 22)) (.slice (some ⟨g2, 0, none⟩) 2 c2) 22
          have cn := CellO.new1 ((Wb2.alloc (.cells #[.slice none 0 0] 22)).alloc (.cells #[.slice (some ⟨g2, 0, none⟩) 2 c2] 22)) (.int .i64 2) 3
          have cu1 := cu.mono ((Below.refl ((Wb2.alloc (.cells #[.slice none 0 0] 22)).heap.size) _).alloc (Nat.le_refl _) (.cells #[.slice (some ⟨g2, 0, none⟩) 2 c2] 22)) cu.lt
          have cu2 := cu1.mono ((Below.refl (((Wb2.alloc (.cells #[.slice none 0 0] 22)).alloc (.cells #[.slice (some ⟨g2, 0, none⟩) 2 c2] 22)).heap.size) _).alloc (Nat.le_refl _) (.cells #[.int .i64 2] 3)) cu1.lt
          have cs2 := cs.mono ((Below.refl (((Wb2.alloc (.cells #[.slice none 0 0] 22)).alloc (.cells #[.slice (some ⟨g2, 0, none⟩) 2 c2] 22)).heap.size) _).alloc (Nat.le_refl _) (.cells #[.int .i64 2] 3)) cs.lt
          have hBV : Below N2 Wb2 (((Wb2.alloc (.cells #[.slice none 0 0] 22)).alloc (.cells #[.slice (some ⟨g2, 0, none⟩) 2 c2] 22)).alloc (.cells #[.int .i64 2] 3)) := (((Below.refl _ _).alloc (by omega) _).alloc (by simp; omega) _).alloc (by simp; omega) _
          simp only [World.size_alloc, hsz2] at cs2 cn cu2
          generalize ((Wb2.alloc (.cells #[.slice none 0 0] 22)).alloc (.cells #[.slice (some ⟨g2, 0, none⟩) 2 c2] 22)).alloc (.cells #[.int .i64 2] 3) = V0 at cu2 cs2 cn hBV ⊢
          clear cu cs cu1
          have HBV := Lib.hid hBV
          have Hcu := Lib.hid cu2
          have hw1 : N2 + 1 < V0.heap.size := cs2.lt
          have hw2 : N2 + 2 < V0.heap.size := cn.lt
          have hw3 : N2 ≤ V0.heap.size := by omega
          refine (wpIn_wide (n := 5)).1 ?_
          refine wpIn_rangeFunc_ownG rfl (by omega) (gf := 156) (lb := #[.pointer (some ⟨N2 + 1, 0, none⟩), .pointer (some ⟨N2 + 1 + 1, 0, none⟩)]) rfl trivial (enters_of Tryd.func156 (by kernel_rfl) rfl)
            (chunk_stops (fun x : {j : Nat // j < 1} => x.val) (finOf 1 (by decide)) 4 1 (fun j hj => finOf_is _ hj) (by decide) (N2 + 1) (N2 + 1 + 1) N2 g2 0 c2 (by decide) HC2.out V0 hw1 hw2 hw3 cs2.c cn.c) kpC_t (kpC_b hw3 hw1 hw2) (Below.refl _ _) (fun _ => rfl)
            (fun pre W => RowIn Wb2 N2 N2 (N2 + 1) (N2 + 1 + 1) (rowR seed 2) (.slice (some ⟨g2, 0, none⟩) 2 c2) pre W ∧ Below N2 Wb2 W) (fun _ _ _ => False)
            (OwnFrom.and (rowIn_from _ _ _ _ _ _ _ _ _) (ownFrom_below (by omega) hw3)) (fun _ _ _ _ _ hs _ _ => hs)
            ⟨⟨⟨.slice none 0 0, Hcu.out, Own.nil _ _ _ _, by simp [Value.ownBlock], by simp [Value.ownBlock], by simp [Value.ownBlock]⟩, cs2.c, cn.c⟩, HBV.out⟩ ?a1_2 ?assign_2 ?body_2 ?done_2 ?stop_2
          case assign_2 =>
            intro l x W K hK
            gi_wp2
            exact hK
          case body_2 =>
            rintro l pre x W ⟨⟨⟨uv, hu, hO, n1, n2, n3⟩, hs, hn⟩, hBW⟩ hlen
            have HHu := Lib.hid hu
            have HHO := Lib.hid hO
            have HHB := Lib.hid hBW
            have hx1 : 2 * x.val < (rowR seed 2).length := by have := x.2; omega
            have hx2 : 2 * x.val + 1 < (rowR seed 2).length := by have := x.2; omega
            obtain ⟨p1, hp1⟩ : ∃ p, (rowR seed 2)[2 * x.val]? = some p := ⟨_, List.getElem?_eq_getElem hx1⟩
            obtain ⟨p2, hp2⟩ : ∃ p, (rowR seed 2)[2 * x.val + 1]? = some p := ⟨_, List.getElem?_eq_getElem hx2⟩
            have hz1 : p1.size = 16 := rowR_size seed 2 _ (List.mem_of_getElem? hp1)
            have hz2 : p2.size = 16 := rowR_size seed 2 _ (List.mem_of_getElem? hp2)
            have hpair : Hid (pairR (rowR seed 2) x.val = upM p1 p2) := by unfold Hid pairR; rw [hp1, hp2]; rfl
            have hgN : g2 < N2 := by have := (HQ2_2.out.own.lt g2 rfl).2; omega
            have d1 : W.cell? ⟨g2, 2 * x.val, none⟩ = some (.string p1) := by rw [hBW.cell (by exact hgN)]; exact HQ2_2.out.own.cell (g := g2) rfl (by unfold strV; rw [List.getElem?_map, hp1]; rfl)
            have d2 : W.cell? ⟨g2, 2 * x.val + 1, none⟩ = some (.string p2) := by rw [hBW.cell (by exact hgN)]; exact HQ2_2.out.own.cell (g := g2) rfl (by unfold strV; rw [List.getElem?_map, hp2]; rfl)
            have HMk := Lib.hid (fun Wq (hWq : Below W.heap.size W Wq) => mark2 117 117 rfl p1 p2 Wq (by omega) (by omega) (Hk.out.mono (HT2.out.below.trans ((hBW.trans (hWq.mono (by have := hBW.size; omega))).mono (by have := HT2.out.below.size; omega)))))
            have y0 := fun z : Grown W => z.cell hu.c
            have y1 := fun z : Grown W => z.cell d1
            have y2 := fun z : Grown W => z.cell d2
            have hS := InGrown.drew W
            have G0 := (Below.refl W.heap.size W).drew
            clear hu hO hBW hp1 hp2 hx1 hx2
            gi_wp2_with fail
            refine wpIn_region_D (fun j => decide (j < 10)) (InGrown W) 12 (by kernel_rfl) (by rintro ⟨a, w, h⟩; exact h) (by kernel_rfl) rfl ?_
            refine wpAnyD_take (i := 0) 12 (v := ?_) rfl (by kernel_rfl) (fun _ _ _ h => h) (hS) (Or.inl ⟨by first | kernel_rfl | rfl, ?_⟩) ?_
            case refine_2 => (rintro _ ⟨z, rfl⟩; go_simp <;> with_reducible rfl)
            refine wpAnyD_take (i := 1) 12 (v := ?_) rfl (by kernel_rfl) (fun _ _ _ h => h) (hS) (Or.inl ⟨by first | kernel_rfl | rfl, ?_⟩) ?_
            case refine_2 => (rintro _ ⟨z, rfl⟩; go_simp <;> with_reducible rfl)
            refine wpAnyD_take (i := 2) 12 (v := ?_) rfl (by kernel_rfl) (fun _ _ _ h => h) (hS) (Or.inl ⟨by first | kernel_rfl | rfl, ?_⟩) ?_
            case refine_2 => (rintro _ ⟨z, rfl⟩; go_simp <;> with_reducible rfl)
            refine wpAnyD_take (i := 3) 12 (v := ?_) rfl (by kernel_rfl) (fun _ _ _ h => h) (hS) (Or.inl ⟨by first | kernel_rfl | rfl, ?_⟩) ?_
            case refine_2 => (rintro _ ⟨z, rfl⟩; go_simp <;> with_reducible rfl)
            refine wpAnyD_take (i := 4) 12 (v := ?_) rfl (by kernel_rfl) (fun _ _ _ h => h) (hS) (Or.inl ⟨by first | kernel_rfl | rfl, ?_⟩) ?_
            case refine_2 => (rintro _ ⟨z, rfl⟩; go_simp <;> with_reducible rfl)
            refine wpAnyD_take (i := 5) 12 (v := ?_) rfl (by kernel_rfl) (fun _ _ _ h => h) (hS) (Or.inl ⟨by first | kernel_rfl | rfl, ?_⟩) ?_
            case refine_2 => (rintro _ ⟨z, rfl⟩; go_simp <;> with_reducible rfl)
            refine wpAnyD_take (i := 6) 12 (v := ?_) rfl (by kernel_rfl) (fun _ _ _ h => h) (hS) (Or.inl ⟨by first | kernel_rfl | rfl, ?_⟩) ?_
            case refine_2 => (rintro _ ⟨z, rfl⟩; go_simp <;> with_reducible rfl)
            refine wpAnyD_step 7 (by kernel_rfl) rfl (fun K hK => ?_)
            go_simp
            refine hK _ _ ⟨fun _ => ?_, ?_⟩
            rotate_left
            clear hK K
            case refine_1 => exact .of (G0.alloc G0.size _)
            refine wpAnyD_step 8 (by kernel_rfl) rfl (fun K hK => ?_)
            go_simp
            (go_at_call 21; refine (HMk.out _ G0).mono ?_; rintro e w3 ⟨rfl, hB3⟩; have G3 := G0.trans (hB3.mono G0.size))
            dsimp only
            refine hK _ _ ⟨fun _ => ?_, ?_⟩
            rotate_left
            clear hK K
            case refine_1 => exact .of G3
            refine wpAnyD_step 9 (by kernel_rfl) rfl (fun K hK => ?_)
            go_simp
            refine hK _ _ ⟨fun _ => ?_, ?_⟩
            rotate_left
            clear hK K
            case refine_1 => exact .of (G3.alloc G3.size _)
            refine wpAnyD_rest 10 (by kernel_rfl) (by kernel_rfl) ?_
            simp only [List.drop_succ_cons, List.drop_zero]
            have hu3 := HHu.out.mono G3 HHu.out.lt
            have hO3 := HHO.out.below G3 (fun j hj => (HHO.out.lt j hj).2)
            have HO3 := Lib.hid hO3
            have hbase : N2 ≤ w3.heap.size := Nat.le_trans (Nat.le_of_lt HHu.out.lt) G3.size
            have HM : Hid (markS 117 [p1, p2] = upM p1 p2) := rfl
            rw [HM.out]
            generalize upM p1 p2 = M at *
            have Hlen := Lib.hid hlen
            clear y0 y1 y2 hS hO3 d1 d2
            refine app_lit2 rfl _ _ 22 rfl N2 9 _ 1 16 u_strs i_str rfl (by decide) uv pre.length _ ?hs_2 HO3.out 1 _ ?hx_2 ?hl_2 ?h1_2 ?hn_2 ?hb_2 hbase ?_
            case hs_2 => rfl
            case hx_2 => rfl
            case hl_2 => rfl
            case h1_2 => (intro u hu; simp at hu; subst hu; rfl)
            case hn_2 => (have := Hlen.out; omega)
            case hb_2 => (have := Hlen.out; omega)
            intro v4 w4 hO4 hG4 hob4
            obtain ⟨g4, k4, rfl, -⟩ := hO4.some_ (Nat.succ_pos _)
            have hu4 := hu3.grown hG4 n1
            have hu4k := hu4
            obtain ⟨q4, f4⟩ := hu4k
            go_wp2_with fail
            have hbs : N2 + 1 < W.heap.size := World.block_lt_of_cell? W ⟨N2 + 1, 0, none⟩ hs
            have hbn : N2 + 1 + 1 < W.heap.size := World.block_lt_of_cell? W ⟨N2 + 1 + 1, 0, none⟩ hn
            have hg4 : g4 ≠ N2 ∧ g4 ≠ N2 + 1 ∧ g4 ≠ N2 + 1 + 1 := by
              rcases hob4 g4 rfl with h | h
              · exact ⟨fun e => n1 (by rw [h, e]), fun e => n2 (by rw [h, e]), fun e => n3 (by rw [h, e])⟩
              · have := G3.size
                exact ⟨by omega, by omega, by omega⟩
            have hsz3 := G3.size
            have hs4 : (w4.setCell ⟨N2, 0, none⟩ (.slice (some ⟨g4, 0, none⟩) (pre.length + 1) k4)).cell? ⟨N2 + 1, 0, none⟩ = some (.slice (some ⟨g2, 0, none⟩) 2 c2) := by
              rw [World.cell?_setCell_other _ _ _ _ (by simp), World.cell?_of_block (a := ⟨N2 + 1, 0, none⟩) (hG4.block _ (by show N2 + 1 < w3.heap.size; omega) (fun e => n2 e.symm)), G3.cell (by exact hbs)]
              exact hs
            have hn4 : (w4.setCell ⟨N2, 0, none⟩ (.slice (some ⟨g4, 0, none⟩) (pre.length + 1) k4)).cell? ⟨N2 + 1 + 1, 0, none⟩ = some (.int .i64 2) := by
              rw [World.cell?_setCell_other _ _ _ _ (by simp), World.cell?_of_block (a := ⟨N2 + 1 + 1, 0, none⟩) (hG4.block _ (by show N2 + 1 + 1 < w3.heap.size; omega) (fun e => n3 e.symm)), G3.cell (by exact hbn)]
              exact hn
            have hNw : Below N2 W (w4.setCell ⟨N2, 0, none⟩ (.slice (some ⟨g4, 0, none⟩) (pre.length + 1) k4)) :=
              below_set (((G3.mono (Nat.le_of_lt HHu.out.lt))).grown hG4 hbase (fun j hj => (HO3.out.lt j hj).1)) (Nat.le_refl _) _
            refine ⟨(KeepsFrom.of_grownBy (grown_below G3 none) (fun j e => by cases e)).trans (((keeps_grown hG4 (own_cells HO3.out)).trans (KeepsOthers.setCell _ _ _)).from _), ⟨hNw, hs4.trans hs.symm, hn4.trans hn.symm⟩, ⟨⟨_, hu4.same _, ?_, ?_⟩, hs4, hn4⟩, HHB.out.trans (hNw.mono (by omega))⟩
            · have h := hO4.kept (grownBy_setCell w4 N2 0 (.slice (some ⟨g4, 0, none⟩) (pre.length + 1) k4)) (.inr (by simp only [Value.ownBlock, ne_eq, Option.some.injEq]; exact hg4.1))
              rw [List.map_append, List.length_append]
              unfold strV at h ⊢
              rw [List.map_append, List.map_cons, List.map_nil, List.map_cons, List.map_nil, hpair.out]
              exact h
            · simp only [Value.ownBlock, ne_eq, Option.some.injEq]
              exact hg4
          case stop_2 =>
            rintro D c pre W _ _ ⟨⟩
          case done_2 =>
            rintro D2 ys W3 hD rfl ⟨⟨⟨uv, hu, hO, n1, n2, n3⟩, hs, hn⟩, hBW⟩ hK
            rw [upto_length, upto_pairs (by decide) (by rw [hl2])] at hO
            obtain ⟨g3, c3, rfl, hgb, hgl, hcm, -⟩ := hO.some_ (by decide)
            have hBz : Below Wb2.heap.size Wb2 W3 := by rw [hsz2]; exact hBW
            have HSt3 := Lib.hid (HT2.out.mono hBz)
            have hND2 : N2 ≤ D2 := Nat.le_trans hw3 hD
            have hNb : w.heap.size ≤ N2 := by rw [← hsz2]; exact HT2.out.below.size
            have hgr : gr2 < N2 := by rw [← hsz2]; exact (HT2.out.own.lt gr2 rfl).2
            have hBN : B < N2 := by rw [← hsz2]; exact HT2.out.cs.lt
            have HR3_3 : Hid (RowSt w W3 B (.slice (some ⟨gr2, 0, none⟩) 3 kr2) (.slice (some ⟨g3, 0, none⟩) 1 c3) (rowR seed 3)) := ⟨by rw [hl3]; exact own_weaken hO hNb, by simp only [Value.ownBlock, ne_eq, Option.some.injEq]; omega, .inr (by simp only [Value.ownBlock, ne_eq, Option.some.injEq]; omega)⟩
            have HC3 := Lib.hid hcm
            have HK3_2 := Lib.hid hK
            have pu := hu.c
            have HR3_0 := Lib.hid (HQ2_0.out.mono hBz)
            have HR3_1 := Lib.hid (HQ2_1.out.mono hBz)
            have HR3_2 := Lib.hid (HQ2_2.out.mono hBz)
            have HK3_0 := Lib.hid ((hBz.block D0 (Array.getElem?_eq_some_iff.1 HL2_0.out).1).trans HL2_0.out)
            have HK3_1 := Lib.hid ((hBz.block D1 (Array.getElem?_eq_some_iff.1 HL2_1.out).1).trans HL2_1.out)
            clear hO hgb hgl hcm hK hBW hBz hu hs hn n1 n2 n3 hD
            go_wp2_with fail
            rw [rounds_succ]
            have pr3 := HSt3.out.cr.c
            have hbs3 := HSt3.out.below.size
            go_wp2_with (first
              | (at_builtin; refine app_lit2 rfl _ _ 44 rfl w.heap.size 22 _ 1 24 u_textss i_texts rfl (by decide) (.slice (some ⟨gr2, 0, none⟩) 3 kr2) 3 [.slice (some ⟨g0, 0, none⟩) 8 c0, .slice (some ⟨g1, 0, none⟩) 4 c1, .slice (some ⟨g2, 0, none⟩) 2 c2] rfl HSt3.out.own 1 _ rfl rfl (by intro u hu; simp at hu; subst hu; rfl) (by omega) (by omega) hbs3 ?_; intro rvn Wa3 hO hG hob; obtain ⟨gr3, kr3, rfl, -⟩ := hO.some_ (Nat.succ_pos _); have cr := HSt3.out.cr.grown hG HSt3.out.ne; have crk := cr; obtain ⟨q1, f1⟩ := crk))
            have HT3 := Lib.hid (HSt3.out.push hG hO hob)
            have HQ3_0 := Lib.hid (HR3_0.out.push hG hob)
            have HQ3_1 := Lib.hid (HR3_1.out.push hG hob)
            have HQ3_2 := Lib.hid (HR3_2.out.push hG hob)
            have HQ3_3 := Lib.hid (HR3_3.out.push hG hob)
            have HL3_0 := Lib.hid (((keeps_grown hG (own_cells HSt3.out.own)).trans (KeepsOthers.setCell Wa3 ⟨B, 1, none⟩ (.slice (some ⟨gr3, 0, none⟩) 4 kr3))).same D0 _ HK3_0.out rfl)
            have HL3_1 := Lib.hid (((keeps_grown hG (own_cells HSt3.out.own)).trans (KeepsOthers.setCell Wa3 ⟨B, 1, none⟩ (.slice (some ⟨gr3, 0, none⟩) 4 kr3))).same D1 _ HK3_1.out rfl)
            have HL3_2 := Lib.hid (((keeps_grown hG (own_cells HSt3.out.own)).trans (KeepsOthers.setCell Wa3 ⟨B, 1, none⟩ (.slice (some ⟨gr3, 0, none⟩) 4 kr3))).same D2 _ HK3_2.out rfl)
            have hBWl : B < Wa3.heap.size := cr.lt
            have hsz : (Wa3.setCell ⟨B, 1, none⟩ (.slice (some ⟨gr3, 0, none⟩) 4 kr3)).heap.size = Wa3.heap.size := by simp
            obtain ⟨N3, hN⟩ : ∃ N, N = Wa3.heap.size := ⟨_, rfl⟩
            rw [← hN] at hBWl hsz
            generalize Wa3.setCell ⟨B, 1, none⟩ (.slice (some ⟨gr3, 0, none⟩) 4 kr3) = Wb3 at HT3 HQ3_0 HQ3_1 HQ3_2 HQ3_3 HL3_0 HL3_1 HL3_2 hsz ⊢
            have hsz3 := hsz
            have hDN3_0 : D0 < N3 := by rw [← hsz]; exact (Array.getElem?_eq_some_iff.1 HL3_0.out).1
            have hDN3_1 : D1 < N3 := by rw [← hsz]; exact (Array.getElem?_eq_some_iff.1 HL3_1.out).1
            have hDN3_2 : D2 < N3 := by rw [← hsz]; exact (Array.getElem?_eq_some_iff.1 HL3_2.out).1
            clear hO hG hob cr q1 f1 hN pr3 hbs3 hsz
            have q0 := HT3.out.put HL3_2.out (by omega) (.deferred none)
            have k1 : (Wb3.putObj D2 (.deferred none)).heap[D1]? = some (.deferred (some [])) := (World.putObj_heap_other (by omega)).trans HL3_1.out
            have q1 := q0.put k1 (by omega) (.deferred none)
            have k0 : ((Wb3.putObj D2 (.deferred none)).putObj D1 (.deferred none)).heap[D0]? = some (.deferred (some [])) := (World.putObj_heap_other (by omega)).trans ((World.putObj_heap_other (by omega)).trans HL3_0.out)
            have q2 := q1.put k0 (by omega) (.deferred none)
            refine ⟨by simp, .inl ⟨_, _, rfl, run_takeDeferred HL3_2.out, ?_⟩⟩
            refine ⟨by simp, .inl ⟨_, _, rfl, run_takeDeferred k1, ?_⟩⟩
            refine ⟨by simp, .inl ⟨_, _, rfl, run_takeDeferred k0, ?_⟩⟩
            refine ⟨_, results_tmp2 rfl _ _ _, B, rfl, BoxP.of q2 (((HQ3_0.out.put HL3_2.out _).put k1 _).put k0 _) (((HQ3_1.out.put HL3_2.out _).put k1 _).put k0 _) (((HQ3_2.out.put HL3_2.out _).put k1 _).put k0 _) (((HQ3_3.out.put HL3_2.out _).put k1 _).put k0 _), q2.below⟩
end Go.Proofs.YtfhjnfocmlndpaaDoor
