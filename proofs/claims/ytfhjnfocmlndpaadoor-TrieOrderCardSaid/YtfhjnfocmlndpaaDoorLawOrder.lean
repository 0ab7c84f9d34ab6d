/- The law TrieOrder: it returns true. -/
import Derived.Test.YtfhjnfocmlndpaaDoorTEq
import Derived.Test.YtfhjnfocmlndpaaDoorTRev
import Derived.Test.YtfhjnfocmlndpaaDoorTRoot
import Derived.Test.YtfhjnfocmlndpaaDoorTMap
import Derived.Test.YtfhjnfocmlndpaaDoorTOrd
namespace Go.Proofs.YtfhjnfocmlndpaaDoor
open Go Go.RowKit Go.Proofs Go.Shelf

/-- a box: its one cell, which nothing froze -/
structure BoxAt (w : World) (b : Nat) (v : Value) : Prop where
  c : w.cell? ⟨b, 0, none⟩ = some v
  f : w.frozen? ⟨b, 0, none⟩ = false
theorem BoxAt.new (w : World) (v : Value) (T : TypeId) : BoxAt (w.alloc (.cells #[v] T)) w.heap.size v :=
  ⟨by rw [cell_of_row _ _ _ _ _ _ (heap_alloc_new _ _)]; rfl, by have h := heap_alloc_new w (.cells #[v] T); unfold World.frozen?; rw [h]; rfl⟩
theorem BoxAt.mono {w w' : World} {b : Nat} {v : Value} (h : BoxAt w b v) (hb : Below w.heap.size w w') : BoxAt w' b v := by
  have hlt : b < w.heap.size := World.block_lt_of_cell? w ⟨b, 0, none⟩ h.c
  exact ⟨by rw [hb.cell (by exact hlt)]; exact h.c, by have := h.f; unfold World.frozen? at this ⊢; rw [hb.block b hlt]; exact this⟩
theorem pair_snoc {l : List It} {k : Nat} {x : It} {S : List ByteArray} (hx : l[k]? = some x) (h : (l.take k).Pairwise fun x y => x.ix ≠ y.ix) (hS : ∀ y ∈ l.take k, y.ix ∈ S) (hn : ¬ x.ix ∈ S) : (l.take (k + 1)).Pairwise fun x y => x.ix ≠ y.ix := by
  obtain ⟨hk, rfl⟩ := List.getElem?_eq_some_iff.1 hx
  rw [List.take_succ_eq_append_getElem hk, List.pairwise_append]
  refine ⟨h, List.pairwise_singleton _ _, fun y hy z hz => ?_⟩
  rw [List.mem_singleton.1 hz]
  exact fun e => hn (e ▸ hS y hy)
theorem mem_snoc {l : List It} {k : Nat} {x : It} {S : List ByteArray} (hx : l[k]? = some x) (hS : ∀ y ∈ l.take k, y.ix ∈ S) : ∀ y ∈ l.take (k + 1), y.ix ∈ x.ix :: S := by
  obtain ⟨hk, rfl⟩ := List.getElem?_eq_some_iff.1 hx
  rw [List.take_succ_eq_append_getElem hk]
  intro y hy
  rcases List.mem_append.1 hy with h | h
  · exact List.mem_cons_of_mem _ (hS y h)
  · rw [List.mem_singleton.1 h]; exact List.mem_cons_self
/-- one above what a boxed count holds -/
def readUp (t : Value) (W : World) : Nat := match t with
  | .pointer (some a) => match W.cell? a with
    | some v => (intOf v + 1).toNat
    | none => 0
  | _ => 0
theorem readUp_cell {W : World} {B n : Nat} (h : W.cell? ⟨B, 0, none⟩ = some (.int .i64 ((n : Int) - 1))) : readUp (.pointer (some ⟨B, 0, none⟩)) W = n := by
  show (match W.cell? ⟨B, 0, none⟩ with | some v => (intOf v + 1).toNat | none => 0) = n
  rw [h]
  show ((n : Int) - 1 + 1).toNat = n
  omega
set_option maxRecDepth 1000000 in
set_option maxHeartbeats 20000000 in
theorem law_order_ok (v : Value) (l : List It) (by_ : Int) (w : World) (hv : IReads w v l) (hh : heldI l = true) (hk : KAt w 0) :
    Calls Tryd.prog 10 #[v, .int .i64 by_] w (BoolPost true w) := by
  have hl40 : l.length ≤ 40 := by
    unfold heldI at hh
    simp only [Bool.and_eq_true, decide_eq_true_eq] at hh
    exact hh.1
  have hsz : Hid (∀ x ∈ l, x.ix.size ≤ 40) := fun x hx => by
    unfold heldI at hh
    simp only [Bool.and_eq_true, Bool.not_eq_true', List.any_eq_false] at hh
    have h1 := hh.2 x hx
    unfold heldB at h1
    simp only [Bool.or_eq_true, decide_eq_true_eq, not_or] at h1
    omega
  obtain ⟨hm1, hm2, hm3⟩ := made_is _ l rfl (by omega)
  have hb0 : Below w.heap.size w (w.alloc (.cells #[v] 115)) := (Below.refl _ _).alloc (Nat.le_refl _) _
  have hL0 := BoxAt.new w v 115
  have HH := Lib.hid (fun W (hW : Below w.heap.size w W) => held_any v l W (hv.mono hW))
  rw [hh] at HH
  have HRt := Lib.hid (fun W (hW : Below w.heap.size w W) => rooted_any W (hk.mono hW))
  have HM := Lib.hid (fun W (hW : Below w.heap.size w W) => made_any v l W (hv.mono hW) (by omega))
  have HMg := Lib.hid (fun (u : Value) (m : List It) W (hu : IReads W u m) (hm : m.length ≤ 1000) => made_any u m W hu hm)
  have HTr := Lib.hid (fun (u : Value) W (hu : IReads W u (madeI l)) => tright_any u (madeI l) W hu)
  rw [hm1] at HTr
  have HRo := Lib.hid (fun (u : Value) W (hu : IReads W u (madeI l)) (hW : Below w.heap.size w W) => troot_any u (madeI l) W hu (hk.mono hW))
  have HEq := Lib.hid (fun (u u' : Value) W (hu : IReads W u (madeI l)) (hu' : IReads W u' (madeI l)) => tequal_any u u' (madeI l) (madeI l) W hu hu' (by omega) (by omega))
  rw [decide_eq_true rfl] at HEq
  have HLast := Lib.hid (fun q x h1 h2 h3 => made_last (l := l) (q := q) (x := x) (by omega) h1 h2 h3)
  have HTurn := Lib.hid (fun c h => made_turned (l := l) (c := c) (by omega) h)
  have HCo := Lib.hid (fun (u : Value) (x : It) W (hu : IReads W u (madeI l)) => tcontains_any u (madeI l) x W hu (by omega))
  have Hk := Lib.hid hk
  unfold StrPost rootS rootK at HRo
  rw [hm1, if_pos rfl, if_pos rfl, errV_0] at HRo
  unfold MadePost at HM HMg
  unfold BoolPost at HH HRt HTr HEq HCo ⊢
  generalize nodeS (madeI l) 0 = NS at *
  generalize madeI l = a at *
  obtain ⟨va, cap, rfl, hcap⟩ := hv.shape
  obtain ⟨n, hn⟩ : ∃ n, n = l.length := ⟨_, rfl⟩
  have Hn := Lib.hid hn
  rw [← hn] at hl40 hcap hb0 hL0 HH HM hv ⊢
  have Hv := Lib.hid hv
  have hmm := @run_makeMap Tryd.prog
  clear hv hh hm1 hm2 hm3 hk hn
  go_enter Tryd.func10, Tryd.ntmps10
  go_wp2_with (first
    | (go_at_call 72; refine (HH.out _ hb0).mono ?_; rintro e w1 ⟨rfl, hB1⟩; have hC1 := hb0.trans (hB1.mono hb0.size); have hL1 := hL0.mono hB1)
    | (go_at_call 73; refine (HRt.out _ hC1).mono ?_; rintro e w2 ⟨rfl, hB2⟩; have hC2 := hC1.trans (hB2.mono hC1.size); have hL2 := hL1.mono hB2; have hL2k := hL2; obtain ⟨p2, -⟩ := hL2k)
    | (go_at_call 74; refine (HM.out _ hC2).mono ?_; rintro e w3 ⟨u, rfl, hu3, hB3⟩; have hC3 := hC2.trans (hB3.mono hC2.size); have hL3 := hL2.mono hB3; have HU3 := Lib.hid hu3; clear hu3 p2))
  have hS0 := SetAt.made w3
  have hbm : Below w3.heap.size w3 (w3.alloc (.map #[] 0)) := (Below.refl _ _).alloc (Nat.le_refl _) _
  have HC3 := Lib.hid hC3
  have HL3 := Lib.hid hL3
  have hlL : w.heap.size < w3.heap.size := World.block_lt_of_cell? w3 ⟨w.heap.size, 0, none⟩ hL3.c
  obtain ⟨BL, hBL⟩ : ∃ BL, BL = w.heap.size := ⟨_, rfl⟩
  rw [← hBL] at hlL HL3 ⊢
  clear hL0 hL1 hL2 hL3 hB1 hB2 hB3 hC1 hC2 hC3 hb0 HH HRt HM hBL
  go_loopw [7, 8] (fun t7 t8 wr => ∃ (k nn : Nat) (tw : Bool) (S : List ByteArray), k ≤ n ∧ nn ≤ k ∧ t7 = .bool tw ∧ t8 = .int .i64 k ∧ SetAt wr w3.heap.size nn S ∧ (∀ x ∈ l.take k, x.ix ∈ S) ∧ (tw = false → (l.take k).Pairwise fun x y => x.ix ≠ y.ix) ∧ Below w3.heap.size w3 wr) (fun _ t8 _ => n - (intOf t8).toNat)
  case atStart => exact ⟨0, 0, false, [], Nat.zero_le _, Nat.le_refl _, rfl, rfl, hS0, fun x hx => by simp at hx, fun _ => List.Pairwise.nil, hbm⟩
  case round =>
    obtain ⟨k, nn, tw, S, hkn, hnn, rfl, rfl, hS, hin, hpw, hbw⟩ := hrel
    have HS := Lib.hid hS
    have HIn := Lib.hid hin
    have HPw := Lib.hid hpw
    have HBw := Lib.hid hbw
    have hLw := HL3.out.mono hbw
    have HLw := Lib.hid hLw
    have HVw : Hid (IReads wr (.slice va n cap) l) := Hv.out.mono (HC3.out.trans (hbw.mono HC3.out.size))
    have p0 := hLw.c
    by_cases hlt : k < n
    · obtain ⟨x, hx⟩ : ∃ x, l[k]? = some x := ⟨_, List.getElem?_eq_getElem (by have := Hn.out; omega)⟩
      obtain ⟨b, off, rfl, c0, -⟩ := HVw.out.at hx
      have HX := Lib.hid hx
      have e1 : (k : Int) < n := by omega
      have e0 : (0 : Int) ≤ k := by omega
      have hs1000 : x.ix.size ≤ 1000 := by have := hsz.out x (List.mem_of_getElem? hx); omega
      have hlook := hS.look x.ix hs1000
      have HNo : Hid (hasB S x.ix = false → ¬ x.ix ∈ S) := fun h hm => by rw [hasB_iff.2 hm] at h; cases h
      generalize hasB S x.ix = cc at *
      clear hx hS hin hpw hbw hLw
      cases tw
      · go_wp2_with (at_mapUpdate; refine wpList_set_add _ rfl _ _ _ rfl w3.heap.size nn S rfl HS.out (by omega) x.ix rfl rfl hs1000 ?_; intro w4 hS4 hG4)
        go_roundw
        case rel => exact ⟨k + 1, nn + 1, cc, x.ix :: S, by omega, by omega, rfl, by go_num, hS4, mem_snoc HX.out HIn.out, fun h => pair_snoc HX.out (HPw.out rfl) HIn.out (HNo.out h), HBw.out.grown hG4 HBw.out.size (fun j hj => by cases hj; exact Nat.le_refl _)⟩
        case measure => simp [intOf]; omega
      · go_wp2_with (at_mapUpdate; refine wpList_set_add _ rfl _ _ _ rfl w3.heap.size nn S rfl HS.out (by omega) x.ix rfl rfl hs1000 ?_; intro w4 hS4 hG4)
        go_roundw
        case rel => exact ⟨k + 1, nn + 1, true, x.ix :: S, by omega, by omega, rfl, by go_num, hS4, mem_snoc HX.out HIn.out, fun h => (by cases h), HBw.out.grown hG4 HBw.out.size (fun j hj => by cases hj; exact Nat.le_refl _)⟩
        case measure => simp [intOf]; omega
    · have e1 : ¬ (k : Int) < n := by omega
      obtain rfl : k = n := by omega
      have hAll : l.take k = l := List.take_of_length_le (by have := Hn.out; omega)
      rw [hAll] at hpw
      have HPw2 := Lib.hid hpw
      have HUw : Hid (IReads wr u a) := HU3.out.mono hbw
      have HCw := Lib.hid (HC3.out.trans (hbw.mono HC3.out.size))
      have hlr : BL < wr.heap.size := World.block_lt_of_cell? wr ⟨BL, 0, none⟩ p0
      have hcase : tw = true ∨ (tw = false ∧ ¬ 0 < k) ∨ (tw = false ∧ 0 < k) := by
        cases tw
        · rcases Nat.lt_or_ge 0 k with h | h
          · exact .inr (.inr ⟨rfl, h⟩)
          · exact .inr (.inl ⟨rfl, by omega⟩)
        · exact .inl rfl
      obtain ⟨W4, hW4⟩ : ∃ W4, W4 = wr := ⟨_, rfl⟩
      rw [← hW4] at HUw HCw HVw HLw hlr p0 ⊢
      clear hS hin hpw hbw hLw hAll HIn HPw HS HBw hW4 hlL HL3 HC3 HU3 hS0 hbm
      have e5 : IntKind.i64.wrap ((k : Int) - 1) = (k : Int) - 1 := IntWalk.i64_in _ (by omega)
      rcases hcase with rfl | ⟨rfl, h0⟩ | ⟨rfl, h0⟩
      case' inl =>
        go_wp2_with (go_at_call 75; refine (HTr.out _ _ HUw.out).mono ?_; rintro e w4 ⟨rfl, hB4⟩; have hC4 := HCw.out.trans (hB4.mono HCw.out.size); have hU4 := HUw.out.mono hB4; have hV4 := HVw.out.mono hB4; have hL4 := HLw.out.mono hB4; have hL4k := hL4; obtain ⟨p4, -⟩ := hL4k)
      case' inr.inl =>
        have e6 : ¬ (0 : Int) < k := by omega
        go_wp2_with (go_at_call 75; refine (HTr.out _ _ HUw.out).mono ?_; rintro e w4 ⟨rfl, hB4⟩; have hC4 := HCw.out.trans (hB4.mono HCw.out.size); have hU4 := HUw.out.mono hB4; have hV4 := HVw.out.mono hB4; have hL4 := HLw.out.mono hB4; have hL4k := hL4; obtain ⟨p4, -⟩ := hL4k)
        clear h0 e6
      case' inr.inr =>
        have e6 : (0 : Int) < k := by omega
        have HPk := Lib.hid (fun W => pick_any by_ k W h0 (by omega))
        have HTn := Lib.hid (fun c => HTurn.out c (HPw2.out rfl))
        go_wp2_with (first
          | (go_at_call 75; refine (HTr.out _ _ HUw.out).mono ?_; rintro e v1 ⟨rfl, hD1⟩; have hL1 := HLw.out.mono hD1; have hL1k := hL1; obtain ⟨q1, -⟩ := hL1k)
          | (go_at_call 76; refine (HPk.out _).mono ?_; rintro e v2 ⟨⟨c, hc, rfl⟩, hD2⟩; have hG2 := hD1.trans (hD2.mono hD1.size); have hL2 := hL1.mono hD2; have hL2k := hL2; obtain ⟨q2, -⟩ := hL2k))
        have hV2 := HVw.out.mono hG2
        obtain ⟨x, hx⟩ : ∃ x, l[c]? = some x := ⟨_, List.getElem?_eq_getElem (by have := Hn.out; omega)⟩
        obtain ⟨b, off, rfl, c0, -⟩ := hV2.at hx
        have f1 : (c : Int) ≤ cap := by omega
        have f2 : (c : Int) ≤ k := by omega
        have f3 : ¬ cap = c := by omega
        have f4 : c ≤ cap := by omega
        have f5 : c ≤ k := by omega
        have f6 : (0 : Int) ≤ c := by omega
        have hVd := hV2.drop (k := c) (m := k - c) (c := cap - c) (by have := Hn.out; omega) (by have := Hn.out; omega) (by omega)
        have HCl := Lib.hid (tclone_any _ (l.drop c) v2.drew (hVd.mono (Below.refl _ _).drew) (by rw [List.length_drop]; have := Hn.out; omega))
        unfold CloPost at HCl
        have HT := Lib.hid (hV2.take (k := c) (c := cap) (by have := Hn.out; omega) f4)
        have hld : (l.drop c).length = k - c := by rw [List.length_drop]; have := Hn.out; omega
        have hlt2 : (l.take c).length = c := by rw [List.length_take]; have := Hn.out; omega
        rw [hld] at HCl
        have y0 := fun z : Grown v2 => z.cell q2
        have hS := InGrown.drew v2
        have HG2 := Lib.hid hG2
        have HL2 := Lib.hid hL2
        clear hx c0 hV2 hVd hL1 hL2 hD1 hD2 q1 hG2
        refine wp_region_D (fun j => decide (j < 7)) (InGrown v2) 9 (by kernel_rfl) rfl ?_
        refine wpAnyD_take (i := 0) 9 (v := ?_) rfl (by kernel_rfl) (fun _ _ _ h => h) (hS) (Or.inl ⟨by first | kernel_rfl | rfl, ?_⟩) ?_
        case refine_2 => (rintro _ ⟨x, rfl⟩; go_simp <;> with_reducible rfl)
        refine wpAnyD_take (i := 1) 9 (v := ?_) rfl (by kernel_rfl) (fun _ _ _ h => h) (hS) (Or.inl ⟨by first | kernel_rfl | rfl, ?_⟩) ?_
        case refine_2 => (rintro _ ⟨x, rfl⟩; go_simp <;> with_reducible rfl)
        refine wpAnyD_take (i := 2) 9 (v := ?_) rfl (by kernel_rfl) (fun _ _ _ h => h) (hS) (Or.inl ⟨by first | kernel_rfl | rfl, ?_⟩) ?_
        case refine_2 => (rintro _ ⟨x, rfl⟩; go_simp <;> with_reducible rfl)
        refine wpAnyD_take (i := 4) 9 (v := ?_) rfl (by kernel_rfl) (fun _ _ _ h => h) (hS) (Or.inl ⟨by first | kernel_rfl | rfl, ?_⟩) ?_
        case refine_2 => (rintro _ ⟨x, rfl⟩; go_simp <;> with_reducible rfl)
        refine wpAnyD_take (i := 5) 9 (v := ?_) rfl (by kernel_rfl) (fun _ _ _ h => h) (hS) (Or.inl ⟨by first | kernel_rfl | rfl, ?_⟩) ?_
        case refine_2 => (rintro _ ⟨x, rfl⟩; go_simp <;> with_reducible rfl)
        refine wpAnyD_take (i := 6) 9 (v := ?_) rfl (by kernel_rfl) (fun _ _ _ h => h) (hS) (Or.inl ⟨by first | kernel_rfl | rfl, ?_⟩) ?_
        case refine_2 => (rintro _ ⟨x, rfl⟩; go_simp <;> with_reducible rfl)
        refine wpAnyD_step 3 (by kernel_rfl) rfl (fun K hK => ?_)
        go_simp
        (go_at_call 77; refine HCl.out.mono ?_; rintro e v3 ⟨cv, rfl, hO3, hD3⟩)
        dsimp only
        refine hK _ _ ⟨fun _ => ?_, ?_⟩
        rotate_left
        clear hK K
        case refine_1 => exact .of ((Below.refl _ _).drew.trans hD3)
        refine wpAnyD_rest 7 (by kernel_rfl) (by kernel_rfl) ?_
        simp only [List.drop_succ_cons, List.drop_zero]
        have HO3 := Lib.hid hO3
        have hD3' : Below v2.heap.size v2 v3 := (Below.refl _ _).drew.trans hD3
        have HD3 := Lib.hid hD3'
        have hT3 := Lib.hid (HT.out.mono hD3').cellsAt
        have hbase : v2.drew.heap.size ≤ v3.heap.size := hD3.size
        clear y0 hS hO3 hD3 hD3'
        have hk2 : (l.drop c ++ l.take c).length = k - c + c := by rw [List.length_append, hld, hlt2]
        have hr2 : (l.drop c ++ l.take c).reverse.length ≤ 1000 := by rw [List.length_reverse, hk2]; omega
        have hr3 : (l.drop c ++ l.take c).length ≤ 1000 := by rw [hk2]; omega
        have HTc := Lib.hid (HTn.out c)
        go_wp2_with (first
          | (at_builtin; refine app_src rfl _ _ 115 rfl v2.drew.heap.size 49 _ 2 32 u_items i_item rfl (by decide) cv (k - c) (icells (l.drop c)) rfl HO3.out ⟨b, off, none⟩ c cap (icells (l.take c)) rfl (by rw [icells_length, hlt2]) hT3.out (icells_one _) (by omega) (by omega) hbase ?_; intro nv v4 hO4 hE4 _; rw [← icells_app, ← hk2] at hO4; have hD4 : Below v2.heap.size v2 v4 := HD3.out.grown hE4 HD3.out.size (fun j hj => (HO3.out.lt j hj).1); have HRv := Lib.hid (trev_any _ nv _ v4 hO4 hr3 hD4.size); unfold RevPost at HRv; clear hO4 hE4)
          | (go_at_call 78; refine HRv.out.mono ?_; rintro e v5 ⟨rfl, hr5, hB5⟩; have hD5 : Below v2.heap.size v2 v5 := hD4.trans hB5; have HM5 := Lib.hid (HMg.out nv _ v5 hr5 hr2); rw [HTc.out] at HM5; clear hr5)
          | (go_at_call 74; refine HM5.out.mono ?_; rintro e v6 ⟨u2, rfl, hu6, hB6⟩; have hG6 := HG2.out.trans ((hD5.trans (hB6.mono hD5.size)).mono HG2.out.size); have hU6 := Lib.hid (HUw.out.mono hG6); have hC6 := HCw.out.trans (hG6.mono HCw.out.size); have HU6 := Lib.hid hu6; clear hu6)
          | (go_at_call 79; with_reducible refine (HRo.out _ _ hU6.out hC6).mono ?_; rintro e v7 ⟨rfl, hB7⟩; have hG7 := hG6.trans (hB7.mono hG6.size); have hC7 := hC6.trans (hB7.mono hC6.size); have HU7 := Lib.hid (HU6.out.mono hB7))
          | (go_at_call 79; with_reducible refine (HRo.out _ _ HU7.out hC7).mono ?_; rintro e v8 ⟨rfl, hB8⟩; have hG8 := hG7.trans (hB8.mono hG7.size); have HU8 := Lib.hid (HU7.out.mono hB8); have hU8 := Lib.hid (HUw.out.mono hG8))
          | (go_at_call 80; refine (HEq.out _ _ _ hU8.out HU8.out).mono ?_; rintro e w4 ⟨rfl, hB9⟩; have hB4 := hG8.trans (hB9.mono hG8.size); have hC4 := HCw.out.trans (hB4.mono HCw.out.size); have hU4 := HUw.out.mono hB4; have hV4 := HVw.out.mono hB4; have hL4 := HLw.out.mono hB4; have hL4k := hL4; obtain ⟨p4, -⟩ := hL4k))
        generalize (some (⟨b, off, none⟩ : Addr)) = va at hV4 hL4 ⊢
      all_goals
        have hI0 := BoxAt.new w4 (.int .i64 ((k : Int) - 1)) 3
        have hb5 : Below w4.heap.size w4 (w4.alloc (.cells #[.int .i64 ((k : Int) - 1)] 3)) := (Below.refl _ _).alloc (Nat.le_refl _) _
        have HC4 := Lib.hid hC4
        have HU4 := Lib.hid hU4
        have HV4 := Lib.hid hV4
        have HL4 := Lib.hid hL4
        clear hC4 hU4 hV4 hL4 p4 hB4
        generalize w4.alloc (.cells #[.int .i64 ((k : Int) - 1)] 3) = W5 at hI0 hb5 ⊢
        go_loopw [16] (fun t16 wq => ∃ p Bi : Nat, p ≤ k ∧ t16 = .pointer (some ⟨Bi, 0, none⟩) ∧ BoxAt wq Bi (.int .i64 ((p : Int) - 1)) ∧ w4.heap.size ≤ Bi ∧ Below w4.heap.size w4 wq) (fun t16 wq => readUp t16 wq)
        case atStart => exact ⟨k, w4.heap.size, Nat.le_refl _, rfl, hI0, Nat.le_refl _, hb5⟩
        case round =>
          obtain ⟨p, Bi, hpk, rfl, hci, hBi, hbq⟩ := hrel
          have HBq := Lib.hid hbq
          have HVq := Lib.hid (HV4.out.mono hbq)
          have HUq := Lib.hid (HU4.out.mono hbq)
          have HLq := Lib.hid (HL4.out.mono hbq)
          have HRd := Lib.hid (readUp_cell hci.c)
          have pL := HLq.out.c
          obtain ⟨pi, fi⟩ := hci
          have hli : Bi < wr.heap.size := World.block_lt_of_cell? wr ⟨Bi, 0, none⟩ pi
          have hlL : BL < wr.heap.size := World.block_lt_of_cell? wr ⟨BL, 0, none⟩ pL
          clear hbq
          by_cases hp0 : 0 < p
          · obtain ⟨q, rfl⟩ : ∃ q, p = q + 1 := ⟨p - 1, by omega⟩
            have hq1 : (((q + 1 : Nat) : Int) - 1) = q := by omega
            rw [hq1] at pi
            have g1 : (q : Int) < k := by omega
            have g0 : (0 : Int) ≤ q := by omega
            have g2 : IntKind.i64.wrap ((q : Int) - 1) = (q : Int) - 1 := IntWalk.i64_in _ (by omega)
            have g3 : IntKind.i64.wrap ((q : Int) + 1) = ((q + 1 : Nat) : Int) := by rw [IntWalk.i64_in _ (by omega)]; rfl
            obtain ⟨x, hx⟩ : ∃ x, l[q]? = some x := ⟨_, List.getElem?_eq_getElem (by have := Hn.out; omega)⟩
            obtain ⟨b, off, rfl, c0, c1⟩ := HVq.out.at hx
            have hlb : b < wr.heap.size := World.block_lt_of_cell? _ _ c0
            have HX := Lib.hid hx
            clear hx hpk
            by_cases z1 : x.ix.size = 16
            · by_cases z2 : x.cm.size = 16
              · have d1 : (x.ix.size : Int) = 16 := by omega
                have d2 : (x.cm.size : Int) = 16 := by omega
                have HIq := Lib.hid (HLast.out q x HX.out ((okIt_iff x).2 ⟨z1, z2⟩))
                have hpred : ∀ y ∈ l.drop (q + 1), ∀ V, Below wr.heap.size wr V → Calls Tryd.prog 82 (#[y.val] ++ #[.pointer (some ⟨BL, 0, none⟩), .pointer (some ⟨Bi, 0, none⟩)]) V fun e w' => e = .returned (.bool (sameI x.ix y)) ∧ Below V.heap.size V w' :=
                  fun y _ V hV => ordp_any y BL Bi b off k cap q x.ix V ((hV.cell (p := ⟨BL, 0, none⟩) hlL).trans pL) ((hV.cell (p := ⟨Bi, 0, none⟩) hli).trans pi) ((hV.cell (p := ⟨b, off + q * 2, none⟩) hlb).trans c0) (by omega)
                have HCf := Lib.hid (fun (A : Option Addr) (m c : Nat) (hr : IReads wr (.slice A m c) (l.drop (q + 1))) => ihas_gen 82 #[.pointer (some ⟨BL, 0, none⟩), .pointer (some ⟨Bi, 0, none⟩)] (enters_of Tryd.func82 (by kernel_rfl) rfl) (sameI x.ix) (.slice A m c) (l.drop (q + 1)) wr hr (by rw [List.length_drop]; have := Hn.out; omega) hpred)
                unfold BoolPost at HCf
                have HIx := Lib.hid (fun W (hu : IReads W u a) => HCo.out u x W hu)
                unfold It.val at HIx
                clear hpred
                by_cases hcq : cap = q + 1
                · have hkq : k = q + 1 := by omega
                  have hnil : l.drop (q + 1) = [] := List.drop_of_length_le (by have := Hn.out; omega)
                  have m2 : (cap : Int) ≤ k := by omega
                  have m3 : k - cap = 0 := by omega
                  have g4 : IntKind.i64.wrap ((q : Int) + 1) = (cap : Int) := by rw [g3, hcq]
                  have m5 : (0 : Int) ≤ cap := by omega
                  have HC1 := Lib.hid (fun A c => HCf.out A 0 c (by rw [hnil]; exact IReads.nil _ _ _))
                  clear hnil hcq hkq g3
                  generalize (l.drop (q + 1)).any (sameI x.ix) = lat at *
                  cases lat
                  · have hin : x ∈ a := HIq.out rfl
                    rw [decide_eq_true hin] at HIx
                    clear hin
                    go_wp2_with (first
                      | (go_at_call 81; refine (HC1.out _ _).mono ?_; rintro e z1 ⟨rfl, hF1⟩; have r0 := (hF1.cell (p := ⟨BL, 0, none⟩) hlL).trans pL; have r1 := (hF1.cell (p := ⟨Bi, 0, none⟩) hli).trans pi; have r2 := (hF1.cell (p := ⟨b, off + q * 2, none⟩) hlb).trans c0; have r3 := (hF1.cell (p := ⟨b, off + q * 2 + 1, none⟩) hlb).trans c1; have hUz := HUq.out.mono hF1; have sL : BL < z1.heap.size := Nat.lt_of_lt_of_le hlL hF1.size; have si : Bi < z1.heap.size := Nat.lt_of_lt_of_le hli hF1.size; have sb : b < z1.heap.size := Nat.lt_of_lt_of_le hlb hF1.size)
                      | (go_at_call 83; refine (HIx.out _ hUz).mono ?_; rintro e z2 ⟨rfl, hF2⟩; have hF := hF1.trans (hF2.mono hF1.size); have t0 := (hF.cell (p := ⟨BL, 0, none⟩) hlL).trans pL; have t1 := (hF.cell (p := ⟨Bi, 0, none⟩) hli).trans pi; have ti : Bi < z2.heap.size := Nat.lt_of_lt_of_le hli hF.size))
                    have hG := HBq.out.trans (hF.mono HBq.out.size)
                    go_roundw
                    case rel => exact ⟨q, z2.heap.size, by omega, rfl, BoxAt.new z2 (.int .i64 ((q : Int) - 1)) 3, hG.size, hG.alloc hG.size _⟩
                    case measure =>
                      rw [readUp_cell (n := q) (BoxAt.new z2 (.int .i64 ((q : Int) - 1)) 3).c, HRd.out]
                      omega
                  · go_wp2_with (go_at_call 81; refine (HC1.out _ _).mono ?_; rintro e z1 ⟨rfl, hF1⟩; have r0 := (hF1.cell (p := ⟨BL, 0, none⟩) hlL).trans pL; have r1 := (hF1.cell (p := ⟨Bi, 0, none⟩) hli).trans pi; have si : Bi < z1.heap.size := Nat.lt_of_lt_of_le hli hF1.size)
                    have hG := HBq.out.trans (hF1.mono HBq.out.size)
                    go_roundw
                    case rel => exact ⟨q, z1.heap.size, by omega, rfl, BoxAt.new z1 (.int .i64 ((q : Int) - 1)) 3, hG.size, hG.alloc hG.size _⟩
                    case measure =>
                      rw [readUp_cell (n := q) (BoxAt.new z1 (.int .i64 ((q : Int) - 1)) 3).c, HRd.out]
                      omega
                · have m1 : ((q + 1 : Nat) : Int) ≤ cap := by omega
                  have m2 : ((q + 1 : Nat) : Int) ≤ k := by omega
                  have hR := Lib.hid (HVq.out.drop (k := q + 1) (m := k - (q + 1)) (c := cap - (q + 1)) (by have := Hn.out; omega) (by have := Hn.out; omega) (by omega))
                  have HC1 := Lib.hid (HCf.out _ _ _ hR.out)
                  generalize (l.drop (q + 1)).any (sameI x.ix) = lat at *
                  cases lat
                  · have hin : x ∈ a := HIq.out rfl
                    rw [decide_eq_true hin] at HIx
                    clear hin
                    go_wp2_with (first
                      | (go_at_call 81; refine HC1.out.mono ?_; rintro e z1 ⟨rfl, hF1⟩; have r0 := (hF1.cell (p := ⟨BL, 0, none⟩) hlL).trans pL; have r1 := (hF1.cell (p := ⟨Bi, 0, none⟩) hli).trans pi; have r2 := (hF1.cell (p := ⟨b, off + q * 2, none⟩) hlb).trans c0; have r3 := (hF1.cell (p := ⟨b, off + q * 2 + 1, none⟩) hlb).trans c1; have hUz := HUq.out.mono hF1; have sL : BL < z1.heap.size := Nat.lt_of_lt_of_le hlL hF1.size; have si : Bi < z1.heap.size := Nat.lt_of_lt_of_le hli hF1.size; have sb : b < z1.heap.size := Nat.lt_of_lt_of_le hlb hF1.size)
                      | (go_at_call 83; refine (HIx.out _ hUz).mono ?_; rintro e z2 ⟨rfl, hF2⟩; have hF := hF1.trans (hF2.mono hF1.size); have t0 := (hF.cell (p := ⟨BL, 0, none⟩) hlL).trans pL; have t1 := (hF.cell (p := ⟨Bi, 0, none⟩) hli).trans pi; have ti : Bi < z2.heap.size := Nat.lt_of_lt_of_le hli hF.size))
                    have hG := HBq.out.trans (hF.mono HBq.out.size)
                    go_roundw
                    case rel => exact ⟨q, z2.heap.size, by omega, rfl, BoxAt.new z2 (.int .i64 ((q : Int) - 1)) 3, hG.size, hG.alloc hG.size _⟩
                    case measure =>
                      rw [readUp_cell (n := q) (BoxAt.new z2 (.int .i64 ((q : Int) - 1)) 3).c, HRd.out]
                      omega
                  · go_wp2_with (go_at_call 81; refine HC1.out.mono ?_; rintro e z1 ⟨rfl, hF1⟩; have r0 := (hF1.cell (p := ⟨BL, 0, none⟩) hlL).trans pL; have r1 := (hF1.cell (p := ⟨Bi, 0, none⟩) hli).trans pi; have si : Bi < z1.heap.size := Nat.lt_of_lt_of_le hli hF1.size)
                    have hG := HBq.out.trans (hF1.mono HBq.out.size)
                    go_roundw
                    case rel => exact ⟨q, z1.heap.size, by omega, rfl, BoxAt.new z1 (.int .i64 ((q : Int) - 1)) 3, hG.size, hG.alloc hG.size _⟩
                    case measure =>
                      rw [readUp_cell (n := q) (BoxAt.new z1 (.int .i64 ((q : Int) - 1)) 3).c, HRd.out]
                      omega
              · have d1 : (x.ix.size : Int) = 16 := by omega
                have d2 : ((x.cm.size : Int) == 16) = false := by rw [beq_eq_false_iff_ne]; omega
                have d3 : (x.cm.size == 16) = false := by rw [beq_eq_false_iff_ne]; exact z2
                have d4 : ((x.cm.size : Int) != 16) = true := by rw [bne_iff_ne]; omega
                go_wp2_with fail
                go_roundw
                case rel => exact ⟨q, wr.heap.size, by omega, rfl, BoxAt.new wr (.int .i64 ((q : Int) - 1)) 3, HBq.out.size, HBq.out.alloc HBq.out.size _⟩
                case measure =>
                  rw [readUp_cell (n := q) (BoxAt.new wr (.int .i64 ((q : Int) - 1)) 3).c, HRd.out]
                  omega
            · have d2 : ((x.ix.size : Int) == 16) = false := by rw [beq_eq_false_iff_ne]; omega
              have d3 : (x.ix.size == 16) = false := by rw [beq_eq_false_iff_ne]; exact z1
              have d4 : ((x.ix.size : Int) != 16) = true := by rw [bne_iff_ne]; omega
              go_wp2_with fail
              go_roundw
              case rel => exact ⟨q, wr.heap.size, by omega, rfl, BoxAt.new wr (.int .i64 ((q : Int) - 1)) 3, HBq.out.size, HBq.out.alloc HBq.out.size _⟩
              case measure =>
                rw [readUp_cell (n := q) (BoxAt.new wr (.int .i64 ((q : Int) - 1)) 3).c, HRd.out]
                omega
          · have g1 : ¬ (0 : Int) ≤ (p : Int) - 1 := by omega
            obtain rfl : p = 0 := by omega
            go_wp2_with fail
            go_ret
            exact ⟨rfl, HC4.out.trans (HBq.out.mono HC4.out.size)⟩
theorem law_order (v : Value) (l : List It) (by_ : Int) (w : World) (hv : IReads w v l) (hk : KAt w 0) :
    Calls Tryd.prog 10 #[v, .int .i64 by_] w (BoolPost true w) := by
  cases hh : heldI l with
  | true => exact law_order_ok v l by_ w hv hh hk
  | false =>
    have hb0 : Below w.heap.size w (w.alloc (.cells #[v] 115)) := (Below.refl _ _).alloc (Nat.le_refl _) _
    have HH := Lib.hid (fun W (hW : Below w.heap.size w W) => held_any v l W (hv.mono hW))
    rw [hh] at HH
    obtain ⟨a, cap, rfl, -⟩ := hv.shape
    unfold BoolPost at HH ⊢
    clear hv hk hh
    go_enter Tryd.func10, Tryd.ntmps10
    go_wp2_with (go_at_call 72; refine (HH.out _ hb0).mono ?_; rintro e w1 ⟨rfl, hB1⟩; have hC1 := hb0.trans (hB1.mono hb0.size))
    go_ret
    exact ⟨rfl, hC1⟩
end Go.Proofs.YtfhjnfocmlndpaaDoor
