/- trie.Set. -/
import Derived.Test.YtfhjnfocmlndpaaDoorTIns
namespace Go.Proofs.YtfhjnfocmlndpaaDoor
open Go Go.RowKit Go.Proofs

theorem Own.free {w : World} {base : Nat} {e : TypeId} {size g n cap : Nat} {xs : List Value} (h : Own w base e size (.slice (some ⟨g, 0, none⟩) n cap) n xs) {i : Nat} (hi : i < n * size) : w.frozen? ⟨g, i, none⟩ = false := by
  rcases h.2 with ⟨hv, _⟩ | ⟨g', cap', cur, fr, hv, _, hg, hnc, _, hcs, hfr, _⟩
  · cases hv
  · simp only [Value.slice.injEq, Option.some.injEq, Addr.mk.injEq, and_true, true_and] at hv
    obtain ⟨rfl, rfl⟩ := hv
    have := hfr i (by rw [hcs]; exact Nat.lt_of_lt_of_le hi (Nat.mul_le_mul_right _ hnc))
    obtain ⟨lo, hi2⟩ := fr
    simp only [World.frozen?, hg]
    simp only [Bool.and_eq_false_iff, decide_eq_false_iff_not]
    omega
theorem Own.set {w : World} {base : Nat} {e : TypeId} {size g n cap : Nat} {xs : List Value} (h : Own w base e size (.slice (some ⟨g, 0, none⟩) n cap) n xs) (i : Nat) (u : Value) : Own (w.setCell ⟨g, i, none⟩ u) base e size (.slice (some ⟨g, 0, none⟩) n cap) n (xs.set i u) := by
  obtain ⟨hl, hr⟩ := h
  refine ⟨by rw [List.length_set]; exact hl, ?_⟩
  rcases hr with ⟨hv, _⟩ | ⟨g', cap', cur, fr, hv, hb, hg, hnc, hcm, hcs, hfr, ht⟩
  · cases hv
  · simp only [Value.slice.injEq, Option.some.injEq, Addr.mk.injEq, and_true, true_and] at hv
    obtain ⟨rfl, rfl⟩ := hv
    refine .inr ⟨g, cap, cur.setIfInBounds i u, fr, rfl, hb, setCell_heap _ _ _ _ _ _ _ hg, hnc, hcm, by simpa using hcs, by simpa using hfr, ?_⟩
    rw [Array.toList_setIfInBounds, List.take_set, ht]
theorem set_two {α : Type} (C : List α) (i : Nat) (a b : α) (h : i + 2 ≤ C.length) : (C.set i a).set (i + 1) b = C.take i ++ [a, b] ++ C.drop (i + 2) := by
  apply List.ext_getElem?
  intro j
  rw [List.getElem?_set, List.getElem?_set, List.length_set]
  rcases Nat.lt_trichotomy j i with h1 | h1 | h1
  · rw [if_neg (by omega), if_neg (by omega), List.append_assoc, List.getElem?_append_left (by rw [List.length_take]; omega), List.getElem?_take, if_pos h1]
  · subst h1
    rw [if_neg (by omega), if_pos rfl, if_pos (by omega), List.append_assoc, List.getElem?_append_right (by rw [List.length_take]; omega)]
    simp [List.length_take, Nat.min_eq_left (show j ≤ C.length by omega)]
  · rcases Nat.eq_or_lt_of_le h1 with h2 | h2
    · subst h2
      rw [if_pos rfl, if_pos (by omega), List.append_assoc, List.getElem?_append_right (by rw [List.length_take]; omega)]
      simp [List.length_take, Nat.min_eq_left (show i ≤ C.length by omega), show i + 1 - i = 1 by omega]
    · rw [if_neg (by omega), if_neg (by omega), List.getElem?_append_right (by simp; omega), List.getElem?_drop]
      congr 1
      simp; omega
/-- the items with another one's commit in its place -/
theorem setAt_there {l : List It} {x : It} (h : thereI l x.ix = true) (hk : posI l x.ix < l.length) : icells (setAt l x) = ((icells l).set (posI l x.ix * 2) (.string x.ix)).set (posI l x.ix * 2 + 1) (.string x.cm) := by
  rw [set_two _ _ _ _ (by rw [icells_length]; omega)]
  unfold setAt
  rw [h, if_pos rfl, icells_app, icells_cons, icells_take, icells_drop, Nat.add_mul, List.append_assoc]
  rfl
theorem setAt_new {l : List It} {x : It} (h : thereI l x.ix = false) : setAt l x = insI l (posI l x.ix) x := by unfold setAt insI; rw [h]; simp
theorem there_lt {l : List It} {ix : ByteArray} (h : thereI l ix = true) : posI l ix < l.length := by
  unfold thereI at h
  rcases Nat.lt_or_ge (posI l ix) l.length with h2 | h2
  · exact h2
  · rw [List.getElem?_eq_none h2] at h; cases h
def SetPost (l : List It) (x : It) (w : World) (e : Ending) (w' : World) : Prop := ∃ v', e = .returned (.tuple #[v', errV (setK l x)]) ∧ IReads w' v' (setO l x) ∧ Below w.heap.size w w'
set_option maxRecDepth 20000 in
set_option maxHeartbeats 4000000 in
theorem tset_any (v : Value) (l : List It) (x : It) (w : World) (hv : IReads w v l) : Calls Tryd.prog 136 #[v, x.val] w (SetPost l x w) := by
  have HR := Lib.hid (fun W (hW : Below w.heap.size w W) => tright_any v l W (hv.mono hW))
  have HX := Lib.hid (fun W => tright_any _ [x] _ (IReads.lit W x))
  unfold BoolPost at HR HX
  rw [rightI_one] at HX
  have hb : Below w.heap.size w (w.alloc (.cells #[.string x.ix, .string x.cm] 49)) := (Below.refl _ _).alloc (Nat.le_refl _) _
  have b0 : (w.alloc (.cells #[.string x.ix, .string x.cm] 49)).cell? ⟨w.heap.size, 0, none⟩ = some (.string x.ix) := by rw [cell_of_row _ _ _ _ _ _ (heap_alloc_new _ _)]; rfl
  have b1 : (w.alloc (.cells #[.string x.ix, .string x.cm] 49)).cell? ⟨w.heap.size, 1, none⟩ = some (.string x.cm) := by rw [cell_of_row _ _ _ _ _ _ (heap_alloc_new _ _)]; rfl
  obtain ⟨W0, hW0⟩ : ∃ W0, W0 = w.alloc (.cells #[.string x.ix, .string x.cm] 49) := ⟨_, rfl⟩
  have HW0 := Lib.hid hW0
  rw [← hW0] at hb b0 b1
  have hBX : Hid (∀ W, Below w.heap.size w W → W.cell? ⟨w.heap.size, 0, none⟩ = some (.string x.ix) → w.heap.size < W.heap.size) := fun W _ h => World.block_lt_of_cell? _ _ h
  cases hr : rightI l with
  | false =>
    have hK : Hid (setK l x = 1) := by unfold Hid setK; rw [hr]; rfl
    have hO : Hid (setO l x = []) := by unfold Hid setO; rw [hK.out]; rfl
    rw [hr] at HR
    unfold SetPost It.val
    clear hW0 hv hr HX
    go_enter Tryd.func136, Tryd.ntmps136
    go_wp2_with (go_at_call 75; rw [← HW0.out]; refine (HR.out _ hb).mono ?_; rintro e w1 ⟨rfl, hB1⟩)
    go_ret2
    exact ⟨_, by rw [hK.out]; rfl, by rw [hO.out]; exact IReads.nil _ _ _, hb.trans (hB1.mono hb.size)⟩
  | true =>
    rw [hr] at HR
    cases hx : okIt x with
    | false =>
      have hK : Hid (setK l x = 1) := by unfold Hid setK; rw [hr, rightI_one, hx]; rfl
      have hO : Hid (setO l x = []) := by unfold Hid setO; rw [hK.out]; rfl
      rw [hx] at HX
      unfold SetPost It.val
      clear hW0 hv hr hx
      go_enter Tryd.func136, Tryd.ntmps136
      go_wp2_with fail
      rw [← HW0.out]
      refine (HR.out _ hb).mono ?_
      rintro e w1 ⟨rfl, hB1⟩
      have hC1 := hb.trans (hB1.mono hb.size)
      have c0 := (hB1.cell (p := ⟨w.heap.size, 0, none⟩) (World.block_lt_of_cell? _ _ b0)).trans b0
      have c1 := (hB1.cell (p := ⟨w.heap.size, 1, none⟩) (World.block_lt_of_cell? _ _ b1)).trans b1
      go_wp2_with fail
      refine (HX.out _).mono ?_
      rintro e w2 ⟨rfl, hB2⟩
      have hC2 := (hC1.alloc hC1.size (.cells #[.string x.ix, .string x.cm] 49)).trans (hB2.mono (Nat.le_trans hC1.size (by simp)))
      go_wp2_with fail
      go_ret2
      exact ⟨_, by rw [hK.out]; rfl, by rw [hO.out]; exact IReads.nil _ _ _, hC2⟩
    | true =>
      have hri := (rightI_iff l).1 hr
      have hl60 : l.length ≤ 60 := hri.1
      have hlim : l.length ≤ 1000 := by omega
      have HS := Lib.hid (fun W (hW : Below w.heap.size w W) => tsearch_any v l x W (hv.mono hW) hlim hri.2.2)
      have HCl := Lib.hid (fun W (hW : Below w.heap.size w W) => tclone_any v l W (hv.mono hW) hlim)
      rw [hx] at HX
      unfold SeaPost It.val at HS
      have hpl := posI_le l x.ix
      have hS1 : Hid (setAt l x = setAt l x) := rfl
      cases ht : thereI l x.ix with
      | true =>
        have hK : Hid (setK l x = 0) := by unfold Hid setK; rw [hr, rightI_one, hx, ht]; rfl
        have hO : Hid (setO l x = setAt l x) := by unfold Hid setO; rw [hK.out]; rfl
        have hplt := there_lt ht
        have hA := Lib.hid (setAt_there ht hplt)
        have hAl : Hid ((setAt l x).length = l.length) := by unfold Hid; rw [setAt_length, ht]; rfl
        have hCl := Lib.hid (icells_length l)
        rw [ht] at HS
        generalize posI l x.ix = k at *
        unfold SetPost It.val
        unfold CloPost at HCl
        obtain ⟨n, hn⟩ : ∃ n, n = l.length := ⟨_, rfl⟩
        rw [← hn] at HCl hplt hlim hAl hCl
        have Hn := Lib.hid hn
        have i1 : (k : Int) < n := by omega
        have i0 : (0 : Int) ≤ k := by omega
        clear hW0 hv hr hx ht hri hl60 hpl hn hS1
        go_enter Tryd.func136, Tryd.ntmps136
        go_wp2_with fail
        rw [← HW0.out]
        refine (HR.out _ hb).mono ?_
        rintro e w1 ⟨rfl, hB1⟩
        have hC1 := hb.trans (hB1.mono hb.size)
        have c0 := (hB1.cell (p := ⟨w.heap.size, 0, none⟩) (World.block_lt_of_cell? _ _ b0)).trans b0
        have c1 := (hB1.cell (p := ⟨w.heap.size, 1, none⟩) (World.block_lt_of_cell? _ _ b1)).trans b1
        go_wp2_with fail
        refine (HX.out _).mono ?_
        rintro e w2 ⟨rfl, hB2⟩
        have hD2 : Below w1.heap.size w1 w2 := ((Below.refl _ _).alloc (Nat.le_refl _) _).trans (hB2.mono (by simp))
        have hC2 := hC1.trans (hD2.mono hC1.size)
        have d0 := (hD2.cell (p := ⟨w.heap.size, 0, none⟩) (World.block_lt_of_cell? _ _ c0)).trans c0
        have d1 := (hD2.cell (p := ⟨w.heap.size, 1, none⟩) (World.block_lt_of_cell? _ _ c1)).trans c1
        clear c0 c1 b0 b1
        go_wp2_with fail
        refine (HS.out _ hC2).mono ?_
        rintro e w3 ⟨rfl, hB3⟩
        have hC3 := hC2.trans (hB3.mono hC2.size)
        have f0 := (hB3.cell (p := ⟨w.heap.size, 0, none⟩) (World.block_lt_of_cell? _ _ d0)).trans d0
        have f1 := (hB3.cell (p := ⟨w.heap.size, 1, none⟩) (World.block_lt_of_cell? _ _ d1)).trans d1
        clear d0 d1
        go_wp2_with fail
        refine (HCl.out _ hC3).mono ?_
        rintro e w4 ⟨v4, rfl, hown4, hB4⟩
        have hC4 := hC3.trans (hB4.mono hC3.size)
        have q0 := (hB4.cell (p := ⟨w.heap.size, 0, none⟩) (World.block_lt_of_cell? _ _ f0)).trans f0
        have q1 := (hB4.cell (p := ⟨w.heap.size, 1, none⟩) (World.block_lt_of_cell? _ _ f1)).trans f1
        clear f0 f1
        obtain ⟨g, cap, rfl, hbg, hgl, hncap, -⟩ := hown4.some_ (by omega)
        have hgw : Hid (w.heap.size ≤ g) := Nat.le_trans hC3.size hbg
        have HO4 := Lib.hid hown4
        obtain ⟨u0, hu0⟩ : ∃ u0, (icells l)[k * 2]? = some u0 := ⟨_, List.getElem?_eq_getElem (by rw [hCl.out]; omega)⟩
        obtain ⟨u1, hu1⟩ : ∃ u1, (icells l)[k * 2 + 1]? = some u1 := ⟨_, List.getElem?_eq_getElem (by rw [hCl.out]; omega)⟩
        have m0 := hown4.cell (g := g) rfl hu0
        have m1 := hown4.cell (g := g) rfl hu1
        have n0 := hown4.free (i := k * 2) (by omega)
        have n1 := hown4.free (i := k * 2 + 1) (by omega)
        clear hown4 hu0 hu1 hbg hgl hncap
        go_wp2_with fail
        go_ret2
        refine ⟨_, by rw [hK.out]; rfl, ?_, below_set (below_set hC4 hgw.out _) hgw.out _⟩
        rw [hO.out]
        have h := (HO4.out.set (k * 2) (.string x.ix)).set (k * 2 + 1) (.string x.cm)
        rw [← hA.out] at h
        refine IReads.of_own (base := w3.heap.size) ?_
        rw [hAl.out]
        exact h
      | false =>
        have hA := Lib.hid (setAt_new ht)
        rw [ht] at HS
        by_cases h60 : l.length = 60
        · have hK : Hid (setK l x = 12) := by unfold Hid setK; rw [hr, rightI_one, hx, ht, h60]; rfl
          have hO : Hid (setO l x = []) := by unfold Hid setO; rw [hK.out]; rfl
          generalize posI l x.ix = k at *
          unfold SetPost It.val
          unfold CloPost at HCl
          rw [h60] at HCl
          clear hW0 hv hr hx ht hri hl60 hpl hS1 h60
          go_enter Tryd.func136, Tryd.ntmps136
          go_wp2_with fail
          rw [← HW0.out]
          refine (HR.out _ hb).mono ?_
          rintro e w1 ⟨rfl, hB1⟩
          have hC1 := hb.trans (hB1.mono hb.size)
          have c0 := (hB1.cell (p := ⟨w.heap.size, 0, none⟩) (World.block_lt_of_cell? _ _ b0)).trans b0
          have c1 := (hB1.cell (p := ⟨w.heap.size, 1, none⟩) (World.block_lt_of_cell? _ _ b1)).trans b1
          go_wp2_with fail
          refine (HX.out _).mono ?_
          rintro e w2 ⟨rfl, hB2⟩
          have hD2 : Below w1.heap.size w1 w2 := ((Below.refl _ _).alloc (Nat.le_refl _) _).trans (hB2.mono (by simp))
          have hC2 := hC1.trans (hD2.mono hC1.size)
          have d0 := (hD2.cell (p := ⟨w.heap.size, 0, none⟩) (World.block_lt_of_cell? _ _ c0)).trans c0
          have d1 := (hD2.cell (p := ⟨w.heap.size, 1, none⟩) (World.block_lt_of_cell? _ _ c1)).trans c1
          clear c0 c1 b0 b1
          go_wp2_with fail
          refine (HS.out _ hC2).mono ?_
          rintro e w3 ⟨rfl, hB3⟩
          have hC3 := hC2.trans (hB3.mono hC2.size)
          clear d0 d1
          go_wp2_with fail
          refine (HCl.out _ hC3).mono ?_
          rintro e w4 ⟨v4, rfl, hown4, hB4⟩
          have hC4 := hC3.trans (hB4.mono hC3.size)
          obtain ⟨g, cap, rfl, -⟩ := hown4.some_ (by omega)
          clear hown4
          go_wp2_with fail
          go_ret2
          exact ⟨_, by rw [hK.out]; rfl, by rw [hO.out]; exact IReads.nil _ _ _, hC4⟩
        · have hK : Hid (setK l x = 0) := by unfold Hid setK; rw [hr, rightI_one, hx, ht]; simp [h60]
          have hO : Hid (setO l x = insI l (posI l x.ix) x) := by unfold Hid setO; rw [hK.out, ← hA.out]; rfl
          have HIn := Lib.hid (fun (base : Nat) (u : Value) (W : World) ho hb => tins_any base u (posI l x.ix) l x W ho hb hlim hpl)
          unfold InsPost at HIn
          generalize posI l x.ix = k at *
          unfold SetPost It.val
          unfold CloPost at HCl
          obtain ⟨n, hn⟩ : ∃ n, n = l.length := ⟨_, rfl⟩
          have e60 : ((n : Int) == 60) = false := by rw [beq_eq_false_iff_ne]; omega
          have Hn := Lib.hid hn
          clear hW0 hv hr hx ht hri hl60 hpl hS1 h60 hn
          go_enter Tryd.func136, Tryd.ntmps136
          go_wp2_with fail
          rw [← HW0.out]
          refine (HR.out _ hb).mono ?_
          rintro e w1 ⟨rfl, hB1⟩
          have hC1 := hb.trans (hB1.mono hb.size)
          have c0 := (hB1.cell (p := ⟨w.heap.size, 0, none⟩) (World.block_lt_of_cell? _ _ b0)).trans b0
          have c1 := (hB1.cell (p := ⟨w.heap.size, 1, none⟩) (World.block_lt_of_cell? _ _ b1)).trans b1
          go_wp2_with fail
          refine (HX.out _).mono ?_
          rintro e w2 ⟨rfl, hB2⟩
          have hD2 : Below w1.heap.size w1 w2 := ((Below.refl _ _).alloc (Nat.le_refl _) _).trans (hB2.mono (by simp))
          have hC2 := hC1.trans (hD2.mono hC1.size)
          have d0 := (hD2.cell (p := ⟨w.heap.size, 0, none⟩) (World.block_lt_of_cell? _ _ c0)).trans c0
          have d1 := (hD2.cell (p := ⟨w.heap.size, 1, none⟩) (World.block_lt_of_cell? _ _ c1)).trans c1
          clear c0 c1 b0 b1
          go_wp2_with fail
          refine (HS.out _ hC2).mono ?_
          rintro e w3 ⟨rfl, hB3⟩
          have hC3 := hC2.trans (hB3.mono hC2.size)
          have f0 := (hB3.cell (p := ⟨w.heap.size, 0, none⟩) (World.block_lt_of_cell? _ _ d0)).trans d0
          have f1 := (hB3.cell (p := ⟨w.heap.size, 1, none⟩) (World.block_lt_of_cell? _ _ d1)).trans d1
          clear d0 d1
          go_wp2_with fail
          refine (HCl.out _ hC3).mono ?_
          rintro e w4 ⟨v4, rfl, hown4, hB4⟩
          have hC4 := hC3.trans (hB4.mono hC3.size)
          have q0 := (hB4.cell (p := ⟨w.heap.size, 0, none⟩) (World.block_lt_of_cell? _ _ f0)).trans f0
          have q1 := (hB4.cell (p := ⟨w.heap.size, 1, none⟩) (World.block_lt_of_cell? _ _ f1)).trans f1
          clear f0 f1
          have HO4 := Lib.hid hown4
          obtain ⟨a4, cap4, rfl⟩ : ∃ a4 cap4, v4 = .slice a4 n cap4 := by
            have h := (IReads.of_own hown4).shape
            obtain ⟨a4, cap4, h, _⟩ := h
            exact ⟨a4, cap4, by rw [h, ← Hn.out]⟩
          have hb34 := hB4.size
          clear hown4
          go_wp2_with fail
          refine (HIn.out w3.heap.size _ _ HO4.out hb34).mono ?_
          rintro e w5 ⟨v5, rfl, hown5, hB5⟩
          have hC5 := hC4.trans (hB5.mono (Nat.le_trans hC3.size (Nat.le_refl _)))
          go_wp2_with fail
          go_ret2
          exact ⟨_, by rw [hK.out]; rfl, by rw [hO.out]; exact IReads.of_own hown5, hC5⟩
end Go.Proofs.YtfhjnfocmlndpaaDoor
