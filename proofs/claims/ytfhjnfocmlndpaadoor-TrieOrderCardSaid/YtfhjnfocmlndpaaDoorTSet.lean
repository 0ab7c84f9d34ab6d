/- trie.Set: what it calls: Clone, BinarySearchFunc, Insert. -/
import Derived.Test.YtfhjnfocmlndpaaDoorTItems
import Derived.Test.YtfhjnfocmlndpaaDoorSlices
import Derived.Test.YtfhjnfocmlndpaaDoorShelfC
import Derived.WalkSpells
namespace Go.Proofs.YtfhjnfocmlndpaaDoor
open Go Go.RowKit Go.Proofs

theorem u_items : Tryd.prog.underlying 115 = some (.slice 49) := by kernel_rfl
theorem i_item : (Tryd.prog.info? 49).map (fun i => (i.zero, i.size, i.bytes)) = some (some (.agg #[.string ⟨#[]⟩, .string ⟨#[]⟩]), 2, 32) := by kernel_rfl
theorem IReads.empty {w : World} {n cap : Nat} {l : List It} (h : IReads w (.slice none n cap) l) : l = [] := by
  rcases h.reads.2 with ⟨h0, _⟩ | ⟨b, off, cap', he, _⟩
  · cases l with
    | nil => rfl
    | cons x l => simp [icells, It.cells] at h0
  · simp at he
theorem IReads.cellsAt {w : World} {A : Addr} {n cap : Nat} {l : List It} (h : IReads w (.slice (some A) n cap) l) : ∀ j u, (icells l)[j]? = some u → w.cell? (A.add j) = some u := by
  rcases h.reads.2 with ⟨h0, _⟩ | ⟨b, off, cap', he, hc⟩
  · intro j u hu
    rw [h0] at hu; simp at hu
  · simp only [Value.slice.injEq, Option.some.injEq] at he
    obtain ⟨rfl, -⟩ := he
    intro j u hu
    rw [Addr.add_lit]
    exact hc j u hu
/-- a copy of items, in a row of the call's own -/
def CloPost (l : List It) (w : World) (e : Ending) (w' : World) : Prop := ∃ v', e = .returned v' ∧ Own w' w.heap.size 49 2 v' l.length (icells l) ∧ Below w.heap.size w w'
set_option maxRecDepth 20000 in
set_option maxHeartbeats 1000000 in
theorem tclone_any (v : Value) (l : List It) (w : World) (hv : IReads w v l) (hl : l.length ≤ 1000) :
    Calls Tryd.prog 77 #[v] w (CloPost l w) := by
  obtain ⟨a, cap, rfl, -⟩ := hv.shape
  cases a with
  | none =>
    obtain rfl := hv.empty
    unfold CloPost
    have he := fun (W : World) (c : Nat) => Lib.run_eql_slice_nil (P := Tryd.prog) W 115 49 none 0 c 0 0 u_items
    clear hl
    go_enter Tryd.func77, Tryd.ntmps77
    go_wp2_with fail
    go_ret
    exact ⟨_, rfl, Own.nil _ _ _ _, Below.refl _ _⟩
  | some A =>
    have hc := Lib.hid hv.cellsAt
    have hn := Lib.hid (icells_length l)
    unfold CloPost
    obtain ⟨n, hnl⟩ : ∃ n, n = l.length := ⟨_, rfl⟩
    rw [← hnl] at hl hn ⊢
    have HC := Lib.hid (icells_one l)
    generalize icells l = C at *
    have hb : Below w.heap.size w (w.alloc (.cells #[] 49)) := (Below.refl _ _).alloc (Nat.le_refl _) _
    have hO : Own (w.alloc (.cells #[] 49)) w.heap.size 49 2 (.slice (some ⟨w.heap.size, 0, none⟩) 0 0) 0 [] := ⟨rfl, .inr ⟨w.heap.size, 0, #[], (0, 0), rfl, Nat.le_refl _, heap_alloc_new _ _, Nat.le_refl _, by decide, rfl, fun j hj => by simp at hj, rfl⟩⟩
    have hcW : Hid (∀ j u, C[j]? = some u → (w.alloc (.cells #[] 49)).cell? (A.add j) = some u) := fun j u hu => by
      have h := hc.out j u hu
      rw [World.cell?_alloc_lt _ _ _ (World.block_lt_of_cell? w _ h)]
      exact h
    have he := fun (W : World) (n c : Nat) => Lib.run_eql_slice_nil (P := Tryd.prog) W 115 49 (some A) n c 0 0 u_items
    clear hv hnl
    go_enter Tryd.func77, Tryd.ntmps77
    go_wp2_with (at_builtin; refine app_src rfl _ _ 115 rfl w.heap.size 49 _ 2 32 u_items i_item rfl (by decide) _ 0 [] rfl hO A n cap C rfl hn.out hcW.out HC.out (by omega) (by omega) (by simp) ?_; intro v1 w1 hown1 hgrow1 _)
    go_ret
    exact ⟨_, rfl, by simpa using hown1, hb.grown hgrow1 hb.size (fun k hk => by cases hk; exact Nat.le_refl _)⟩

/-! ### where an index lies -/
theorem cmp_lt : ∀ x y : List UInt8, (Lib.compareBytes x y < 0 ↔ Op.bytesLess x y = true) ∧ (Lib.compareBytes x y = 0 ↔ x = y)
  | [], [] => by simp [Lib.compareBytes, Op.bytesLess]
  | _ :: _, [] => by simp [Lib.compareBytes, Op.bytesLess]
  | [], _ :: _ => by simp [Lib.compareBytes, Op.bytesLess]
  | a :: x, b :: y => by
    obtain ⟨h1, h2⟩ := cmp_lt x y
    unfold Lib.compareBytes Op.bytesLess
    by_cases hab : a < b
    · simp [hab]
      rintro rfl
      exact absurd hab (UInt8.lt_irrefl _)
    · by_cases hba : b < a
      · have hne : ¬ a = b := by rintro rfl; exact absurd hba (UInt8.lt_irrefl _)
        simp [hab, hba, hne]
      · have he : a = b := UInt8.le_antisymm (UInt8.not_lt.1 hba) (UInt8.not_lt.1 hab)
        subst he
        simp [h1, h2]
def cmpI (a b : It) : Int := Lib.compareBytes a.ix.data.toList b.ix.data.toList
theorem cmpI_lt (a b : It) : cmpI a b < 0 ↔ ltB a.ix b.ix = true := by unfold cmpI ltB; rw [ByteArray.toList_eq, ByteArray.toList_eq]; exact (cmp_lt _ _).1
theorem cmpI_eq (a b : It) : cmpI a b = 0 ↔ a.ix = b.ix := by
  unfold cmpI
  rw [(cmp_lt _ _).2]
  exact ⟨fun h => ByteArray.ext (Array.ext' h), fun h => by rw [h]⟩
set_option maxRecDepth 20000 in
theorem tcmp_any (x y : It) (w : World) : Calls Tryd.prog 162 #[x.val, y.val] w fun e w' => e = .returned (.int .i64 (cmpI x y)) ∧ Below w.heap.size w w' := by
  have HC := Lib.hid (fun W => Any.strings_Compare Tryd.lays106 x.ix y.ix W)
  have hb : Below w.heap.size w ((w.alloc (.cells #[.string x.ix, .string x.cm] 49)).alloc (.cells #[.string y.ix, .string y.cm] 49)) := ((Below.refl _ _).alloc (Nat.le_refl _) _).alloc (by simp) _
  have HD : Hid (cmpI x y = Lib.compareBytes x.ix.data.toList y.ix.data.toList) := rfl
  rw [HD.out]
  generalize Lib.compareBytes x.ix.data.toList y.ix.data.toList = D at *
  unfold It.val
  go_enter Tryd.func162, Tryd.ntmps162
  go_wp2_with (go_at_call 163; refine Calls.mono (f := 163) (HC.out _) ?_; rintro e w1 ⟨rfl, hw⟩; have hw2 := hw.symm; subst hw2)
  go_ret
  exact ⟨rfl, hb⟩
def SeaPost (l : List It) (ix : ByteArray) (w : World) (e : Ending) (w' : World) : Prop := e = .returned (.tuple #[.int .i64 (posI l ix : Nat), .bool (thereI l ix)]) ∧ Below w.heap.size w w'
set_option maxRecDepth 20000 in
set_option maxHeartbeats 4000000 in
theorem tsearch_any (v : Value) (l : List It) (x : It) (w : World) (hv : IReads w v l) (hl : l.length ≤ 1000) (hr : Rising l) :
    Calls Tryd.prog 161 #[v, x.val, .func (Fn.func 162) #[] #[]] w (SeaPost l x.ix w) := by
  obtain ⟨a, cap, rfl, -⟩ := hv.shape
  obtain ⟨n, hn⟩ : ∃ n, n = l.length := ⟨_, rfl⟩
  rw [← hn]
  have Hv := Lib.hid (hn ▸ hv : IReads w (.slice a n cap) l)
  have Hn := Lib.hid hn
  have Hr := Lib.hid hr
  have hn1000 : n ≤ 1000 := by omega
  have hb : Below w.heap.size w (w.alloc (.cells #[.string x.ix, .string x.cm] 49)) := (Below.refl _ _).alloc (Nat.le_refl _) _
  have b0 : (w.alloc (.cells #[.string x.ix, .string x.cm] 49)).cell? ⟨w.heap.size, 0, none⟩ = some (.string x.ix) := by rw [cell_of_row _ _ _ _ _ _ (heap_alloc_new _ _)]; rfl
  have b1 : (w.alloc (.cells #[.string x.ix, .string x.cm] 49)).cell? ⟨w.heap.size, 1, none⟩ = some (.string x.cm) := by rw [cell_of_row _ _ _ _ _ _ (heap_alloc_new _ _)]; rfl
  obtain ⟨W0, hW0⟩ : ∃ W0, W0 = w.alloc (.cells #[.string x.ix, .string x.cm] 49) := ⟨_, rfl⟩
  have HW0 := Lib.hid hW0
  rw [← hW0] at hb b0 b1
  unfold It.val
  clear hv hn hl hr hW0
  go_enter Tryd.func161, Tryd.ntmps161
  go_wp2_with fail
  rw [← HW0.out]
  go_loopw [9, 10] (fun i j wr => ∃ p q : Nat, p ≤ q ∧ q ≤ n ∧ i = .int .i64 p ∧ j = .int .i64 q ∧ p ≤ posI l x.ix ∧ posI l x.ix ≤ q ∧ Below w.heap.size w wr ∧ wr.cell? ⟨w.heap.size, 0, none⟩ = some (.string x.ix) ∧ wr.cell? ⟨w.heap.size, 1, none⟩ = some (.string x.cm)) (fun i j _ => (intOf j).toNat - (intOf i).toNat)
  case atStart => exact ⟨0, n, Nat.zero_le _, Nat.le_refl _, rfl, rfl, Nat.zero_le _, by rw [Hn.out]; exact posI_le _ _, hb, b0, b1⟩
  case round =>
    obtain ⟨p, q, hpq, hqn, rfl, rfl, hp, hq, hBw, c0, c1⟩ := hrel
    have HBw := Lib.hid hBw
    have HP := Lib.hid hp
    have HQ := Lib.hid hq
    clear hBw hp hq
    by_cases hlt : p < q
    · have e1 : (p : Int) < q := by omega
      obtain ⟨h, hh⟩ : ∃ h, h = (p + q) / 2 := ⟨_, rfl⟩
      have hh2 : ((p : Int) + q) / 2 = (h : Int) := by omega
      have hhq : h < q := by omega
      have hph : p ≤ h := by omega
      have hhn : h < n := by omega
      have hhn2 : (h : Int) < n := by omega
      have hkl : h < l.length := by have := Hn.out; omega
      obtain ⟨y, hy⟩ : ∃ y, l[h]? = some y := ⟨l[h], List.getElem?_eq_getElem hkl⟩
      have hyl : l[h] = y := by rw [List.getElem?_eq_getElem hkl] at hy; exact Option.some.inj hy
      obtain ⟨b, off, rfl, d0, d1⟩ := (Hv.out.mono HBw.out).at hy
      have HH := Lib.hid hh2
      have HC := Lib.hid (fun W => tcmp_any y x W)
      have hDl := Lib.hid (cmpI_lt y x)
      unfold It.val at HC
      generalize cmpI y x = D at *
      have x0 := fun z : Grown wr => z.cell c0
      have x1 := fun z : Grown wr => z.cell c1
      have y0 := fun z : Grown wr => z.cell d0
      have y1 := fun z : Grown wr => z.cell d1
      have HY := Lib.hid hyl
      have hGo : Hid (∀ W, Below wr.heap.size wr W → Below w.heap.size w W ∧ W.cell? ⟨w.heap.size, 0, none⟩ = some (.string x.ix) ∧ W.cell? ⟨w.heap.size, 1, none⟩ = some (.string x.cm)) := fun W hW => ⟨HBw.out.trans (hW.mono HBw.out.size), by rw [hW.cell (by exact World.block_lt_of_cell? _ _ c0)]; exact c0, by rw [hW.cell (by exact World.block_lt_of_cell? _ _ c1)]; exact c1⟩
      clear hy hh hh2 hyl
      by_cases hD : D < 0
      · have hlt2 := Lib.hid (hDl.out.1 hD)
        clear hDl
        go_wp2_with fail
        rw [HH.out]
        refine wp_region_grown (by kernel_rfl) (by kernel_rfl) ?_
        repeat (quiet_step ((go_at_call 162; rename_i z; exact Grown.call z (HC.out _))))
        refine wpQuiet_nil ?_
        intro z
        obtain ⟨g1, g2, g3⟩ := hGo.out _ z.below
        generalize z.val = w1 at g1 g2 g3 ⊢
        clear x0 x1 y0 y1
        go_wp2_with fail
        go_roundw
        case rel =>
          have hpos : h + 1 ≤ posI l x.ix := by
            rcases Nat.lt_or_ge h (posI l x.ix) with h3 | h3
            · exact h3
            · have := posI_ge Hr.out h3 hkl
              rw [HY.out, hlt2.out] at this
              cases this
          exact ⟨h + 1, q, by omega, hqn, by go_num, rfl, hpos, HQ.out, g1, g2, g3⟩
        case measure => simp [intOf]; omega
      · have hlt2 : Hid (ltB y.ix x.ix = false) := by
          unfold Hid
          cases h4 : ltB y.ix x.ix with
          | false => rfl
          | true => exact absurd (hDl.out.2 h4) hD
        have hD0 : 0 ≤ D := by omega
        clear hDl
        go_wp2_with fail
        rw [HH.out]
        refine wp_region_grown (by kernel_rfl) (by kernel_rfl) ?_
        repeat (quiet_step ((go_at_call 162; rename_i z; exact Grown.call z (HC.out _))))
        refine wpQuiet_nil ?_
        intro z
        obtain ⟨g1, g2, g3⟩ := hGo.out _ z.below
        generalize z.val = w1 at g1 g2 g3 ⊢
        clear x0 x1 y0 y1
        go_wp2_with fail
        go_roundw
        case rel =>
          have hpos : posI l x.ix ≤ h := by
            rcases Nat.lt_or_ge h (posI l x.ix) with h3 | h3
            · have := posI_lt h3 hkl
              rw [HY.out, hlt2.out] at this
              cases this
            · exact h3
          exact ⟨p, h, by omega, by omega, rfl, rfl, HP.out, hpos, g1, g2, g3⟩
        case measure => simp [intOf]; omega
    · obtain rfl : p = q := by omega
      have hpos : posI l x.ix = p := by have := HP.out; have := HQ.out; omega
      have e1 : ¬ (p : Int) < p := by omega
      by_cases hpn : p < n
      · have hkl : p < l.length := by have := Hn.out; omega
        obtain ⟨y, hy⟩ : ∃ y, l[p]? = some y := ⟨l[p], List.getElem?_eq_getElem hkl⟩
        obtain ⟨b, off, rfl, d0, d1⟩ := (Hv.out.mono HBw.out).at hy
        have HT : Hid (thereI l x.ix = decide (y.ix = x.ix)) := by unfold Hid thereI; rw [hpos, hy]
        have HP2 := Lib.hid hpos
        have HC := Lib.hid (fun W => tcmp_any y x W)
        have hDe := Lib.hid (cmpI_eq y x)
        unfold It.val at HC
        generalize cmpI y x = D at *
        have x0 := fun z : Grown wr => z.cell c0
        have x1 := fun z : Grown wr => z.cell c1
        have y0 := fun z : Grown wr => z.cell d0
        have y1 := fun z : Grown wr => z.cell d1
        have e2 : (p : Int) < n := by omega
        have hGo : Hid (∀ W, Below wr.heap.size wr W → Below w.heap.size w W) := fun W hW => HBw.out.trans (hW.mono HBw.out.size)
        clear hy hpos
        by_cases hD : D = 0
        · have hfin : Hid (thereI l x.ix = true) := by unfold Hid; rw [HT.out, decide_eq_true (hDe.out.1 hD)]
          subst hD
          clear hDe
          go_wp2_with fail
          refine wp_region_grown (by kernel_rfl) (by kernel_rfl) ?_
          repeat (quiet_step ((go_at_call 162; rename_i z; exact Grown.call z (HC.out _))))
          refine wpQuiet_nil ?_
          intro z
          have g1 := hGo.out _ z.below
          generalize z.val = w1 at g1 ⊢
          clear x0 x1 y0 y1
          go_wp2_with fail
          go_ret2
          exact ⟨by rw [HP2.out, hfin.out]; rfl, g1⟩
        · have hfin : Hid (thereI l x.ix = false) := by unfold Hid; rw [HT.out, decide_eq_false (fun h => hD (hDe.out.2 h))]
          have hD2 : (D == 0) = false := by rw [beq_eq_false_iff_ne]; exact hD
          clear hDe
          go_wp2_with fail
          refine wp_region_grown (by kernel_rfl) (by kernel_rfl) ?_
          repeat (quiet_step ((go_at_call 162; rename_i z; exact Grown.call z (HC.out _))))
          refine wpQuiet_nil ?_
          intro z
          have g1 := hGo.out _ z.below
          generalize z.val = w1 at g1 ⊢
          clear x0 x1 y0 y1
          go_wp2_with fail
          go_ret2
          exact ⟨by rw [HP2.out, hfin.out]; rfl, g1⟩
      · have HT : Hid (thereI l x.ix = false) := by
          unfold Hid thereI
          rw [hpos, List.getElem?_eq_none (by have := Hn.out; omega)]
        have HP2 := Lib.hid hpos
        have e2 : ¬ (p : Int) < n := by omega
        have e3 : decide (p < n) = false := decide_eq_false hpn
        clear hpos
        go_wp2_with fail
        go_quiet (fail)
        go_wp2_with fail
        go_ret2
        exact ⟨by rw [HP2.out, HT.out]; rfl, belowN HBw.out _⟩
end Go.Proofs.YtfhjnfocmlndpaaDoor
