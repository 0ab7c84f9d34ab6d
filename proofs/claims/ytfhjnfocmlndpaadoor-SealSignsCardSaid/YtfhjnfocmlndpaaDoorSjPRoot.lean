/- proof.Root: to which root a proof leads (the program's; a range over slices.Backward). -/
import Derived.Test.YtfhjnfocmlndpaaDoorSjChunk
import Derived.Test.YtfhjnfocmlndpaaDoorSjPRight
import Derived.Test.YtfhjnfocmlndpaaDoorSjNext
namespace Go.Proofs.YtfhjnfocmlndpaaDoor
open Go Go.RowKit Go.Proofs Go.Shelf
attribute [local go_sem] Oper.semAt_some

/-- a box of one cell that the call owns -/
structure Cell1 (w : World) (b : Nat) (v : Value) : Prop where
  c : w.cell? ⟨b, 0, none⟩ = some v
  f : w.frozen? ⟨b, 0, none⟩ = false
theorem Cell1.new (w : World) (v : Value) (T : TypeId) : Cell1 (w.alloc (.cells #[v] T)) w.heap.size v :=
  ⟨by rw [cell_of_row _ _ _ _ _ _ (heap_alloc_new _ _)]; rfl, by have h := heap_alloc_new w (.cells #[v] T); unfold World.frozen?; rw [h]; rfl⟩
theorem Cell1.mono {w w' : World} {b : Nat} {v : Value} (h : Cell1 w b v) (hb : Below w.heap.size w w') : Cell1 w' b v := by
  have hlt : b < w.heap.size := World.block_lt_of_cell? w ⟨b, 0, none⟩ h.c
  exact ⟨by rw [hb.cell (by exact hlt)]; exact h.c, by have := h.f; unfold World.frozen? at this ⊢; rw [hb.block b hlt]; exact this⟩
theorem Cell1.set {w : World} {b : Nat} {v : Value} (h : Cell1 w b v) (u : Value) : Cell1 (w.setCell ⟨b, 0, none⟩ u) b u :=
  ⟨World.cell?_setCell_same _ _ _ h.c, by rw [World.frozen?_setCell]; exact h.f⟩

/-! ### in plain Lean -/
/-- a mark beside the way, and its place -/
abbrev Side : Type := { x : Nat × ByteArray // x.1 < 128 ∧ x.2.size = 16 }
def sideOf (path : List ByteArray) (j : Nat) : Side := if h : (fromEnd path j).1 < 128 ∧ (fromEnd path j).2.size = 16 then ⟨fromEnd path j, h⟩ else ⟨(0, ⟨#[0, 0, 0, 0, 0, 0, 0, 0, 0, 0, 0, 0, 0, 0, 0, 0]⟩), by decide, rfl⟩
def stepP (ix : ByteArray) (s : ByteArray) (x : Side) : ByteArray := if bitAt ix x.val.1 = 1 then joinS x.val.2 s else joinS s x.val.2
def startS (path : List ByteArray) (li lc : ByteArray) : ByteArray := if li.size = 0 then emptyS path.length else leafS li lc path.length
/-- behind the last k marks of the way -/
def leadTo (ix : ByteArray) (path : List ByteArray) (li lc : ByteArray) (k : Nat) : ByteArray := (upto (sideOf path) k).foldl (stepP ix) (startS path li lc)
def leadS (ix : ByteArray) (path : List ByteArray) (li lc : ByteArray) : ByteArray := leadTo ix path li lc path.length
open Classical in
noncomputable def prootS (ix : ByteArray) (path : List ByteArray) (li lc : ByteArray) : ByteArray := if rightP ix path li lc then leadS ix path li lc else ⟨#[]⟩
open Classical in
noncomputable def prootK (ix : ByteArray) (path : List ByteArray) (li lc : ByteArray) : Int := if rightP ix path li lc then 0 else 1
theorem sideOf_is {path : List ByteArray} (h1 : path.length ≤ 128) (h2 : ∀ p ∈ path, p.size = 16) {j : Nat} (hj : j < path.length) : (sideOf path j).val = fromEnd path j := by
  have : (fromEnd path j).1 < 128 ∧ (fromEnd path j).2.size = 16 := by
    refine ⟨by show path.length - 1 - j < 128; omega, ?_⟩
    show (path[path.length - 1 - j]?.getD ⟨#[]⟩).size = 16
    rw [List.getElem?_eq_getElem (by omega)]
    exact h2 _ (List.getElem_mem _)
  unfold sideOf
  rw [dif_pos this]
theorem stepP_size (ix s : ByteArray) (x : Side) : (stepP ix s x).size = 16 := by
  unfold stepP
  split <;> exact markS_size _ _
theorem startS_size (path : List ByteArray) (li lc : ByteArray) : (startS path li lc).size = 16 := by
  unfold startS
  split <;> exact markS_size _ _
theorem fold_size (ix : ByteArray) : ∀ (l : List Side) (s : ByteArray), s.size = 16 → (l.foldl (stepP ix) s).size = 16
  | [], _, h => h
  | x :: l, s, _ => fold_size ix l _ (stepP_size ix s x)

set_option maxRecDepth 100000 in
set_option maxHeartbeats 4000000 in
theorem proot_ok (ix : ByteArray) (pv : Value) (path : List ByteArray) (li lc : ByteArray) (w : World) (hv : Reads w pv path.length 1 (path.map Value.string)) (hr : rightP ix path li lc) (hk : KAt w 0) :
    Calls Tryd.prog 33 #[.string ix, .agg #[pv, .string li, .string lc]] w fun e w' => e = .returned (.tuple #[.string (leadS ix path li lc), .nilIface]) ∧ Below w.heap.size w w' := by
  obtain ⟨a, cap, rfl⟩ : ∃ a cap, pv = .slice a path.length cap := by
    rcases hv.2 with ⟨_, a, c, rfl⟩ | ⟨b, off, cap, rfl, _⟩
    · exact ⟨a, c, rfl⟩
    · exact ⟨_, cap, rfl⟩
  have hPR := Lib.hid (fun W (hb : Below w.heap.size w W) => pright_any ix (.slice a path.length cap) path li lc W (hv.mono hb) (by have := hr.2.1; omega))
  have hRB : rightB ix path li lc = true := by unfold rightB; exact @decide_eq_true _ (Classical.propDecidable _) hr
  rw [hRB] at hPR
  have hWb : Below w.heap.size w ((w.alloc (.cells #[.string ix] 9)).alloc (.cells #[.slice a path.length cap, .string li, .string lc] 51)) := ((Below.refl _ _).alloc (Nat.le_refl _) _).alloc (by simp) _
  have b0 : ((w.alloc (.cells #[.string ix] 9)).alloc (.cells #[.slice a path.length cap, .string li, .string lc] 51)).cell? ⟨w.heap.size, 0, none⟩ = some (.string ix) := by rw [World.cell?_alloc_lt _ _ _ (by simp), cell_of_row _ _ _ _ _ _ (heap_alloc_new _ _)]; rfl
  have hP : Row3 ((w.alloc (.cells #[.string ix] 9)).alloc (.cells #[.slice a path.length cap, .string li, .string lc] 51)) (w.heap.size + 1) (.slice a path.length cap) (.string li) (.string lc) := by
    have h := Row3.of_row (T := 51) (heap_alloc_new (w.alloc (.cells #[.string ix] 9)) (.cells #[.slice a path.length cap, .string li, .string lc] 51))
    rw [World.size_alloc] at h
    exact h
  have Hk := Lib.hid hk
  have Hr := Lib.hid hr
  have Hv := Lib.hid hv
  have hlen : path.length ≤ 1000 := by have := hr.2.1; omega
  obtain ⟨n, hn⟩ : ∃ n, n = path.length := ⟨_, rfl⟩
  have Hn := Lib.hid hn
  rw [← hn] at hPR hWb b0 hP hlen ⊢
  clear hv hr hk hRB hn
  by_cases h0 : li.size = 0
  · have g1 := toList_nil h0
    have g2 : lc.toList = [] := by
      rcases Hr.out.2.2.2 with h | h
      · exact toList_nil h.2
      · omega
    have hS : Hid (startS path li lc = emptyS n) := by unfold Hid startS; rw [if_pos h0, ← Hn.out]
    clear h0
    refine (callsIn_wide (n := 5)).1 ?_
    refine callsIn_of_wp_marks Tryd.func33 rfl trivial ?_ rfl
    simp only [Tryd.ntmps33, List.size_toArray, List.length_cons, List.length_nil, Nat.reduceAdd, Nat.reduceSub, Array.replicate_succ, Array.replicate_zero, List.push_toArray, List.append_toArray, List.nil_append, List.cons_append]
    gi_wp2_with (first
      | (refine ⟨trivial, ?_⟩; gi_at_call 34; refine (callsIn_wide.2 (hPR.out _ hWb)).mono ?_; rintro e w1 ⟨rfl, hB1⟩; have hC1 := hWb.trans (hB1.mono hWb.size); have hP1 := hP.mono hB1; have hP1k := hP1; obtain ⟨p0, p1, p2, -, -, -⟩ := hP1k; have b1 : w1.cell? ⟨w.heap.size, 0, none⟩ = some (.string ix) := (by rw [hB1.cell (by simp <;> omega)]; exact b0))
      | (refine ⟨trivial, ?_⟩; gi_at_call 112; refine (callsIn_wide.2 (tempty_any n _ hlen (Hk.out.mono hC1))).mono ?_; rintro e w2 ⟨rfl, hB2⟩; have hC2 := hC1.trans (hB2.mono hC1.size); have hz0 : w.heap.size + 1 < w2.heap.size := World.block_lt_of_cell? _ _ (hP1.mono hB2).c0; have hP2 := (hP1.mono hB2).alloc (.cells #[.string (emptyS n)] 9); have hP2k := hP2; obtain ⟨q0, q1, q2, -, -, -⟩ := hP2k; have b2 : w2.cell? ⟨w.heap.size, 0, none⟩ = some (.string ix) := (by rw [hB2.cell (by exact World.block_lt_of_cell? _ _ b1)]; exact b1); have b3 : (w2.alloc (.cells #[.string (emptyS n)] 9)).cell? ⟨w.heap.size, 0, none⟩ = some (.string ix) := (by rw [World.cell?_alloc_lt _ _ _ (by exact World.block_lt_of_cell? _ _ b2)]; exact b2))
      | (refine ⟨trivial, ?_⟩; gi_at_call 114; refine (back_in Fence.wide _ trivial rfl _ _ _ _).mono ?_; rintro e w' ⟨rfl, rfl⟩))
    have cT0 : Cell1 (w2.alloc (.cells #[.string (emptyS n)] 9)) w2.heap.size (.string (emptyS n)) := Cell1.new _ _ _
    have cI0 : (w2.alloc (.cells #[.string (emptyS n)] 9)).cell? ⟨w.heap.size, 0, none⟩ = some (.string ix) := b3
    have hCV : Below w.heap.size w (w2.alloc (.cells #[.string (emptyS n)] 9)) := hC2.alloc hC2.size _
    have hVB : (w2.alloc (.cells #[.string (emptyS n)] 9)).heap.size = w2.heap.size + 1 := by simp
    have hT7 : w.heap.size < w2.heap.size := by omega
    have cT1 : Cell1 ((w2.alloc (.cells #[.string (emptyS n)] 9)).alloc (.cells #[.slice a n cap] 22)) w2.heap.size (.string (emptyS n)) := cT0.mono ((Below.refl _ _).alloc (Nat.le_refl _) _)
    obtain ⟨S0, hS0⟩ : ∃ S0, S0 = emptyS n := ⟨_, rfl⟩
    have HS0 : Hid (S0 = startS path li lc) := by unfold Hid; rw [hS.out]; exact hS0
    obtain ⟨VB, hVBe⟩ : ∃ VB, VB = (w2.alloc (.cells #[.string (emptyS n)] 9)).alloc (.cells #[.slice a n cap] 22) := ⟨_, rfl⟩
    have cT : Cell1 VB w2.heap.size (.string S0) := by rw [hVBe, hS0]; exact cT1
    have cI : VB.cell? ⟨w.heap.size, 0, none⟩ = some (.string ix) := by rw [hVBe, World.cell?_alloc_lt _ _ _ (by exact World.block_lt_of_cell? _ _ cI0)]; exact cI0
    have cB : VB.cell? ⟨w2.heap.size + 1, 0, none⟩ = some (.slice a n cap) := by
      have h := (Cell1.new (w2.alloc (.cells #[.string (emptyS n)] 9)) (.slice a n cap) 22).c
      rw [hVB] at h
      rw [hVBe]; exact h
    have hCB : Below w.heap.size w VB := by rw [hVBe]; exact hCV.alloc hCV.size _
    have hTB : ¬ w2.heap.size = w2.heap.size + 1 ∧ ¬ w2.heap.size + 1 = w2.heap.size := by first | omega | (have h3 : w2.heap.size < w3.heap.size := World.block_lt_of_cell? _ _ s0; omega)
    have hTB1 := hTB.1
    have hTB2 := hTB.2
    have hBl : w2.heap.size + 1 < VB.heap.size := World.block_lt_of_cell? _ _ cB
    rw [← hVBe]
    have hen : ∀ j, j < path.length → (fun x : Side => x.val) (sideOf path j) = fromEnd path j := fun j hj => sideOf_is Hr.out.2.1 Hr.out.2.2.1 hj
    have hRd : Reads VB (.slice a path.length cap) path.length 1 (path.map Value.string) := Hv.out.mono hCB
    have hIb : ∀ b off, a = some ⟨b, off, none⟩ → 0 < path.length → b < w.heap.size := fun b off he hp => by
      rcases Hv.out.2 with ⟨h1, _⟩ | ⟨b', off', cap', he', hc'⟩
      · have : path.length = 0 := by simpa using congrArg List.length h1
        omega
      · simp only [Value.slice.injEq] at he'
        rw [he] at he'
        have h3 := he'.1
        simp only [Option.some.injEq, Addr.mk.injEq] at h3
        have := World.block_lt_of_cell? w _ (hc' 0 (.string path[0]) (by simp [hp]))
        rw [h3.1]; exact this
    have hix : ix.size = 16 := Hr.out.1
    refine wpIn_rangeFunc_ownG rfl (by omega) (gf := 149) (lb := #[.pointer (some ⟨w2.heap.size + 1, 0, none⟩)]) rfl trivial (enters_of Tryd.func149 (by kernel_rfl) rfl)
      (back_stops (fun x : Side => x.val) (sideOf path) Fence.wide _ path hen trivial rfl (by omega) (w2.heap.size + 1) w.heap.size a cap (by have := Hr.out.2.1; omega) VB hBl hCB.size (by rw [← Hn.out]; exact cB) hRd hIb) kpB_t (kpB_b hCB.size hBl) (Below.refl _ _) (fun _ => rfl)
      (fun pre W => (W.cell? ⟨w2.heap.size, 0, none⟩ = some (.string (pre.foldl (stepP ix) S0)) ∧ W.frozen? ⟨w2.heap.size, 0, none⟩ = false ∧ W.cell? ⟨w.heap.size, 0, none⟩ = some (.string ix) ∧ W.cell? ⟨w2.heap.size + 1, 0, none⟩ = some (.slice a n cap)) ∧ Below w.heap.size w W)
      (fun _ _ _ => False)
      (OwnFrom.and (Own.from (fun s A B row hs hg hr => ⟨cell_kept hs.1 hg hr, (frozen_kept hs.1 hg hr).trans hs.2.1, cell_kept hs.2.2.1 hg hr, cell_kept hs.2.2.2 hg hr⟩) _) (ownFrom_below (Nat.le_refl _) hCB.size))
      (fun _ _ _ _ _ hs _ _ => hs)
      ⟨⟨cT.c, cT.f, cI, cB⟩, hCB⟩
      (fun x => { tmps := #[.string ix, .agg #[.slice a n cap, .string li, .string lc], .pointer (some ⟨w.heap.size, 0, none⟩), .pointer (some ⟨w.heap.size + 1, 0, none⟩), .string ⟨#[]⟩, .nilIface, .int .i64 n, .pointer (some ⟨w2.heap.size, 0, none⟩), .int .i64 (x.val.1 : Int), .string x.val.2, undef, undef, .string ix, .agg #[.slice a n cap, .string li, .string lc], .bool true, .bool false, undef, .pointer (some ⟨w.heap.size + 1, 0, none⟩), .slice a n cap, .int .i64 n, .int .i64 n, .string (emptyS n), .pointer (some ⟨w.heap.size + 1, 1, none⟩), .agg #[.string li, .string lc], .agg #[.string ⟨#[]⟩, .string ⟨#[]⟩], .bool false, undef, undef, undef, undef, .pointer (some ⟨w.heap.size + 1, 0, none⟩), .slice a n cap, .func (.func 149) #[] #[.pointer (some ⟨w2.heap.size + 1, 0, none⟩)], .int .i64 (x.val.1 : Int), .string x.val.2, undef, undef, undef, undef, undef, undef, undef, undef, undef, undef, undef, undef, undef, undef, undef, undef, undef, undef, undef], defers := [] }) ?assign ?body ?done ?stop
    case assign =>
      intro l x W K hK
      gi_wp2
      exact hK
    case body =>
      rintro l pre x W ⟨⟨hc, hf, hi, hbs⟩, hB⟩ _
      have hsz : (pre.foldl (stepP ix) S0).size = 16 := fold_size ix pre S0 (by rw [HS0.out]; exact startS_size _ _ _)
      have hfold : Hid ((pre ++ [x]).foldl (stepP ix) S0 = stepP ix (pre.foldl (stepP ix) S0) x) := by unfold Hid; rw [List.foldl_append]; rfl
      generalize pre.foldl (stepP ix) S0 = S at *
      obtain ⟨⟨k, z⟩, hk128, hz16⟩ := x
      dsimp only at hk128 hz16
      have hstep : Hid (stepP ix S ⟨(k, z), hk128, hz16⟩ = if bitAt ix k = 1 then joinS z S else joinS S z) := rfl
      have hbit := bit_ok ix k W hix hk128
      have hb2 := bitAt_lt ix k
      have hkW : KAt W 0 := Hk.out.mono hB
      have hlT : w2.heap.size < W.heap.size := World.block_lt_of_cell? _ _ hc
      by_cases h1 : bitAt ix k = 1
      · rw [h1] at hbit
        have hj := tjoin_any z S W (by omega) (by omega) hkW
        have hres : Hid (stepP ix S ⟨(k, z), hk128, hz16⟩ = joinS z S) := by unfold Hid; rw [hstep.out, if_pos h1]
        rw [hres.out] at hfold
        have HBit := Lib.hid hbit
        have HJ := Lib.hid hj
        clear hbit hj hb2 h1 hstep hres
        generalize joinS z S = M at *
        dsimp only
        gi_wp2_with (first
          | (refine ⟨trivial, ?_⟩; gi_at_call 49; refine (CallsIn.inRound l (callsIn_wide.2 HBit.out)).mono ?_; rintro e w' ⟨rfl, hw⟩; have hw2 := hw.symm; subst hw2)
          | (refine ⟨trivial, ?_⟩; gi_at_call 115; refine (CallsIn.inRound l (callsIn_wide.2 HJ.out)).mono ?_; rintro e w' ⟨rfl, hJ⟩; obtain ⟨t0, t1⟩ := (Cell1.mono ⟨hc, hf⟩ hJ); have hi' := (hJ.cell (p := ⟨w.heap.size, 0, none⟩) (by exact World.block_lt_of_cell? _ _ hi)).trans hi; have hbs' := (hJ.cell (p := ⟨w2.heap.size + 1, 0, none⟩) (by exact World.block_lt_of_cell? _ _ hbs)).trans hbs))
        have hbs2 : (w'.setCell ⟨w2.heap.size, 0, none⟩ (.string M)).cell? ⟨w2.heap.size + 1, 0, none⟩ = some (.slice a n cap) := by rw [World.cell?_setCell_other _ _ _ _ (by simp <;> omega)]; exact hbs'
        refine ⟨(KeepsFrom.of_grownBy (grown_below hJ none) (fun j e => by cases e)).trans ((KeepsOthers.setCell _ _ _).from _), ⟨below_set (hJ.mono hB.size) (Nat.le_of_lt hT7) _, hbs2.trans hbs.symm⟩, ⟨by rw [hfold.out]; exact World.cell?_setCell_same _ _ _ t0, by rw [World.frozen?_setCell]; exact t1, ?_, hbs2⟩, below_set (hB.trans (hJ.mono hB.size)) (Nat.le_of_lt hT7) _⟩
        rw [World.cell?_setCell_other _ _ _ _ (by simp <;> omega)]; exact hi'
      · have h0 : bitAt ix k = 0 := by omega
        rw [h0] at hbit
        have hj := tjoin_any S z W (by omega) (by omega) hkW
        have hres : Hid (stepP ix S ⟨(k, z), hk128, hz16⟩ = joinS S z) := by unfold Hid; rw [hstep.out, if_neg h1]
        rw [hres.out] at hfold
        have HBit := Lib.hid hbit
        have HJ := Lib.hid hj
        clear hbit hj hb2 h1 h0 hstep hres
        generalize joinS S z = M at *
        dsimp only
        gi_wp2_with (first
          | (refine ⟨trivial, ?_⟩; gi_at_call 49; refine (CallsIn.inRound l (callsIn_wide.2 HBit.out)).mono ?_; rintro e w' ⟨rfl, hw⟩; have hw2 := hw.symm; subst hw2)
          | (refine ⟨trivial, ?_⟩; gi_at_call 115; refine (CallsIn.inRound l (callsIn_wide.2 HJ.out)).mono ?_; rintro e w' ⟨rfl, hJ⟩; obtain ⟨t0, t1⟩ := (Cell1.mono ⟨hc, hf⟩ hJ); have hi' := (hJ.cell (p := ⟨w.heap.size, 0, none⟩) (by exact World.block_lt_of_cell? _ _ hi)).trans hi; have hbs' := (hJ.cell (p := ⟨w2.heap.size + 1, 0, none⟩) (by exact World.block_lt_of_cell? _ _ hbs)).trans hbs))
        have hbs2 : (w'.setCell ⟨w2.heap.size, 0, none⟩ (.string M)).cell? ⟨w2.heap.size + 1, 0, none⟩ = some (.slice a n cap) := by rw [World.cell?_setCell_other _ _ _ _ (by simp <;> omega)]; exact hbs'
        refine ⟨(KeepsFrom.of_grownBy (grown_below hJ none) (fun j e => by cases e)).trans ((KeepsOthers.setCell _ _ _).from _), ⟨below_set (hJ.mono hB.size) (Nat.le_of_lt hT7) _, hbs2.trans hbs.symm⟩, ⟨by rw [hfold.out]; exact World.cell?_setCell_same _ _ _ t0, by rw [World.frozen?_setCell]; exact t1, ?_, hbs2⟩, below_set (hB.trans (hJ.mono hB.size)) (Nat.le_of_lt hT7) _⟩
        rw [World.cell?_setCell_other _ _ _ _ (by simp <;> omega)]; exact hi'
    case done =>
      rintro D ys W hD rfl ⟨⟨hc, hf, hi, hbs⟩, hB⟩ hK
      gi_wp2
      refine ⟨by simp, .inl ⟨_, _, rfl, run_takeDeferred hK, ?_⟩⟩
      refine ⟨_, results_tmp2 rfl _ _ _, ?_, hB.trans (belowK_b (w := w) (Nat.le_refl _) W D _ _ (Nat.le_trans hCB.size hD) hK rfl rfl)⟩
      rw [← hS.out]
      rfl
    case stop =>
      rintro D c pre W _ _ h _
      exact h.elim
  · have g1 := toList_ne h0
    have hl16 : li.size = 16 ∧ lc.size = 16 := by
      rcases Hr.out.2.2.2 with h | h
      · exact absurd h.1 h0
      · exact ⟨h.1, h.2.2⟩
    have hli : li.size ≤ 1000 := by omega
    have hlc : lc.size ≤ 1000 := by omega
    have hS : Hid (startS path li lc = leafS li lc n) := by unfold Hid startS; rw [if_neg h0, ← Hn.out]
    clear h0 hl16
    refine (callsIn_wide (n := 5)).1 ?_
    refine callsIn_of_wp_marks Tryd.func33 rfl trivial ?_ rfl
    simp only [Tryd.ntmps33, List.size_toArray, List.length_cons, List.length_nil, Nat.reduceAdd, Nat.reduceSub, Array.replicate_succ, Array.replicate_zero, List.push_toArray, List.append_toArray, List.nil_append, List.cons_append]
    gi_wp2_with (first
      | (refine ⟨trivial, ?_⟩; gi_at_call 34; refine (callsIn_wide.2 (hPR.out _ hWb)).mono ?_; rintro e w1 ⟨rfl, hB1⟩; have hC1 := hWb.trans (hB1.mono hWb.size); have hP1 := hP.mono hB1; have hP1k := hP1; obtain ⟨p0, p1, p2, -, -, -⟩ := hP1k; have b1 : w1.cell? ⟨w.heap.size, 0, none⟩ = some (.string ix) := (by rw [hB1.cell (by simp <;> omega)]; exact b0))
      | (refine ⟨trivial, ?_⟩; gi_at_call 112; refine (callsIn_wide.2 (tempty_any n _ hlen (Hk.out.mono hC1))).mono ?_; rintro e w2 ⟨rfl, hB2⟩; have hC2 := hC1.trans (hB2.mono hC1.size); have hz0 : w.heap.size + 1 < w2.heap.size := World.block_lt_of_cell? _ _ (hP1.mono hB2).c0; have hP2 := (hP1.mono hB2).alloc (.cells #[.string (emptyS n)] 9); have hP2k := hP2; obtain ⟨q0, q1, q2, -, -, -⟩ := hP2k; have b2 : w2.cell? ⟨w.heap.size, 0, none⟩ = some (.string ix) := (by rw [hB2.cell (by exact World.block_lt_of_cell? _ _ b1)]; exact b1); have hT : Cell1 (w2.alloc (.cells #[.string (emptyS n)] 9)) w2.heap.size (.string (emptyS n)) := Cell1.new _ _ _; have b3 : (w2.alloc (.cells #[.string (emptyS n)] 9)).cell? ⟨w.heap.size, 0, none⟩ = some (.string ix) := (by rw [World.cell?_alloc_lt _ _ _ (by exact World.block_lt_of_cell? _ _ b2)]; exact b2))
      | (refine ⟨trivial, ?_⟩; gi_at_call 114; refine (back_in Fence.wide _ trivial rfl _ _ _ _).mono ?_; rintro e w' ⟨rfl, rfl⟩)
      | (refine ⟨trivial, ?_⟩; gi_at_call 113; refine (callsIn_wide.2 (tleaf_any li lc n _ hlen hli hlc (Hk.out.mono (hC2.alloc hC2.size (.cells #[.string (emptyS n)] 9))))).mono ?_; rintro e w3 ⟨rfl, hB3⟩; have hC3 := (hC2.alloc hC2.size (.cells #[.string (emptyS n)] 9)).trans (hB3.mono (Nat.le_trans hC2.size (by simp))); have hP3 := hP2.mono hB3; have hP3k := hP3; obtain ⟨r0, r1, r2, -, -, -⟩ := hP3k; have b4 : w3.cell? ⟨w.heap.size, 0, none⟩ = some (.string ix) := (by rw [hB3.cell (by exact World.block_lt_of_cell? _ _ b3)]; exact b3); have hT3 := hT.mono hB3; have hT3k := hT3; obtain ⟨s0, s1⟩ := hT3k; have z1 : ¬ w2.heap.size = w.heap.size + 1 := (by omega); have z2 : ¬ w.heap.size + 1 = w2.heap.size := (by omega); have z3 : ¬ w2.heap.size = w.heap.size := (by omega); have z4 : ¬ w.heap.size = w2.heap.size := (by omega)))
    have cT0 : Cell1 (w3.setCell ⟨w2.heap.size, 0, none⟩ (.string (leafS li lc n))) w2.heap.size (.string (leafS li lc n)) := hT3.set _
    have cI0 : (w3.setCell ⟨w2.heap.size, 0, none⟩ (.string (leafS li lc n))).cell? ⟨w.heap.size, 0, none⟩ = some (.string ix) := by rw [World.cell?_setCell_other _ _ _ _ (by simp)]; exact b4
    have hCV : Below w.heap.size w (w3.setCell ⟨w2.heap.size, 0, none⟩ (.string (leafS li lc n))) := below_set hC3 (by omega) _
    have hVB : (w3.setCell ⟨w2.heap.size, 0, none⟩ (.string (leafS li lc n))).heap.size = w3.heap.size := by simp [World.setCell]
    have hT7 : w.heap.size < w2.heap.size := by omega
    have cT1 : Cell1 ((w3.setCell ⟨w2.heap.size, 0, none⟩ (.string (leafS li lc n))).alloc (.cells #[.slice a n cap] 22)) w2.heap.size (.string (leafS li lc n)) := cT0.mono ((Below.refl _ _).alloc (Nat.le_refl _) _)
    obtain ⟨S0, hS0⟩ : ∃ S0, S0 = leafS li lc n := ⟨_, rfl⟩
    have HS0 : Hid (S0 = startS path li lc) := by unfold Hid; rw [hS.out]; exact hS0
    obtain ⟨VB, hVBe⟩ : ∃ VB, VB = (w3.setCell ⟨w2.heap.size, 0, none⟩ (.string (leafS li lc n))).alloc (.cells #[.slice a n cap] 22) := ⟨_, rfl⟩
    have cT : Cell1 VB w2.heap.size (.string S0) := by rw [hVBe, hS0]; exact cT1
    have cI : VB.cell? ⟨w.heap.size, 0, none⟩ = some (.string ix) := by rw [hVBe, World.cell?_alloc_lt _ _ _ (by exact World.block_lt_of_cell? _ _ cI0)]; exact cI0
    have cB : VB.cell? ⟨w3.heap.size, 0, none⟩ = some (.slice a n cap) := by
      have h := (Cell1.new (w3.setCell ⟨w2.heap.size, 0, none⟩ (.string (leafS li lc n))) (.slice a n cap) 22).c
      rw [hVB] at h
      rw [hVBe]; exact h
    have hCB : Below w.heap.size w VB := by rw [hVBe]; exact hCV.alloc hCV.size _
    have hTB : ¬ w2.heap.size = w3.heap.size ∧ ¬ w3.heap.size = w2.heap.size := by first | omega | (have h3 : w2.heap.size < w3.heap.size := World.block_lt_of_cell? _ _ s0; omega)
    have hTB1 := hTB.1
    have hTB2 := hTB.2
    have hBl : w3.heap.size < VB.heap.size := World.block_lt_of_cell? _ _ cB
    rw [← hVBe]
    have hen : ∀ j, j < path.length → (fun x : Side => x.val) (sideOf path j) = fromEnd path j := fun j hj => sideOf_is Hr.out.2.1 Hr.out.2.2.1 hj
    have hRd : Reads VB (.slice a path.length cap) path.length 1 (path.map Value.string) := Hv.out.mono hCB
    have hIb : ∀ b off, a = some ⟨b, off, none⟩ → 0 < path.length → b < w.heap.size := fun b off he hp => by
      rcases Hv.out.2 with ⟨h1, _⟩ | ⟨b', off', cap', he', hc'⟩
      · have : path.length = 0 := by simpa using congrArg List.length h1
        omega
      · simp only [Value.slice.injEq] at he'
        rw [he] at he'
        have h3 := he'.1
        simp only [Option.some.injEq, Addr.mk.injEq] at h3
        have := World.block_lt_of_cell? w _ (hc' 0 (.string path[0]) (by simp [hp]))
        rw [h3.1]; exact this
    have hix : ix.size = 16 := Hr.out.1
    refine wpIn_rangeFunc_ownG rfl (by omega) (gf := 149) (lb := #[.pointer (some ⟨w3.heap.size, 0, none⟩)]) rfl trivial (enters_of Tryd.func149 (by kernel_rfl) rfl)
      (back_stops (fun x : Side => x.val) (sideOf path) Fence.wide _ path hen trivial rfl (by omega) (w3.heap.size) w.heap.size a cap (by have := Hr.out.2.1; omega) VB hBl hCB.size (by rw [← Hn.out]; exact cB) hRd hIb) kpB_t (kpB_b hCB.size hBl) (Below.refl _ _) (fun _ => rfl)
      (fun pre W => (W.cell? ⟨w2.heap.size, 0, none⟩ = some (.string (pre.foldl (stepP ix) S0)) ∧ W.frozen? ⟨w2.heap.size, 0, none⟩ = false ∧ W.cell? ⟨w.heap.size, 0, none⟩ = some (.string ix) ∧ W.cell? ⟨w3.heap.size, 0, none⟩ = some (.slice a n cap)) ∧ Below w.heap.size w W)
      (fun _ _ _ => False)
      (OwnFrom.and (Own.from (fun s A B row hs hg hr => ⟨cell_kept hs.1 hg hr, (frozen_kept hs.1 hg hr).trans hs.2.1, cell_kept hs.2.2.1 hg hr, cell_kept hs.2.2.2 hg hr⟩) _) (ownFrom_below (Nat.le_refl _) hCB.size))
      (fun _ _ _ _ _ hs _ _ => hs)
      ⟨⟨cT.c, cT.f, cI, cB⟩, hCB⟩
      (fun x => { tmps := #[.string ix, .agg #[.slice a n cap, .string li, .string lc], .pointer (some ⟨w.heap.size, 0, none⟩), .pointer (some ⟨w.heap.size + 1, 0, none⟩), .string ⟨#[]⟩, .nilIface, .int .i64 n, .pointer (some ⟨w2.heap.size, 0, none⟩), .int .i64 (x.val.1 : Int), .string x.val.2, undef, undef, .string ix, .agg #[.slice a n cap, .string li, .string lc], .bool true, .bool false, undef, .pointer (some ⟨w.heap.size + 1, 0, none⟩), .slice a n cap, .int .i64 n, .int .i64 n, .string (emptyS n), .pointer (some ⟨w.heap.size + 1, 1, none⟩), .agg #[.string li, .string lc], .agg #[.string ⟨#[]⟩, .string ⟨#[]⟩], .bool true, .pointer (some ⟨w.heap.size + 1, 1, none⟩), .agg #[.string li, .string lc], .int .i64 n, .string (leafS li lc n), .pointer (some ⟨w.heap.size + 1, 0, none⟩), .slice a n cap, .func (.func 149) #[] #[.pointer (some ⟨w3.heap.size, 0, none⟩)], .int .i64 (x.val.1 : Int), .string x.val.2, undef, undef, undef, undef, undef, undef, undef, undef, undef, undef, undef, undef, undef, undef, undef, undef, undef, undef, undef], defers := [] }) ?assign ?body ?done ?stop
    case assign =>
      intro l x W K hK
      gi_wp2
      exact hK
    case body =>
      rintro l pre x W ⟨⟨hc, hf, hi, hbs⟩, hB⟩ _
      have hsz : (pre.foldl (stepP ix) S0).size = 16 := fold_size ix pre S0 (by rw [HS0.out]; exact startS_size _ _ _)
      have hfold : Hid ((pre ++ [x]).foldl (stepP ix) S0 = stepP ix (pre.foldl (stepP ix) S0) x) := by unfold Hid; rw [List.foldl_append]; rfl
      generalize pre.foldl (stepP ix) S0 = S at *
      obtain ⟨⟨k, z⟩, hk128, hz16⟩ := x
      dsimp only at hk128 hz16
      have hstep : Hid (stepP ix S ⟨(k, z), hk128, hz16⟩ = if bitAt ix k = 1 then joinS z S else joinS S z) := rfl
      have hbit := bit_ok ix k W hix hk128
      have hb2 := bitAt_lt ix k
      have hkW : KAt W 0 := Hk.out.mono hB
      have hlT : w2.heap.size < W.heap.size := World.block_lt_of_cell? _ _ hc
      by_cases h1 : bitAt ix k = 1
      · rw [h1] at hbit
        have hj := tjoin_any z S W (by omega) (by omega) hkW
        have hres : Hid (stepP ix S ⟨(k, z), hk128, hz16⟩ = joinS z S) := by unfold Hid; rw [hstep.out, if_pos h1]
        rw [hres.out] at hfold
        have HBit := Lib.hid hbit
        have HJ := Lib.hid hj
        clear hbit hj hb2 h1 hstep hres
        generalize joinS z S = M at *
        dsimp only
        gi_wp2_with (first
          | (refine ⟨trivial, ?_⟩; gi_at_call 49; refine (CallsIn.inRound l (callsIn_wide.2 HBit.out)).mono ?_; rintro e w' ⟨rfl, hw⟩; have hw2 := hw.symm; subst hw2)
          | (refine ⟨trivial, ?_⟩; gi_at_call 115; refine (CallsIn.inRound l (callsIn_wide.2 HJ.out)).mono ?_; rintro e w' ⟨rfl, hJ⟩; obtain ⟨t0, t1⟩ := (Cell1.mono ⟨hc, hf⟩ hJ); have hi' := (hJ.cell (p := ⟨w.heap.size, 0, none⟩) (by exact World.block_lt_of_cell? _ _ hi)).trans hi; have hbs' := (hJ.cell (p := ⟨w3.heap.size, 0, none⟩) (by exact World.block_lt_of_cell? _ _ hbs)).trans hbs))
        have hbs2 : (w'.setCell ⟨w2.heap.size, 0, none⟩ (.string M)).cell? ⟨w3.heap.size, 0, none⟩ = some (.slice a n cap) := by rw [World.cell?_setCell_other _ _ _ _ (by simp <;> omega)]; exact hbs'
        refine ⟨(KeepsFrom.of_grownBy (grown_below hJ none) (fun j e => by cases e)).trans ((KeepsOthers.setCell _ _ _).from _), ⟨below_set (hJ.mono hB.size) (Nat.le_of_lt hT7) _, hbs2.trans hbs.symm⟩, ⟨by rw [hfold.out]; exact World.cell?_setCell_same _ _ _ t0, by rw [World.frozen?_setCell]; exact t1, ?_, hbs2⟩, below_set (hB.trans (hJ.mono hB.size)) (Nat.le_of_lt hT7) _⟩
        rw [World.cell?_setCell_other _ _ _ _ (by simp <;> omega)]; exact hi'
      · have h0 : bitAt ix k = 0 := by omega
        rw [h0] at hbit
        have hj := tjoin_any S z W (by omega) (by omega) hkW
        have hres : Hid (stepP ix S ⟨(k, z), hk128, hz16⟩ = joinS S z) := by unfold Hid; rw [hstep.out, if_neg h1]
        rw [hres.out] at hfold
        have HBit := Lib.hid hbit
        have HJ := Lib.hid hj
        clear hbit hj hb2 h1 h0 hstep hres
        generalize joinS S z = M at *
        dsimp only
        gi_wp2_with (first
          | (refine ⟨trivial, ?_⟩; gi_at_call 49; refine (CallsIn.inRound l (callsIn_wide.2 HBit.out)).mono ?_; rintro e w' ⟨rfl, hw⟩; have hw2 := hw.symm; subst hw2)
          | (refine ⟨trivial, ?_⟩; gi_at_call 115; refine (CallsIn.inRound l (callsIn_wide.2 HJ.out)).mono ?_; rintro e w' ⟨rfl, hJ⟩; obtain ⟨t0, t1⟩ := (Cell1.mono ⟨hc, hf⟩ hJ); have hi' := (hJ.cell (p := ⟨w.heap.size, 0, none⟩) (by exact World.block_lt_of_cell? _ _ hi)).trans hi; have hbs' := (hJ.cell (p := ⟨w3.heap.size, 0, none⟩) (by exact World.block_lt_of_cell? _ _ hbs)).trans hbs))
        have hbs2 : (w'.setCell ⟨w2.heap.size, 0, none⟩ (.string M)).cell? ⟨w3.heap.size, 0, none⟩ = some (.slice a n cap) := by rw [World.cell?_setCell_other _ _ _ _ (by simp <;> omega)]; exact hbs'
        refine ⟨(KeepsFrom.of_grownBy (grown_below hJ none) (fun j e => by cases e)).trans ((KeepsOthers.setCell _ _ _).from _), ⟨below_set (hJ.mono hB.size) (Nat.le_of_lt hT7) _, hbs2.trans hbs.symm⟩, ⟨by rw [hfold.out]; exact World.cell?_setCell_same _ _ _ t0, by rw [World.frozen?_setCell]; exact t1, ?_, hbs2⟩, below_set (hB.trans (hJ.mono hB.size)) (Nat.le_of_lt hT7) _⟩
        rw [World.cell?_setCell_other _ _ _ _ (by simp <;> omega)]; exact hi'
    case done =>
      rintro D ys W hD rfl ⟨⟨hc, hf, hi, hbs⟩, hB⟩ hK
      gi_wp2
      refine ⟨by simp, .inl ⟨_, _, rfl, run_takeDeferred hK, ?_⟩⟩
      refine ⟨_, results_tmp2 rfl _ _ _, ?_, hB.trans (belowK_b (w := w) (Nat.le_refl _) W D _ _ (Nat.le_trans hCB.size hD) hK rfl rfl)⟩
      rw [← hS.out]
      rfl
    case stop =>
      rintro D c pre W _ _ h _
      exact h.elim
end Go.Proofs.YtfhjnfocmlndpaaDoor
