/- The reference's ProofRoot either way, Verify, Commit. -/
import Derived.Test.YtfhjnfocmlndpaaDoorRPRoot
import Derived.Test.YtfhjnfocmlndpaaDoorPVerify
import Derived.Test.YtfhjnfocmlndpaaDoorIndexR
namespace Go.Proofs.YtfhjnfocmlndpaaDoor
open Go Go.RowKit Go.Proofs

set_option maxHeartbeats 1000000 in
theorem rproot_no (r : Nat) (ix : ByteArray) (pv : Value) (path : List ByteArray) (li lc : ByteArray) (w : World) (hv : Reads w pv path.length 1 (path.map Value.string)) (hl : path.length ≤ 1000000) (hr : ¬ rightP ix path li lc) :
    Calls Tryd.prog 32 #[.pointer (some ⟨r, 0, none⟩), .string ix, .agg #[pv, .string li, .string lc]] w fun e w' => e = .returned (.tuple #[.string ⟨#[]⟩, .int .i64 1]) ∧ Below w.heap.size w w' := by
  obtain ⟨a, cap, rfl⟩ : ∃ a cap, pv = .slice a path.length cap := by
    rcases hv.2 with ⟨_, a, c, rfl⟩ | ⟨b, off, cap, rfl, _⟩
    · exact ⟨a, c, rfl⟩
    · exact ⟨_, cap, rfl⟩
  have hWb : Below w.heap.size w (w.alloc (.cells #[.slice a path.length cap, .string li, .string lc] 51)) := (Below.refl _ _).alloc (Nat.le_refl _) _
  have hPR := Lib.hid (fun W (hb : Below w.heap.size w W) => rpright_any ix (.slice a path.length cap) path li lc W (hv.mono hb) hl)
  have hRB : rightB ix path li lc = false := by unfold rightB; exact @decide_eq_false _ (Classical.propDecidable _) hr
  rw [hRB] at hPR
  clear hRB hv hr hl
  generalize path.length = n at *
  go_enter Tryd.func32, Tryd.ntmps32
  go_wp2_with (go_at_call 35; refine (hPR.out _ hWb).mono ?_; rintro e w1 ⟨rfl, hB1⟩)
  go_ret2
  exact ⟨rfl, hWb.trans (hB1.mono hWb.size)⟩
theorem rproot_any (r : Nat) (ix : ByteArray) (pv : Value) (path : List ByteArray) (li lc : ByteArray) (w : World) (hv : Reads w pv path.length 1 (path.map Value.string)) (hl : path.length ≤ 1000000) (hR : RAt w r) :
    Calls Tryd.prog 32 #[.pointer (some ⟨r, 0, none⟩), .string ix, .agg #[pv, .string li, .string lc]] w fun e w' => e = .returned (.tuple #[.string (prootS ix path li lc), .int .i64 (prootK ix path li lc)]) ∧ Below w.heap.size w w' := by
  unfold prootS prootK
  by_cases h : rightP ix path li lc
  · rw [if_pos h, if_pos h]
    exact rproot_ok r ix pv path li lc w hv h hR
  · rw [if_neg h, if_neg h]
    exact rproot_no r ix pv path li lc w hv hl h

set_option maxRecDepth 20000 in
set_option maxHeartbeats 1000000 in
theorem rverify_any (r : Nat) (root ix : ByteArray) (pv : Value) (path : List ByteArray) (li lc : ByteArray) (w : World) (hv : Reads w pv path.length 1 (path.map Value.string)) (hl : path.length ≤ 1000000) (hRA : RAt w r) :
    Calls Tryd.prog 36 #[.pointer (some ⟨r, 0, none⟩), .string root, .string ix, .agg #[pv, .string li, .string lc]] w fun e w' => e = .returned (.tuple #[.string (pverS root ix path li lc), .bool (pverB root ix path li lc), .int .i64 (pverK root ix path li lc)]) ∧ Below w.heap.size w w' := by
  obtain ⟨a, cap, rfl⟩ : ∃ a cap, pv = .slice a path.length cap := by
    rcases hv.2 with ⟨_, a, c, rfl⟩ | ⟨b, off, cap, rfl, _⟩
    · exact ⟨a, c, rfl⟩
    · exact ⟨_, cap, rfl⟩
  have hb : Below w.heap.size w (w.alloc (.cells #[.slice a path.length cap, .string li, .string lc] 51)) := (Below.refl _ _).alloc (Nat.le_refl _) _
  have hP : Row3 (w.alloc (.cells #[.slice a path.length cap, .string li, .string lc] 51)) w.heap.size (.slice a path.length cap) (.string li) (.string lc) := Row3.of_row (T := 51) (heap_alloc_new _ _)
  have hR := rproot_any r ix (.slice a path.length cap) path li lc _ (hv.mono hb) hl (hRA.mono hb)
  have hS : pverS root ix path li lc = if prootK ix path li lc = 0 ∧ prootS ix path li lc = root ∧ li = ix then lc else ⟨#[]⟩ := rfl
  have hBo : pverB root ix path li lc = (decide (prootK ix path li lc = 0) && decide (prootS ix path li lc = root) && decide (li = ix)) := rfl
  have hK : pverK root ix path li lc = if prootK ix path li lc = 0 then if prootS ix path li lc = root then 0 else 13 else prootK ix path li lc := rfl
  generalize pverS root ix path li lc = OS at *
  generalize pverB root ix path li lc = OB at *
  generalize pverK root ix path li lc = OK at *
  generalize prootK ix path li lc = K at *
  generalize prootS ix path li lc = S at *
  have HR := Lib.hid hR
  clear hR hv hRA hl
  generalize path.length = n at *
  by_cases h1 : K = 0
  · subst h1
    by_cases h2 : S = root
    · subst h2
      by_cases h3 : li = ix
      · subst h3
        obtain rfl : OS = lc := by rw [hS, if_pos ⟨rfl, rfl, rfl⟩]
        obtain rfl : OB = true := by rw [hBo]; simp
        obtain rfl : OK = 0 := by rw [hK]; simp
        clear hS hBo hK
        go_enter Tryd.func36, Tryd.ntmps36
        go_wp2_with (go_at_call 32; refine HR.out.mono ?_; rintro e w1 ⟨rfl, hB1⟩; obtain ⟨p0, p1, p2, -, -, -⟩ := hP.mono hB1; have hC1 := hb.trans (hB1.mono hb.size))
        go_ret3
        exact ⟨rfl, hC1⟩
      · have e3 := toList_inj h3
        have e3b : (li.toList == ix.toList) = false := by rw [beq_eq_false_iff_ne]; exact e3
        obtain rfl : OS = ⟨#[]⟩ := by rw [hS, if_neg (fun h => h3 h.2.2)]
        obtain rfl : OB = false := by rw [hBo]; simp [h3]
        obtain rfl : OK = 0 := by rw [hK]; simp
        clear hS hBo hK h3
        go_enter Tryd.func36, Tryd.ntmps36
        go_wp2_with (go_at_call 32; refine HR.out.mono ?_; rintro e w1 ⟨rfl, hB1⟩; obtain ⟨p0, p1, p2, -, -, -⟩ := hP.mono hB1; have hC1 := hb.trans (hB1.mono hb.size))
        go_ret3
        exact ⟨rfl, hC1⟩
    · have e2 := toList_inj h2
      have e2b : (S.toList == root.toList) = false := by rw [beq_eq_false_iff_ne]; exact e2
      obtain rfl : OS = ⟨#[]⟩ := by rw [hS, if_neg (fun h => h2 h.2.1)]
      obtain rfl : OB = false := by rw [hBo]; simp [h2]
      obtain rfl : OK = 13 := by rw [hK]; simp [h2]
      clear hS hBo hK h2
      go_enter Tryd.func36, Tryd.ntmps36
      go_wp2_with (go_at_call 32; refine HR.out.mono ?_; rintro e w1 ⟨rfl, hB1⟩; have hC1 := hb.trans (hB1.mono hb.size))
      go_ret3
      exact ⟨rfl, hC1⟩
  · obtain rfl : OS = ⟨#[]⟩ := by rw [hS, if_neg (fun h => h1 h.1)]
    obtain rfl : OB = false := by rw [hBo]; simp [h1]
    obtain rfl : OK = K := by rw [hK, if_neg h1]
    have e1 : ((OK : Int) != 0) = true := by rw [bne_iff_ne]; exact h1
    have e2 : ((OK : Int) == 0) = false := by rw [beq_eq_false_iff_ne]; exact h1
    clear hS hBo hK
    go_enter Tryd.func36, Tryd.ntmps36
    go_wp2_with (go_at_call 32; refine HR.out.mono ?_; rintro e w1 ⟨rfl, hB1⟩; have hC1 := hb.trans (hB1.mono hb.size))
    go_ret3
    exact ⟨rfl, hC1⟩


/-! ### Commit -/
theorem rcommit_any (r : Nat) (o v : ByteArray) (w : World) (hR : RAt w r) :
    Calls Tryd.prog 38 #[.pointer (some ⟨r, 0, none⟩), .string o, .string v] w fun e w' => e = .returned (.tuple #[.string (commitS o v), .int .i64 (commitK o v)]) ∧ Below w.heap.size w w' := by
  unfold commitS commitK
  by_cases h1 : o.size = 16
  · have HM := Lib.hid (fun W => rmk_yes o W h1)
    have HI := Lib.hid (rin_any v.size 1 24 w)
    by_cases h2 : 1 ≤ v.size ∧ v.size ≤ 24
    · have h : o.size = 16 ∧ 1 ≤ v.size ∧ v.size ≤ 24 := ⟨h1, h2⟩
      rw [if_pos h, if_pos h]
      have HMk := Lib.hid (rmark2 r 99 _ rfl o v w (by omega) (by omega) hR)
      have e1 : decide ((1 : Int) ≤ v.size) = true := decide_eq_true (by omega)
      have e2 : decide ((v.size : Int) ≤ 24) = true := decide_eq_true (by omega)
      rw [e1, e2] at HI
      clear h h1 h2 e1 e2 hR
      go_enter Tryd.func38, Tryd.ntmps38
      go_wp2_with (first
        | (go_at_call 98; refine (HM.out _).mono ?_; rintro e w1 ⟨rfl, hw⟩; have hw2 := hw.symm; subst hw2)
        | (go_at_call 117; refine HI.out.mono ?_; rintro e w1 ⟨rfl, hw⟩; have hw2 := hw.symm; subst hw2)
        | (go_at_call 22; refine HMk.out.mono ?_; rintro e w1 ⟨rfl, hB1⟩))
      go_ret2
      exact ⟨rfl, hB1⟩
    · rw [if_neg (fun h => h2 h.2), if_neg (fun h => h2 h.2)]
      have e1 : (decide ((1 : Int) ≤ v.size) && decide ((v.size : Int) ≤ 24)) = false := by
        rw [Bool.and_eq_false_iff, decide_eq_false_iff_not, decide_eq_false_iff_not]
        omega
      rw [e1] at HI
      clear h1 h2 e1 hR
      go_enter Tryd.func38, Tryd.ntmps38
      go_wp2_with (first
        | (go_at_call 98; refine (HM.out _).mono ?_; rintro e w1 ⟨rfl, hw⟩; have hw2 := hw.symm; subst hw2)
        | (go_at_call 117; refine HI.out.mono ?_; rintro e w1 ⟨rfl, hw⟩; have hw2 := hw.symm; subst hw2))
      go_ret2
      exact ⟨rfl, Below.refl _ _⟩
  · rw [if_neg (fun h => h1 h.1), if_neg (fun h => h1 h.1)]
    have HM := Lib.hid (fun W => rmk_no o W h1)
    clear h1 hR
    go_enter Tryd.func38, Tryd.ntmps38
    go_wp2_with (first
      | (go_at_call 98; refine (HM.out _).mono ?_; rintro e w1 ⟨rfl, hw⟩; have hw2 := hw.symm; subst hw2))
    go_ret2
    exact ⟨rfl, Below.refl _ _⟩
end Go.Proofs.YtfhjnfocmlndpaaDoor
