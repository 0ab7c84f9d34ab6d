/- Heads: which may be, and their marks (the reference's). -/
import Derived.Test.YtfhjnfocmlndpaaDoorChain
import Derived.Test.YtfhjnfocmlndpaaDoorOnceQ
import Derived.Test.YtfhjnfocmlndpaaDoorGrownM
namespace Go.Proofs.YtfhjnfocmlndpaaDoor
open Go Go.RowKit Go.Proofs

theorem rright_any (h : Hd) (w : World) : Calls Tryd.prog 64 #[h.val] w fun e w' => e = .returned (.bool h.right) ∧ Below w.heap.size w w' := by
  obtain ⟨ep, root, prev⟩ := h
  unfold Hd.val Hd.right
  have hb : Below w.heap.size w (w.alloc (.cells #[.int .i64 ep, .string root, .string prev] 63)) := (Below.refl _ _).alloc (Nat.le_refl _) _
  have HMr := Lib.hid (fun W => rmk_any root W)
  have HMp := Lib.hid (fun W => rmk_any prev W)
  dsimp only
  by_cases h1 : 1 ≤ ep
  · have h0 : 0 < ep := by omega
    rw [decide_eq_true h1]
    cases h2 : decide (root.size = 16) with
    | false =>
      rw [h2] at HMr
      go_enter Tryd.func64, Tryd.ntmps64
      go_wp2_with (first
        | (go_at_call 98; with_reducible refine (HMr.out _).mono ?_; rintro e w1 ⟨rfl, hw⟩; have hw2 := hw.symm; subst hw2))
      go_ret
      exact ⟨rfl, hb⟩
    | true =>
      rw [h2] at HMr
      cases h3 : decide (prev.size = 16) with
      | false =>
        rw [h3] at HMp
        go_enter Tryd.func64, Tryd.ntmps64
        go_wp2_with (first
          | (go_at_call 98; with_reducible refine (HMr.out _).mono ?_; rintro e w1 ⟨rfl, hw⟩; have hw2 := hw.symm; subst hw2)
          | (go_at_call 98; with_reducible refine (HMp.out _).mono ?_; rintro e w1 ⟨rfl, hw⟩; have hw2 := hw.symm; subst hw2))
        go_ret
        exact ⟨rfl, hb⟩
      | true =>
        rw [h3] at HMp
        go_enter Tryd.func64, Tryd.ntmps64
        go_wp2_with (first
          | (go_at_call 98; with_reducible refine (HMr.out _).mono ?_; rintro e w1 ⟨rfl, hw⟩; have hw2 := hw.symm; subst hw2)
          | (go_at_call 98; with_reducible refine (HMp.out _).mono ?_; rintro e w1 ⟨rfl, hw⟩; have hw2 := hw.symm; subst hw2))
        go_ret
        exact ⟨rfl, hb⟩
  · have h0 : ¬ 0 < ep := by omega
    rw [decide_eq_false h1]
    go_enter Tryd.func64, Tryd.ntmps64
    go_wp2_with fail
    go_ret
    exact ⟨rfl, hb⟩

set_option maxHeartbeats 1000000 in
theorem rhmark_any (r : Nat) (h : Hd) (w : World) (hh : h.Held) (hr0 : RAt w r) :
    Calls Tryd.prog 61 #[.pointer (some ⟨r, 0, none⟩), h.val] w fun e w' => e = .returned (.tuple #[.string (hmarkS h), .int .i64 (hmarkK h)]) ∧ Below w.heap.size w w' := by
  have HR := Lib.hid (fun W => rright_any h W)
  have HH := Lib.hid hh
  have Hr := Lib.hid hr0
  have hb : Below w.heap.size w (w.alloc (.cells #[.int .i64 h.epoch, .string h.root, .string h.prev] 63)) := (Below.refl _ _).alloc (Nat.le_refl _) _
  clear hh hr0
  unfold hmarkS hmarkK
  unfold Hd.val at *
  cases hr : h.right with
  | false =>
    rw [hr] at HR
    go_enter Tryd.func61, Tryd.ntmps61
    go_wp2_with (go_at_call 64; refine (HR.out _).mono ?_; rintro e w1 ⟨rfl, hB1⟩)
    go_ret2
    exact ⟨rfl, hb.trans (hB1.mono hb.size)⟩
  | true =>
    rw [hr] at HR
    have HO : Hid (headS h = markS 104 [numS h.epoch, h.root, h.prev]) := rfl
    generalize headS h = M at *
    go_enter Tryd.func61, Tryd.ntmps61
    go_wp2_with (go_at_call 64; refine (HR.out _).mono ?_; rintro e w1 ⟨rfl, hB1⟩)
    have hC1 := hb.trans (hB1.mono hb.size)
    have k0 : w1.cell? ⟨w.heap.size, 0, none⟩ = some (.int .i64 h.epoch) := by rw [hB1.cell (by simp), cell_of_row _ _ _ _ _ _ (heap_alloc_new _ _)]; rfl
    have k1 : w1.cell? ⟨w.heap.size, 1, none⟩ = some (.string h.root) := by rw [hB1.cell (by simp), cell_of_row _ _ _ _ _ _ (heap_alloc_new _ _)]; rfl
    have k2 : w1.cell? ⟨w.heap.size, 2, none⟩ = some (.string h.prev) := by rw [hB1.cell (by simp), cell_of_row _ _ _ _ _ _ (heap_alloc_new _ _)]; rfl
    have x0 := fun x : Grown w1 => x.cell k0
    have x1 := fun x : Grown w1 => x.cell k1
    have x2 := fun x : Grown w1 => x.cell k2
    clear k0 k1 k2
    refine wp_region_any (by kernel_rfl) ?_
    refine wpAny_take (i := 0) (v := ?_) rfl (by kernel_rfl) (by kernel_rfl) (by kernel_rfl) (fun _ _ _ h => h) (Or.inl ⟨by rfl, ?_⟩) ?_
    case refine_2 => intro w; go_simp <;> with_reducible rfl
    refine wpAny_grown_tail (w0 := w1) 1 8 (by kernel_rfl) (belowN (Below.refl _ _) 1) ?_
    simp only [List.take_succ_cons, List.take_zero, List.drop_succ_cons, List.drop_zero]
    repeat (quiet_step ((go_at_call 20; exact Grown.call _ (rnum_any _ _ HH.out.lo HH.out.hi))))
    refine wpQuiet_nil ?_
    intro x
    have hX := hC1.trans (x.below.mono hC1.size)
    generalize x.val = wx at hX
    have hn1 := numS_size h.epoch
    have hn2 := HH.out.root
    have hn3 := HH.out.prev
    go_wp2_with (first
      | (go_at_call 22; refine (rmark3 r 104 _ rfl _ _ _ _ (by omega) (by omega) (by omega) (Hr.out.mono hX)).mono ?_; rw [← HO.out]; rintro e w2 ⟨rfl, hB2⟩))
    go_ret2
    exact ⟨rfl, hX.trans (hB2.mono hX.size)⟩
end Go.Proofs.YtfhjnfocmlndpaaDoor
