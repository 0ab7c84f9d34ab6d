/- Heads: which may be, and their marks (the program's). -/
import Derived.Test.YtfhjnfocmlndpaaDoorGrown
import Derived.Test.YtfhjnfocmlndpaaDoorOnce
import Derived.Test.YtfhjnfocmlndpaaDoorName
namespace Go.Proofs.YtfhjnfocmlndpaaDoor
open Go Go.RowKit Go.Proofs

/-- a head -/
structure Hd where
  epoch : Int
  root : ByteArray
  prev : ByteArray
def Hd.val (h : Hd) : Value := .agg #[.int .i64 h.epoch, .string h.root, .string h.prev]
def Hd.cells (h : Hd) : List Value := [.int .i64 h.epoch, .string h.root, .string h.prev]
/-- what may be held -/
structure Hd.Held (h : Hd) : Prop where
  lo : -9223372036854775808 ≤ h.epoch
  hi : h.epoch ≤ 9223372036854775807
  root : h.root.size ≤ 60
  prev : h.prev.size ≤ 60
def Hd.right (h : Hd) : Bool := decide (1 ≤ h.epoch) && decide (h.root.size = 16) && decide (h.prev.size = 16)
def headS (h : Hd) : ByteArray := markS 104 [numS h.epoch, h.root, h.prev]
def hmarkS (h : Hd) : ByteArray := if h.right then headS h else ⟨#[]⟩
def hmarkK (h : Hd) : Int := if h.right then 0 else 1

theorem cright_any (h : Hd) (w : World) : Calls Tryd.prog 63 #[h.val] w fun e w' => e = .returned (.bool h.right) ∧ Below w.heap.size w w' := by
  obtain ⟨ep, root, prev⟩ := h
  unfold Hd.val Hd.right
  have hb : Below w.heap.size w (w.alloc (.cells #[.int .i64 ep, .string root, .string prev] 63)) := (Below.refl _ _).alloc (Nat.le_refl _) _
  dsimp only
  by_cases h1 : 1 ≤ ep
  · by_cases h2 : root.size = 16
    · have f2 : (root.size : Int) = 16 := by omega
      by_cases h3 : prev.size = 16
      · have f3 : (prev.size : Int) = 16 := by omega
        rw [decide_eq_true h1, decide_eq_true h2, decide_eq_true h3]
        clear h2 h3
        go_enter Tryd.func63, Tryd.ntmps63
        go_wp2_with fail
        go_ret
        exact ⟨rfl, hb⟩
      · have f3 : ((prev.size : Int) == 16) = false := by rw [beq_eq_false_iff_ne]; omega
        rw [decide_eq_true h1, decide_eq_true h2, decide_eq_false h3]
        clear h2 h3
        go_enter Tryd.func63, Tryd.ntmps63
        go_wp2_with fail
        go_ret
        exact ⟨rfl, hb⟩
    · have f2 : ((root.size : Int) == 16) = false := by rw [beq_eq_false_iff_ne]; omega
      rw [decide_eq_true h1, decide_eq_false h2]
      clear h2
      go_enter Tryd.func63, Tryd.ntmps63
      go_wp2_with fail
      go_ret
      exact ⟨rfl, hb⟩
  · rw [decide_eq_false h1]
    go_enter Tryd.func63, Tryd.ntmps63
    go_wp2_with fail
    go_ret
    exact ⟨rfl, hb⟩

set_option maxHeartbeats 1000000 in
theorem cmark_any (h : Hd) (w : World) (hh : h.Held) (hk : KAt w 0) :
    Calls Tryd.prog 62 #[h.val] w (StrPost (hmarkS h) (hmarkK h) w) := by
  have HR := Lib.hid (fun W => cright_any h W)
  have HH := Lib.hid hh
  have Hk := Lib.hid hk
  have hb : Below w.heap.size w (w.alloc (.cells #[.int .i64 h.epoch, .string h.root, .string h.prev] 63)) := (Below.refl _ _).alloc (Nat.le_refl _) _
  clear hh hk
  unfold StrPost hmarkS hmarkK
  unfold Hd.val at *
  cases hr : h.right with
  | false =>
    rw [hr] at HR
    go_enter Tryd.func62, Tryd.ntmps62
    go_wp2_with (go_at_call 63; refine (HR.out _).mono ?_; rintro e w1 ⟨rfl, hB1⟩)
    go_ret2
    exact ⟨rfl, hb.trans (hB1.mono hb.size)⟩
  | true =>
    rw [hr] at HR
    have HO : Hid (headS h = markS 104 [numS h.epoch, h.root, h.prev]) := rfl
    generalize headS h = M at *
    go_enter Tryd.func62, Tryd.ntmps62
    go_wp2_with (go_at_call 63; refine (HR.out _).mono ?_; rintro e w1 ⟨rfl, hB1⟩)
    have hC1 := hb.trans (hB1.mono hb.size)
    have k0 : w1.cell? ⟨w.heap.size, 0, none⟩ = some (.int .i64 h.epoch) := by rw [hB1.cell (by simp), cell_of_row _ _ _ _ _ _ (heap_alloc_new _ _)]; rfl
    have k1 : w1.cell? ⟨w.heap.size, 1, none⟩ = some (.string h.root) := by rw [hB1.cell (by simp), cell_of_row _ _ _ _ _ _ (heap_alloc_new _ _)]; rfl
    have k2 : w1.cell? ⟨w.heap.size, 2, none⟩ = some (.string h.prev) := by rw [hB1.cell (by simp), cell_of_row _ _ _ _ _ _ (heap_alloc_new _ _)]; rfl
    have x0 := fun x : Grown w1 => x.cell k0
    have x1 := fun x : Grown w1 => x.cell k1
    have x2 := fun x : Grown w1 => x.cell k2
    clear k0 k1 k2
    refine wp_region_grown_tail 7 (by kernel_rfl) (by kernel_rfl) ?_
    simp only [List.take_succ_cons, List.take_zero, List.drop_succ_cons, List.drop_zero]
    repeat (quiet_step ((go_at_call 19; exact Grown.call _ (num_any _ _ HH.out.lo HH.out.hi))))
    refine wpQuiet_nil ?_
    intro x
    have hX := hC1.trans (x.below.mono hC1.size)
    generalize x.val = wx at hX
    have hn1 := numS_size h.epoch
    have hn2 := HH.out.root
    have hn3 := HH.out.prev
    go_wp2_with (first
      | (go_at_call 21; refine (mark3 104 _ rfl _ _ _ _ (by omega) (by omega) (by omega) (Hk.out.mono hX)).mono ?_; rw [← HO.out]; rintro e w2 ⟨rfl, hB2⟩))
    go_ret2
    exact ⟨rfl, hX.trans (hB2.mono hX.size)⟩
end Go.Proofs.YtfhjnfocmlndpaaDoor
