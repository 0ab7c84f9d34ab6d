/- Marks of the trie, and which proofs may be (the program's). -/
import Derived.Test.YtfhjnfocmlndpaaDoorHasP
import Derived.Test.YtfhjnfocmlndpaaDoorNode
import Derived.Test.YtfhjnfocmlndpaaDoorIndex
import Derived.Test.YtfhjnfocmlndpaaDoorGrownM
namespace Go.Proofs.YtfhjnfocmlndpaaDoor
open Go Go.RowKit Go.Proofs

/-! ### in plain Lean -/
/-- which proof may be one of ix: the marks beside the way, and the leaf's two -/
def rightP (ix : ByteArray) (path : List ByteArray) (li lc : ByteArray) : Prop :=
  ix.size = 16 ∧ path.length ≤ 128 ∧ (∀ p ∈ path, p.size = 16) ∧ (li.size = 0 ∧ lc.size = 0 ∨ li.size = 16 ∧ path.length ≤ cmn ix li ∧ lc.size = 16)
open Classical in
noncomputable def rightB (ix : ByteArray) (path : List ByteArray) (li lc : ByteArray) : Bool := decide (rightP ix path li lc)

theorem mark2 (c : UInt8) (n : Int) (hn : n = (c.toNat : Int)) (p q : ByteArray) (w : World) (hp : p.size ≤ 1000) (hq : q.size ≤ 1000) (hk : KAt w 0) :
    Calls Tryd.prog 21 #[.int .u8 n, .slice (some ⟨w.heap.size, 0, none⟩) 2 2] (w.alloc (.cells #[.string p, .string q] 9)) fun e w' => e = .returned (.string (markS c [p, q])) ∧ Below w.heap.size w w' := by
  subst hn
  have hb : Below w.heap.size w (w.alloc (.cells #[.string p, .string q] 9)) := (Below.refl _ _).alloc (Nat.le_refl _) _
  refine (mark_any c _ [p, q] _ (Reads.lit w 9 2 1 [.string p, .string q] rfl) (small_mark c _ (show 2 ≤ 1000 by decide) ?_) (hk.mono hb)).mono ?_
  · intro x hx
    simp only [List.mem_cons, List.not_mem_nil, or_false] at hx
    rcases hx with rfl | rfl <;> assumption
  · rintro e w' ⟨he, hb2⟩
    exact ⟨he, hb.trans (hb2.mono hb.size)⟩
theorem tjoin_any (a b : ByteArray) (w : World) (ha : a.size ≤ 1000) (hb : b.size ≤ 1000) (hk : KAt w 0) :
    Calls Tryd.prog 115 #[.string a, .string b] w fun e w' => e = .returned (.string (joinS a b)) ∧ Below w.heap.size w w' := by
  have HK := Lib.hid (mark2 110 _ rfl a b w ha hb hk)
  clear hk
  go_enter Tryd.func115, Tryd.ntmps115
  go_wp2_with (go_at_call 21; refine HK.out.mono ?_; rintro e w1 ⟨rfl, hB1⟩)
  go_ret
  exact ⟨rfl, hB1⟩
theorem tempty_any (d : Nat) (w : World) (hd : d ≤ 1000) (hk : KAt w 0) :
    Calls Tryd.prog 112 #[.int .i64 d] w fun e w' => e = .returned (.string (emptyS d)) ∧ Below w.heap.size w w' := by
  have Hk := Lib.hid hk
  have hn1 := numS_size (d : Int)
  clear hk
  go_enter Tryd.func112, Tryd.ntmps112
  go_wp2_with (first
    | (go_at_call 19; refine (num_any _ _ (by omega) (by omega)).mono ?_; rintro e w1 ⟨rfl, hB1⟩)
    | (go_at_call 21; refine (mark1 101 _ rfl _ _ (by omega) (Hk.out.mono hB1)).mono ?_; rintro e w2 ⟨rfl, hB2⟩))
  go_ret
  exact ⟨rfl, hB1.trans (hB2.mono hB1.size)⟩
theorem tleaf_any (li lc : ByteArray) (d : Nat) (w : World) (hd : d ≤ 1000) (hli : li.size ≤ 1000) (hlc : lc.size ≤ 1000) (hk : KAt w 0) :
    Calls Tryd.prog 113 #[.agg #[.string li, .string lc], .int .i64 d] w fun e w' => e = .returned (.string (leafS li lc d)) ∧ Below w.heap.size w w' := by
  have Hk := Lib.hid hk
  have hn1 := numS_size (d : Int)
  have hlo : -9223372036854775808 ≤ (d : Int) := by omega
  have hhi : (d : Int) ≤ 9223372036854775807 := by omega
  have hb : Below w.heap.size w (w.alloc (.cells #[.string li, .string lc] 49)) := (Below.refl _ _).alloc (Nat.le_refl _) _
  have k0 : (w.alloc (.cells #[.string li, .string lc] 49)).cell? ⟨w.heap.size, 0, none⟩ = some (.string li) := by rw [cell_of_row _ _ _ _ _ _ (heap_alloc_new _ _)]; rfl
  have k1 : (w.alloc (.cells #[.string li, .string lc] 49)).cell? ⟨w.heap.size, 1, none⟩ = some (.string lc) := by rw [cell_of_row _ _ _ _ _ _ (heap_alloc_new _ _)]; rfl
  clear hk
  go_enter Tryd.func113, Tryd.ntmps113
  go_wp2_with fail
  generalize w.alloc (.cells #[.string li, .string lc] 49) = w1 at *
  have x0 := fun x : Grown w1 => x.cell k0
  have x1 := fun x : Grown w1 => x.cell k1
  clear k0 k1
  refine wp_region_grown_tail 6 (by kernel_rfl) (by kernel_rfl) ?_
  simp only [List.take_succ_cons, List.take_zero, List.drop_succ_cons, List.drop_zero]
  repeat (quiet_step ((go_at_call 19; exact Grown.call _ (num_any (d : Int) _ hlo hhi))))
  refine wpQuiet_nil ?_
  intro x
  have hX := hb.trans (x.below.mono hb.size)
  generalize x.val = wx at hX
  go_wp2_with (first
    | (go_at_call 21; refine (mark3 108 _ rfl _ _ _ _ (by omega) (by omega) (by omega) (Hk.out.mono hX)).mono ?_; rintro e w2 ⟨rfl, hB2⟩))
  go_ret
  exact ⟨rfl, hX.trans (hB2.mono hX.size)⟩
end Go.Proofs.YtfhjnfocmlndpaaDoor
