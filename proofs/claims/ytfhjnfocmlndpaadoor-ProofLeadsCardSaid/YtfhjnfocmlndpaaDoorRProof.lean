/- The reference's Empty, Leaf, Join, RightProof. -/
import Derived.Test.YtfhjnfocmlndpaaDoorPVerify
import Derived.Test.YtfhjnfocmlndpaaDoorOnceT
import Derived.Test.YtfhjnfocmlndpaaDoorIndexR
namespace Go.Proofs.YtfhjnfocmlndpaaDoor
open Go Go.RowKit Go.Proofs

theorem rmark2 (r : Nat) (c : UInt8) (n : Int) (hn : n = (c.toNat : Int)) (p q : ByteArray) (w : World) (hp : p.size ≤ 1000) (hq : q.size ≤ 1000) (hr : RAt w r) :
    Calls Tryd.prog 22 #[.pointer (some ⟨r, 0, none⟩), .int .u8 n, .slice (some ⟨w.heap.size, 0, none⟩) 2 2] (w.alloc (.cells #[.string p, .string q] 9)) fun e w' => e = .returned (.string (markS c [p, q])) ∧ Below w.heap.size w w' := by
  subst hn
  have hb : Below w.heap.size w (w.alloc (.cells #[.string p, .string q] 9)) := (Below.refl _ _).alloc (Nat.le_refl _) _
  refine (rmark_any r c _ [p, q] _ (hr.mono hb) (Reads.lit w 9 2 1 [.string p, .string q] rfl) (small_mark c _ (show 2 ≤ 1000 by decide) ?_)).mono ?_
  · intro x hx
    simp only [List.mem_cons, List.not_mem_nil, or_false] at hx
    rcases hx with rfl | rfl <;> assumption
  · rintro e w' ⟨he, hb2⟩
    exact ⟨he, hb.trans (hb2.mono hb.size)⟩
theorem rjoin_any (r : Nat) (a b : ByteArray) (w : World) (ha : a.size ≤ 1000) (hb : b.size ≤ 1000) (hr : RAt w r) :
    Calls Tryd.prog 111 #[.pointer (some ⟨r, 0, none⟩), .string a, .string b] w fun e w' => e = .returned (.string (joinS a b)) ∧ Below w.heap.size w w' := by
  have HK := Lib.hid (rmark2 r 110 _ rfl a b w ha hb hr)
  clear hr
  go_enter Tryd.func111, Tryd.ntmps111
  go_wp2_with (go_at_call 22; refine HK.out.mono ?_; rintro e w1 ⟨rfl, hB1⟩)
  go_ret
  exact ⟨rfl, hB1⟩
theorem rempty_any (r : Nat) (d : Nat) (w : World) (hd : d ≤ 1000) (hr : RAt w r) :
    Calls Tryd.prog 108 #[.pointer (some ⟨r, 0, none⟩), .int .i64 d] w fun e w' => e = .returned (.string (emptyS d)) ∧ Below w.heap.size w w' := by
  have Hr := Lib.hid hr
  have hn1 := numS_size (d : Int)
  clear hr
  go_enter Tryd.func108, Tryd.ntmps108
  go_wp2_with (first
    | (go_at_call 20; refine (rnum_any _ _ (by omega) (by omega)).mono ?_; rintro e w1 ⟨rfl, hB1⟩)
    | (go_at_call 22; refine (rmark1 r 101 _ rfl _ _ (by omega) (Hr.out.mono hB1)).mono ?_; rintro e w2 ⟨rfl, hB2⟩))
  go_ret
  exact ⟨rfl, hB1.trans (hB2.mono hB1.size)⟩
theorem rleaf_any (r : Nat) (li lc : ByteArray) (d : Nat) (w : World) (hd : d ≤ 1000) (hli : li.size ≤ 1000) (hlc : lc.size ≤ 1000) (hr : RAt w r) :
    Calls Tryd.prog 109 #[.pointer (some ⟨r, 0, none⟩), .agg #[.string li, .string lc], .int .i64 d] w fun e w' => e = .returned (.string (leafS li lc d)) ∧ Below w.heap.size w w' := by
  have Hr := Lib.hid hr
  have hn1 := numS_size (d : Int)
  have hlo : -9223372036854775808 ≤ (d : Int) := by omega
  have hhi : (d : Int) ≤ 9223372036854775807 := by omega
  have hb : Below w.heap.size w (w.alloc (.cells #[.string li, .string lc] 49)) := (Below.refl _ _).alloc (Nat.le_refl _) _
  have k0 : (w.alloc (.cells #[.string li, .string lc] 49)).cell? ⟨w.heap.size, 0, none⟩ = some (.string li) := by rw [cell_of_row _ _ _ _ _ _ (heap_alloc_new _ _)]; rfl
  have k1 : (w.alloc (.cells #[.string li, .string lc] 49)).cell? ⟨w.heap.size, 1, none⟩ = some (.string lc) := by rw [cell_of_row _ _ _ _ _ _ (heap_alloc_new _ _)]; rfl
  clear hr
  go_enter Tryd.func109, Tryd.ntmps109
  go_wp2_with fail
  generalize w.alloc (.cells #[.string li, .string lc] 49) = w1 at *
  have x0 := fun x : Grown w1 => x.cell k0
  have x1 := fun x : Grown w1 => x.cell k1
  clear k0 k1
  refine wp_region_any (by kernel_rfl) ?_
  refine wpAny_take (i := 0) (v := ?_) rfl (by kernel_rfl) (by kernel_rfl) (by kernel_rfl) (fun _ _ _ h => h) (Or.inl ⟨by rfl, ?_⟩) ?_
  case refine_2 => intro w; go_simp <;> with_reducible rfl
  refine wpAny_grown_tail (w0 := w1) 1 7 (by kernel_rfl) (belowN (Below.refl _ _) 1) ?_
  simp only [List.take_succ_cons, List.take_zero, List.drop_succ_cons, List.drop_zero]
  repeat (quiet_step ((go_at_call 20; exact Grown.call _ (rnum_any (d : Int) _ hlo hhi))))
  refine wpQuiet_nil ?_
  intro x
  have hX := hb.trans (x.below.mono hb.size)
  generalize x.val = wx at hX
  go_wp2_with (first
    | (go_at_call 22; refine (rmark3 r 108 _ rfl _ _ _ _ (by omega) (by omega) (by omega) (Hr.out.mono hX)).mono ?_; rintro e w2 ⟨rfl, hB2⟩))
  go_ret
  exact ⟨rfl, hX.trans (hB2.mono hX.size)⟩
end Go.Proofs.YtfhjnfocmlndpaaDoor
