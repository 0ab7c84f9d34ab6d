/- The reference's New: a block that holds the numbers of FIPS 180-4. -/
import Derived.Test.YtfhjnfocmlndpaaDoorSjRefNew
import Derived.Deep.RegionWith
namespace Go.Proofs.YtfhjnfocmlndpaaDoor
open Go Go.RowKit Go.Proofs

/-- the reference's R: a pointer to a block that holds the numbers -/
def RAt (w : World) (b : Nat) : Prop := U32At w b 140 (H0 ++ K0)
def NewPost (w : World) (e : Ending) (w' : World) : Prop := ∃ b, e = .returned (.pointer (some ⟨b, 0, none⟩)) ∧ RAt w' b ∧ w.heap.size ≤ b ∧ Below w.heap.size w w'

set_option maxRecDepth 100000 in
set_option maxHeartbeats 2000000 in
theorem new_any (w : World) : Calls Tryd.prog 14 #[] w (NewPost w) := by
  go_enter Tryd.func14, Tryd.ntmps14
  go_upto_region 2 with fail
  generalize hW0 : w.alloc _ = W0
  have hH : U32At W0 w.heap.size 140 (rowTo 0) := by rw [← hW0, rowTo_0]; exact (heap_alloc_new w _).trans (by kernel_rfl)
  have hB0 : Below w.heap.size w W0 := by rw [← hW0]; exact (Below.refl _ _).alloc (Nat.le_refl _) _
  have hz0 : W0.heap.size = w.heap.size + 1 := by rw [← hW0]; simp
  clear hW0
  have HH := Lib.hid hH
  have HB0 := Lib.hid hB0
  have Hz0 := Lib.hid hz0
  clear hH hB0 hz0
  go_wp2_with (go_at_call 93; refine (primes_any _).mono ?_; rintro e w1 ⟨v, n, hn, rfl, hO, hB1⟩; obtain ⟨g, cap, rfl, hg1, hg2, hnc, hcm⟩ := hO.some_ (by omega); have HN := Lib.hid hn; have hn1 : 64 ≤ n := (by omega); have hn2 : n ≤ 64 := (by omega); clear hn)
  have HO := Lib.hid hO
  have HU1 := Lib.hid (HH.out.below hB1 HH.out.lt)
  have HB1 := Lib.hid (HB0.out.trans (hB1.mono HB0.out.size))
  have hgw : w.heap.size < g := by have := Hz0.out; omega
  clear hO hB1 hcm hg1 HH HB0 Hz0
  go_loopw [8] (fun i wr => ∃ k : Nat, k ≤ 64 ∧ i = .int .i64 k ∧ U32At wr w.heap.size 140 (rowTo k) ∧ Below w.heap.size w wr ∧ Own wr W0.heap.size 3 1 (.slice (some ⟨g, 0, none⟩) n cap) n (intc P64)) (fun i _ => 64 - (intOf i).toNat)
  case atStart => exact ⟨0, by omega, rfl, HU1.out, HB1.out, HO.out⟩
  case round =>
    clear HU1 HB1 HO
    obtain ⟨k, hk, rfl, hU, hB, hO⟩ := hrel
    have HU := Lib.hid hU
    have HB := Lib.hid hB
    have HO := Lib.hid hO
    clear hU hB hO
    by_cases hlt : k < 64
    · obtain ⟨p, hp⟩ : ∃ p, P64.getD k 0 = p := ⟨_, rfl⟩
      have hr3 := R3_at k hlt
      rw [hp] at hr3
      have hp16 : p < 65536 := hr3.2.2.1
      have hc : wr.cell? ⟨g, k, none⟩ = some (.int .i64 (p : Int)) := by
        have := HO.out.cell (g := g) rfl (intc_get P64 k hlt)
        rw [hp] at this; exact this
      obtain ⟨y, hy⟩ : ∃ y, K0.getD k 0 = y := ⟨_, rfl⟩
      have HC3 : ∀ W, Calls Tryd.prog 94 #[.int .u64 (p : Int), .int .i64 3] W fun e w' => e = .returned (.int .u32 (iv y)) ∧ Below W.heap.size W w' := fun W => by
        rw [← hy, ← hr3.2.2.2.2]
        exact root_any p 3 (R3.getD k 0) W (by decide) (by decide) hp16 hr3.1 hr3.2.1 hr3.2.2.2.1
      have a1 : IntKind.u64.wrap (p : Int) = p := by rw [IntKind.wrap_u64]; omega
      have H3 := Lib.hid HC3
      have HP := Lib.hid hp
      have HY := Lib.hid hy
      clear hr3 HC3 hp hy
      have hwlt : w.heap.size < wr.heap.size := HU.out.lt
      have hgr : g < wr.heap.size := (HO.out.lt g rfl).2
      have hgne : g ≠ w.heap.size := by omega
      have hki : (k : Int) < 64 := by omega
      by_cases h8 : k < 8
      · have h8i : (k : Int) < 8 := by omega
        have hr2 := R2_at k h8
        rw [HP.out] at hr2
        obtain ⟨z, hz⟩ : ∃ z, H0.getD k 0 = z := ⟨_, rfl⟩
        have HC2 : ∀ W, Calls Tryd.prog 94 #[.int .u64 (p : Int), .int .i64 2] W fun e w' => e = .returned (.int .u32 (iv z)) ∧ Below W.heap.size W w' := fun W => by
          rw [← hz, ← hr2.2.2.2.2]
          exact root_any p 2 (R2.getD k 0) W (by decide) (by decide) hp16 hr2.1 hr2.2.1 hr2.2.2.2.1
        have H2 := Lib.hid HC2
        have HZ := Lib.hid hz
        clear hr2 HC2 hz
        go_wp2_with fail
        go_region_with (first | (go_at_call 94; (with_reducible refine (H3.out _).mono ?_); rintro e w2 ⟨rfl, hB2⟩; have hU2 := HU.out.drew.below hB2 hwlt; have hc2 := hU2.cell (8 + k) (by rw [rowTo_length]; omega); have hf2 := hU2.free (8 + k)))
        have hU3 := hU2.set (8 + k) y
        have hB3 : Below w.heap.size w (w2.setCell ⟨w.heap.size, 8 + k, none⟩ (.int .u32 (iv y))) := below_set (HB.out.drew.trans (hB2.mono (by show w.heap.size ≤ wr.heap.size; omega))) (Nat.le_refl _) _
        have hO3 : Own (w2.setCell ⟨w.heap.size, 8 + k, none⟩ (.int .u32 (iv y))) W0.heap.size 3 1 (.slice (some ⟨g, 0, none⟩) n cap) n (intc P64) :=
          (HO.out.below (B := wr.heap.size) ⟨hB2.os, hB2.tape, hB2.output, hB2.size, fun j hj => hB2.block j hj⟩ (fun j hj => (HO.out.lt j hj).2)).kept (grownBy_setCell _ _ _ _) (.inr (by simp only [Value.ownBlock]; intro e; exact hgne (Option.some.inj e)))
        have hsz3 : wr.heap.size ≤ (w2.setCell ⟨w.heap.size, 8 + k, none⟩ (.int .u32 (iv y))).heap.size := by
          have := hB2.size
          simp [World.setCell] at this ⊢; omega
        have HU3 := Lib.hid hU3
        have HB3 := Lib.hid hB3
        have HO3 := Lib.hid hO3
        clear hU3 hB3 hO3 hU2 hc2 hf2 hB2
        generalize w2.setCell ⟨w.heap.size, 8 + k, none⟩ (.int .u32 (iv y)) = w3 at *
        clear HU HB HO
        go_wp2_with fail
        go_region_with (first | (go_at_call 94; (with_reducible refine (H2.out _).mono ?_); rintro e w4 ⟨rfl, hB4⟩; have hU4 := HU3.out.drew.below hB4 (by show w.heap.size < w3.heap.size; omega); have hc4 := hU4.cell k (by rw [List.length_set, rowTo_length]; omega); have hf4 := hU4.free k))
        have hU5 := hU4.set k z
        rw [← HY.out, ← HZ.out, rowTo_small k h8, HZ.out] at hU5
        have hB5 : Below w.heap.size w (w4.setCell ⟨w.heap.size, k, none⟩ (.int .u32 (iv z))) := below_set (HB3.out.drew.trans (hB4.mono (by show w.heap.size ≤ w3.heap.size; omega))) (Nat.le_refl _) _
        have hO5 : Own (w4.setCell ⟨w.heap.size, k, none⟩ (.int .u32 (iv z))) W0.heap.size 3 1 (.slice (some ⟨g, 0, none⟩) n cap) n (intc P64) :=
          (HO3.out.below (B := w3.heap.size) ⟨hB4.os, hB4.tape, hB4.output, hB4.size, fun j hj => hB4.block j hj⟩ (fun j hj => (HO3.out.lt j hj).2)).kept (grownBy_setCell _ _ _ _) (.inr (by simp only [Value.ownBlock]; intro e; exact hgne (Option.some.inj e)))
        clear hU4 hc4 hf4 hB4
        go_wp2_with fail
        go_roundw
        case rel => exact ⟨k + 1, by omega, by go_num, hU5, hB5, hO5⟩
        case measure => simp [intOf]; omega
      · have h8i : ¬ (k : Int) < 8 := by omega
        have h8n : 8 ≤ k := by omega
        go_wp2_with fail
        go_region_with (first | (go_at_call 94; (with_reducible refine (H3.out _).mono ?_); rintro e w2 ⟨rfl, hB2⟩; have hU2 := HU.out.drew.below hB2 hwlt; have hc2 := hU2.cell (8 + k) (by rw [rowTo_length]; omega); have hf2 := hU2.free (8 + k)))
        have hU3 := hU2.set (8 + k) y
        rw [← HY.out, rowTo_big k h8n hlt, HY.out] at hU3
        have hB3 : Below w.heap.size w (w2.setCell ⟨w.heap.size, 8 + k, none⟩ (.int .u32 (iv y))) := below_set (HB.out.drew.trans (hB2.mono (by show w.heap.size ≤ wr.heap.size; omega))) (Nat.le_refl _) _
        have hO3 : Own (w2.setCell ⟨w.heap.size, 8 + k, none⟩ (.int .u32 (iv y))) W0.heap.size 3 1 (.slice (some ⟨g, 0, none⟩) n cap) n (intc P64) :=
          (HO.out.below (B := wr.heap.size) ⟨hB2.os, hB2.tape, hB2.output, hB2.size, fun j hj => hB2.block j hj⟩ (fun j hj => (HO.out.lt j hj).2)).kept (grownBy_setCell _ _ _ _) (.inr (by simp only [Value.ownBlock]; intro e; exact hgne (Option.some.inj e)))
        clear hU2 hc2 hf2 hB2
        go_wp2_with fail
        go_roundw
        case rel => exact ⟨k + 1, by omega, by go_num, hU3, hB3, hO3⟩
        case measure => simp [intOf]; omega
    · have hge : n ≤ k := by omega
      have hfin : RAt wr w.heap.size := by
        unfold RAt
        rw [← rowTo_64, show 64 = k from by omega]; exact HU.out
      have HF := Lib.hid hfin
      clear hfin hlt
      go_wp2_with fail
      go_ret
      exact ⟨_, rfl, HF.out, Nat.le_refl _, HB.out⟩
end Go.Proofs.YtfhjnfocmlndpaaDoor
