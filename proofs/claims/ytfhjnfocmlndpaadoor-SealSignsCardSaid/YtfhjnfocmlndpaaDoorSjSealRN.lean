/- The reference's NewBox. -/
import Derived.Test.YtfhjnfocmlndpaaDoorSjSealQ
import Derived.Test.YtfhjnfocmlndpaaDoorSjRPRight
import Derived.Test.YtfhjnfocmlndpaaDoorSjTakeP
namespace Go.Proofs.YtfhjnfocmlndpaaDoor
open Go Go.RowKit Go.Proofs Go.Shelf

theorem nodes_step (seed : ByteArray) (j : Nat) (hj : j < 7) : ∃ p q, (nodesR seed)[2 * j]? = some p ∧ (nodesR seed)[2 * j + 1]? = some q ∧ (nodesR seed)[8 + j]? = some (upM p q) ∧ p.size = 16 ∧ q.size = 16 := by
  rcases (by omega : j = 0 ∨ j = 1 ∨ j = 2 ∨ j = 3 ∨ j = 4 ∨ j = 5 ∨ j = 6) with rfl | rfl | rfl | rfl | rfl | rfl | rfl
  · exact ⟨keyT 0 (pubS seed 0), keyT 1 (pubS seed 1), by kernel_rfl, by kernel_rfl, by kernel_rfl, keyT_size _ _, keyT_size _ _⟩
  · exact ⟨keyT 2 (pubS seed 2), keyT 3 (pubS seed 3), by kernel_rfl, by kernel_rfl, by kernel_rfl, keyT_size _ _, keyT_size _ _⟩
  · exact ⟨keyT 4 (pubS seed 4), keyT 5 (pubS seed 5), by kernel_rfl, by kernel_rfl, by kernel_rfl, keyT_size _ _, keyT_size _ _⟩
  · exact ⟨keyT 6 (pubS seed 6), keyT 7 (pubS seed 7), by kernel_rfl, by kernel_rfl, by kernel_rfl, keyT_size _ _, keyT_size _ _⟩
  · exact ⟨pairR (rowR seed 0) 0, pairR (rowR seed 0) 1, by kernel_rfl, by kernel_rfl, by kernel_rfl, upM_size _ _, upM_size _ _⟩
  · exact ⟨pairR (rowR seed 0) 2, pairR (rowR seed 0) 3, by kernel_rfl, by kernel_rfl, by kernel_rfl, upM_size _ _, upM_size _ _⟩
  · exact ⟨pairR (rowR seed 1) 0, pairR (rowR seed 1) 1, by kernel_rfl, by kernel_rfl, by kernel_rfl, upM_size _ _, upM_size _ _⟩
theorem nodes_take8 (seed : ByteArray) : (nodesR seed).take 8 = leafR seed 8 := by
  unfold nodesR
  rw [List.take_append_of_le_length (by rw [(rowR_length seed).1]; exact Nat.le_refl _), List.take_of_length_le (by rw [(rowR_length seed).1]; exact Nat.le_refl _)]
  rfl
theorem nodes_take_succ (seed : ByteArray) {j : Nat} {p : ByteArray} (h : (nodesR seed)[j]? = some p) : (nodesR seed).take (j + 1) = (nodesR seed).take j ++ [p] := by
  rw [List.take_add_one, h]; rfl
/-- the reference's box while NewBox fills it -/
structure NbSt (w W : World) (B : Nat) (seed : ByteArray) (rv : Value) (l : List ByteArray) : Prop where
  cs : CellO W B 0 (.string seed)
  cr : CellO W B 1 rv
  own : Own W w.heap.size 9 1 rv l.length (strV l)
  ne : rv.ownBlock ≠ some B
  hB : w.heap.size ≤ B
  below : Below w.heap.size w W
theorem NbSt.mono {w W W' : World} {B : Nat} {seed : ByteArray} {rv : Value} {l : List ByteArray} (h : NbSt w W B seed rv l) (hb : Below W.heap.size W W') : NbSt w W' B seed rv l :=
  ⟨h.cs.mono hb h.cs.lt, h.cr.mono hb h.cr.lt, h.own.below hb (fun j hj => (h.own.lt j hj).2), h.ne, h.hB, h.below.trans (hb.mono h.below.size)⟩
theorem NbSt.push {w W Wa : World} {B : Nat} {seed : ByteArray} {rv rv' : Value} {p : ByteArray} {l : List ByteArray} (h : NbSt w W B seed rv l) (hG : W.grownBy Wa rv.ownBlock) (hO : Own Wa w.heap.size 9 1 rv' (l.length + 1) (strV l ++ [.string p]))
    (hob : ∀ k, rv'.ownBlock = some k → rv.ownBlock = some k ∨ W.heap.size ≤ k) : NbSt w (Wa.setCell ⟨B, 1, none⟩ rv') B seed rv' (l ++ [p]) := by
  have hlt := h.cs.lt
  have hne : rv'.ownBlock ≠ some B := fun e => by
    rcases hob B e with h1 | h1
    · exact h.ne h1
    · omega
  refine ⟨(h.cs.grown hG h.ne).other _ (.inr (by decide)), (h.cr.grown hG h.ne).same _, ?_, hne, h.hB, below_set (h.below.grown hG h.below.size (fun j hj => (h.own.lt j hj).1)) h.hB _⟩
  rw [List.length_append, strV_snoc]
  exact hO.kept (grownBy_setCell Wa B 1 rv') (.inr hne)
def NbPost (seed : ByteArray) (w : World) (e : Ending) (w' : World) : Prop := ∃ B, e = .returned (.tuple #[.pointer (some ⟨B, 0, none⟩), .int .i64 0]) ∧ BoxR w' B seed ∧ Below w.heap.size w w'
set_option maxRecDepth 100000 in
set_option maxHeartbeats 4000000 in
theorem rnew_ok (r : Nat) (seed : ByteArray) (w : World) (h16 : seed.size = 16) (hk : RAt w r) : Calls Tryd.prog 51 #[.pointer (some ⟨r, 0, none⟩), .string seed] w (NbPost seed w) := by
  have HP := Lib.hid (fun (k : Nat) W (h : k < 8) (hW : Below w.heap.size w W) => rpublic_ok r seed k W h16 (by omega) (by omega) (hk.mono hW))
  have HN := Lib.hid (fun (k : Nat) W (h : k < 8) => rnum_any k W (by omega) (by omega))
  have HM := Lib.hid (fun (k : Nat) (x : ByteArray) W (hx : x.size = 16) (hW : Below w.heap.size w W) => rmark2 r 116 116 rfl (numS k) x W (by rw [numS_size]; decide) (by omega) (hk.mono hW))
  have HU := Lib.hid (fun (x y : ByteArray) W (hx : x.size = 16) (hy : y.size = 16) (hW : Below w.heap.size w W) => rmark2 r 117 117 rfl x y W (by omega) (by omega) (hk.mono hW))
  unfold NbPost
  clear hk
  go_enter Tryd.func51, Tryd.ntmps51
  go_wp2_with (go_at_call 98; refine (rmk_yes _ _ h16).mono ?_; rintro e w0 ⟨rfl, hw⟩; subst hw)
  have hcs := CellO.new0 w (.string seed) (.slice none 0 0) 174
  have hB0 : Below w.heap.size w (w.alloc (.cells #[.string seed, .slice none 0 0] 174)) := (Below.refl _ _).alloc (Nat.le_refl _) _
  have hS0 : NbSt w (w.alloc (.cells #[.string seed, .slice none 0 0] 174)) w.heap.size seed (.slice none 0 0) [] := ⟨hcs.1, hcs.2, Own.nil _ _ _ _, by simp [Value.ownBlock], Nat.le_refl _, hB0⟩
  obtain ⟨B, hB⟩ : ∃ B, B = w.heap.size := ⟨_, rfl⟩
  rw [← hB] at hS0 ⊢
  generalize w.alloc (.cells #[.string seed, .slice none 0 0] 174) = W0 at hS0 ⊢
  clear hcs hB0 hB
  go_loopw [17] (fun i wr => ∃ (k : Nat) (rv : Value), k ≤ 8 ∧ i = .int .i64 k ∧ NbSt w wr B seed rv (leafR seed k)) (fun i _ => 8 - (intOf i).toNat)
  case atStart => exact ⟨0, _, by omega, rfl, hS0⟩
  case round =>
    obtain ⟨k, rv, hk, rfl, hSt⟩ := hrel
    have HSt := Lib.hid hSt
    clear hSt hS0
    by_cases hlt : k < 8
    · have e1 : (k : Int) < 8 := by omega
      have hp16 : (pubS seed k).size = 16 := markS_size _ _
      have HPk := Lib.hid (HP.out k wr hlt HSt.out.below)
      have HNk := Lib.hid (fun W => HN.out k W hlt)
      have HMk := Lib.hid (fun W hW => HM.out k (pubS seed k) W hp16 hW)
      have HE : Hid (markS 116 [numS k, pubS seed k] = keyT k (pubS seed k)) := rfl
      rw [HE.out] at HMk
      have HL := Lib.hid (leafR_succ seed k)
      have Hll : Hid ((leafR seed k).length = k) := by unfold Hid; simp [leafR]
      generalize keyT k (pubS seed k) = M at *
      generalize pubS seed k = x at *
      generalize leafR seed k = LL at *
      clear HP HN HM HU
      go_wp2_with (go_at_call 24; refine HPk.out.mono ?_; rintro e w1 ⟨rfl, hB1⟩; have HS1 := Lib.hid (HSt.out.mono hB1); clear hB1)
      have q1 := HS1.out.cr.c
      have y1 := fun z : Grown w1 => z.cell q1
      have hS := InGrown.drew w1
      have G0 := (Below.refl w1.heap.size w1).drew
      refine wp_region_D (fun j => decide (0 < j) && decide (j < 12)) (InGrown w1) 16 (by kernel_rfl) rfl ?_
      refine wpAnyD_pure (i := 0) (v := ?_) rfl (by kernel_rfl) (fun _ _ _ h => h) (Or.inl ⟨by first | kernel_rfl | rfl, ?_⟩) ?_
      case refine_2 => (rintro z -; go_simp <;> with_reducible rfl)
      refine wpAnyD_take2 (i := 1) 16 (v := ?_) rfl (by kernel_rfl) (fun _ _ _ h => h) hS (Or.inl ⟨by first | kernel_rfl | rfl, ?_⟩) ?_
      case refine_2 => (rintro _ ⟨z, rfl⟩; go_simp <;> with_reducible rfl)
      refine wpAnyD_take2 (i := 2) 16 (v := ?_) rfl (by kernel_rfl) (fun _ _ _ h => h) hS (Or.inl ⟨by first | kernel_rfl | rfl, ?_⟩) ?_
      case refine_2 => (rintro _ ⟨z, rfl⟩; go_simp <;> with_reducible rfl)
      refine wpAnyD_take2 (i := 3) 16 (v := ?_) rfl (by kernel_rfl) (fun _ _ _ h => h) hS (Or.inl ⟨by first | kernel_rfl | rfl, ?_⟩) ?_
      case refine_2 => (rintro _ ⟨z, rfl⟩; go_simp <;> with_reducible rfl)
      refine wpAnyD_take2 (i := 4) 16 (v := ?_) rfl (by kernel_rfl) (fun _ _ _ h => h) hS (Or.inl ⟨by first | kernel_rfl | rfl, ?_⟩) ?_
      case refine_2 => (rintro _ ⟨z, rfl⟩; go_simp <;> with_reducible rfl)
      refine wpAnyD_take2 (i := 5) 16 (v := ?_) rfl (by kernel_rfl) (fun _ _ _ h => h) hS (Or.inl ⟨by first | kernel_rfl | rfl, ?_⟩) ?_
      case refine_2 => (rintro _ ⟨z, rfl⟩; go_simp <;> with_reducible rfl)
      refine wpAnyD_take2 (i := 6) 16 (v := ?_) rfl (by kernel_rfl) (fun _ _ _ h => h) hS (Or.inl ⟨by first | kernel_rfl | rfl, ?_⟩) ?_
      case refine_2 => (rintro _ ⟨z, rfl⟩; go_simp <;> with_reducible rfl)
      refine wpAnyD_take2 (i := 8) 16 (v := ?_) rfl (by kernel_rfl) (fun _ _ _ h => h) hS (Or.inl ⟨by first | kernel_rfl | rfl, ?_⟩) ?_
      case refine_2 => (rintro _ ⟨z, rfl⟩; go_simp <;> with_reducible rfl)
      refine wpAnyD_step 7 (by kernel_rfl) rfl (fun K hK => ?_)
      go_simp
      (go_at_call 20; refine (HNk.out _).mono ?_; rintro e w2 ⟨rfl, hB2⟩; have G2 := G0.trans (hB2.mono G0.size))
      dsimp only
      refine hK _ _ ⟨fun _ => ?_, ?_⟩
      rotate_left
      clear hK K
      case refine_1 => exact .of G2
      refine wpAnyD_step 9 (by kernel_rfl) rfl (fun K hK => ?_)
      go_simp
      refine hK _ _ ⟨fun _ => ?_, ?_⟩
      rotate_left
      clear hK K
      case refine_1 => exact .of (G2.alloc G2.size _)
      refine wpAnyD_step 10 (by kernel_rfl) rfl (fun K hK => ?_)
      go_simp
      (go_at_call 22; refine (HMk.out _ (HS1.out.below.trans (G2.mono HS1.out.below.size))).mono ?_; rintro e w3 ⟨rfl, hB3⟩; have G3 := G2.trans (hB3.mono G2.size))
      dsimp only
      refine hK _ _ ⟨fun _ => ?_, ?_⟩
      rotate_left
      clear hK K
      case refine_1 => exact .of G3
      refine wpAnyD_step 11 (by kernel_rfl) rfl (fun K hK => ?_)
      go_simp
      refine hK _ _ ⟨fun _ => ?_, ?_⟩
      rotate_left
      clear hK K
      case refine_1 => exact .of (G3.alloc G3.size _)
      refine wpAnyD_rest 12 (by kernel_rfl) (by kernel_rfl) ?_
      simp only [List.drop_succ_cons, List.drop_zero]
      have HS3 := Lib.hid (HS1.out.mono G3)
      have hbase := HS3.out.below.size
      clear y1 hS q1 G2 hB2 hB3
      refine app_lit2 rfl _ _ 22 rfl w.heap.size 9 _ 1 16 u_strs i_str rfl (by decide) rv LL.length _ ?hs_0 HS3.out.own 1 _ ?hx_0 ?hl_0 ?h1_0 ?hn_0 ?hb_0 hbase ?_
      case hs_0 => rfl
      case hx_0 => rfl
      case hl_0 => rfl
      case h1_0 => (intro u hu; simp at hu; subst hu; rfl)
      case hn_0 => (have := Hll.out; omega)
      case hb_0 => (have := Hll.out; omega)
      intro v4 w4 hO4 hG4 hob4
      obtain ⟨g4, k4, rfl, -⟩ := hO4.some_ (Nat.succ_pos _)
      have hu4 := HS3.out.cr.grown hG4 HS3.out.ne
      obtain ⟨q4, f4⟩ := hu4
      have HS4 := Lib.hid (HS3.out.push hG4 hO4 hob4)
      clear hO4 hG4 hob4
      go_wp2_with fail
      go_roundw
      case rel => exact ⟨k + 1, _, hlt, by go_num, by rw [HL.out]; exact HS4.out⟩
      case measure => simp [intOf]; omega
    · have e1 : ¬ (k : Int) < 8 := by omega
      obtain rfl : k = 8 := by omega
      have HSt8 : Hid (NbSt w wr B seed rv ((nodesR seed).take 8)) := by unfold Hid; rw [nodes_take8]; exact HSt.out
      clear HP HN HM HSt
      go_wp2_with fail
      go_loopw [10] (fun i wr => ∃ (k : Nat) (rv : Value), k ≤ 7 ∧ i = .int .i64 (2 * k : Nat) ∧ NbSt w wr B seed rv ((nodesR seed).take (8 + k))) (fun i _ => 14 - (intOf i).toNat)
      case atStart => exact ⟨0, _, by omega, rfl, HSt8.out⟩
      case round =>
        obtain ⟨k, rv, hk, rfl, hSt⟩ := hrel
        have HSt := Lib.hid hSt
        clear hSt HSt8
        by_cases hlt : k < 7
        · obtain ⟨ii, hii⟩ : ∃ j, j = 2 * k := ⟨_, rfl⟩
          obtain ⟨ij, hij⟩ : ∃ j, j = 2 * k + 1 := ⟨_, rfl⟩
          obtain ⟨nn, hnn⟩ : ∃ j, j = 8 + k := ⟨_, rfl⟩
          obtain ⟨ik, hik⟩ : ∃ j, j = 2 * (k + 1) := ⟨_, rfl⟩
          have e1 : (ii : Int) < 14 := by omega
          obtain ⟨p, q, hp, hq, hpq, sp, sq⟩ := nodes_step seed k hlt
          have i1 : IntKind.i64.wrap ((ii : Int) + 1) = (ij : Int) := by rw [IntWalk.i64_in _ (by omega)]; omega
          have i2 : IntKind.i64.wrap ((ii : Int) + 2) = (ik : Int) := by rw [IntWalk.i64_in _ (by omega)]; omega
          have HMk := Lib.hid (fun W hW => HU.out p q W sp sq hW)
          have HE : Hid (markS 117 [p, q] = upM p q) := rfl
          rw [HE.out] at HMk
          have HL := Lib.hid (nodes_take_succ seed hpq)
          have Hll : Hid (((nodesR seed).take (8 + k)).length = nn) := by unfold Hid; rw [List.length_take, nodesR_length]; omega
          have hp8 : ((nodesR seed).take (8 + k))[ii]? = some p := by rw [List.getElem?_take_of_lt (by omega), hii]; exact hp
          have hq8 : ((nodesR seed).take (8 + k))[ij]? = some q := by rw [List.getElem?_take_of_lt (by omega), hij]; exact hq
          obtain ⟨gr, cr, rfl, -⟩ := HSt.out.own.some_ (by rw [Hll.out]; omega)
          have d1 := HSt.out.own.cell (g := gr) rfl (show (strV ((nodesR seed).take (8 + k)))[ii]? = some (.string p) from by unfold strV; rw [List.getElem?_map, hp8]; rfl)
          have d2 := HSt.out.own.cell (g := gr) rfl (show (strV ((nodesR seed).take (8 + k)))[ij]? = some (.string q) from by unfold strV; rw [List.getElem?_map, hq8]; rfl)
          have q1 := HSt.out.cr.c
          rw [Hll.out] at HSt q1
          generalize upM p q = M at *
          generalize (nodesR seed).take (8 + k) = LL at *
          clear hp hq hpq hp8 hq8 HU
          have y1 := fun z : Grown wr => z.cell q1
          have y2 := fun z : Grown wr => z.cell d1
          have y3 := fun z : Grown wr => z.cell d2
          have hS := InGrown.drew wr
          have G0 := (Below.refl wr.heap.size wr).drew
          have o1 : (ii : Int) < (nn : Int) := by omega
          have o2 : (ij : Int) < (nn : Int) := by omega
          rw [← hii]
          have Hnn := Lib.hid hnn
          have Hik := Lib.hid hik
          have Hii := Lib.hid hii
          clear hii hij hnn hik
          go_wp2_with fail
          refine wp_region_D (fun j => decide (0 < j) && decide (j < 24)) (InGrown wr) 28 (by kernel_rfl) rfl ?_
          refine wpAnyD_pure (i := 0) (v := ?_) rfl (by kernel_rfl) (fun _ _ _ h => h) (Or.inl ⟨by first | kernel_rfl | rfl, ?_⟩) ?_
          case refine_2 => (rintro z -; go_simp <;> with_reducible rfl)
          refine wpAnyD_take2 (i := 1) 28 (v := ?_) rfl (by kernel_rfl) (fun _ _ _ h => h) hS (Or.inl ⟨by first | kernel_rfl | rfl, ?_⟩) ?_
          case refine_2 => (rintro _ ⟨z, rfl⟩; go_simp <;> with_reducible rfl)
          refine wpAnyD_take2 (i := 2) 28 (v := ?_) rfl (by kernel_rfl) (fun _ _ _ h => h) hS (Or.inl ⟨by first | kernel_rfl | rfl, ?_⟩) ?_
          case refine_2 => (rintro _ ⟨z, rfl⟩; go_simp <;> with_reducible rfl)
          refine wpAnyD_take2 (i := 3) 28 (v := ?_) rfl (by kernel_rfl) (fun _ _ _ h => h) hS (Or.inl ⟨by first | kernel_rfl | rfl, ?_⟩) ?_
          case refine_2 => (rintro _ ⟨z, rfl⟩; go_simp <;> with_reducible rfl)
          refine wpAnyD_take2 (i := 4) 28 (v := ?_) rfl (by kernel_rfl) (fun _ _ _ h => h) hS (Or.inl ⟨by first | kernel_rfl | rfl, ?_⟩) ?_
          case refine_2 => (rintro _ ⟨z, rfl⟩; go_simp <;> with_reducible rfl)
          refine wpAnyD_take2 (i := 5) 28 (v := ?_) rfl (by kernel_rfl) (fun _ _ _ h => h) hS (Or.inl ⟨by first | kernel_rfl | rfl, ?_⟩) ?_
          case refine_2 => (rintro _ ⟨z, rfl⟩; go_simp <;> with_reducible rfl)
          refine wpAnyD_take2 (i := 6) 28 (v := ?_) rfl (by kernel_rfl) (fun _ _ _ h => h) hS (Or.inl ⟨by first | kernel_rfl | rfl, ?_⟩) ?_
          case refine_2 => (rintro _ ⟨z, rfl⟩; go_simp <;> with_reducible rfl)
          refine wpAnyD_take2 (i := 7) 28 (v := ?_) rfl (by kernel_rfl) (fun _ _ _ h => h) hS (Or.inl ⟨by first | kernel_rfl | rfl, ?_⟩) ?_
          case refine_2 => (rintro _ ⟨z, rfl⟩; go_simp <;> with_reducible rfl)
          refine wpAnyD_take2 (i := 8) 28 (v := ?_) rfl (by kernel_rfl) (fun _ _ _ h => h) hS (Or.inl ⟨by first | kernel_rfl | rfl, ?_⟩) ?_
          case refine_2 => (rintro _ ⟨z, rfl⟩; go_simp <;> with_reducible rfl)
          refine wpAnyD_take2 (i := 9) 28 (v := ?_) rfl (by kernel_rfl) (fun _ _ _ h => h) hS (Or.inl ⟨by first | kernel_rfl | rfl, ?_⟩) ?_
          case refine_2 => (rintro _ ⟨z, rfl⟩; go_simp <;> with_reducible rfl)
          refine wpAnyD_take2 (i := 10) 28 (v := ?_) rfl (by kernel_rfl) (fun _ _ _ h => h) hS (Or.inl ⟨by first | kernel_rfl | rfl, ?_⟩) ?_
          case refine_2 => (rintro _ ⟨z, rfl⟩; go_simp <;> with_reducible rfl)
          refine wpAnyD_take2 (i := 11) 28 (v := ?_) rfl (by kernel_rfl) (fun _ _ _ h => h) hS (Or.inl ⟨by first | kernel_rfl | rfl, ?_⟩) ?_
          case refine_2 => (rintro _ ⟨z, rfl⟩; go_simp <;> with_reducible rfl)
          refine wpAnyD_take2 (i := 12) 28 (v := ?_) rfl (by kernel_rfl) (fun _ _ _ h => h) hS (Or.inl ⟨by first | kernel_rfl | rfl, ?_⟩) ?_
          case refine_2 => (rintro _ ⟨z, rfl⟩; go_simp <;> with_reducible rfl)
          refine wpAnyD_take2 (i := 13) 28 (v := ?_) rfl (by kernel_rfl) (fun _ _ _ h => h) hS (Or.inl ⟨by first | kernel_rfl | rfl, ?_⟩) ?_
          case refine_2 => (rintro _ ⟨z, rfl⟩; go_simp <;> with_reducible rfl)
          refine wpAnyD_take2 (i := 14) 28 (v := ?_) rfl (by kernel_rfl) (fun _ _ _ h => h) hS (Or.inl ⟨by first | kernel_rfl | rfl, ?_⟩) ?_
          case refine_2 => (rintro _ ⟨z, rfl⟩; go_simp <;> with_reducible rfl)
          refine wpAnyD_take2 (i := 15) 28 (v := ?_) rfl (by kernel_rfl) (fun _ _ _ h => h) hS (Or.inl ⟨by first | kernel_rfl | rfl, ?_⟩) ?_
          case refine_2 => (rintro _ ⟨z, rfl⟩; go_simp <;> with_reducible rfl)
          refine wpAnyD_take2 (i := 16) 28 (v := ?_) rfl (by kernel_rfl) (fun _ _ _ h => h) hS (Or.inl ⟨by first | kernel_rfl | rfl, ?_⟩) ?_
          case refine_2 => (rintro _ ⟨z, rfl⟩; go_simp <;> with_reducible rfl)
          refine wpAnyD_take2 (i := 17) 28 (v := ?_) rfl (by kernel_rfl) (fun _ _ _ h => h) hS (Or.inl ⟨by first | kernel_rfl | rfl, ?_⟩) ?_
          case refine_2 => (rintro _ ⟨z, rfl⟩; go_simp <;> with_reducible rfl)
          refine wpAnyD_take2 (i := 18) 28 (v := ?_) rfl (by kernel_rfl) (fun _ _ _ h => h) hS (Or.inl ⟨by first | kernel_rfl | rfl, ?_⟩) ?_
          case refine_2 => (rintro _ ⟨z, rfl⟩; go_simp <;> with_reducible rfl)
          refine wpAnyD_take2 (i := 19) 28 (v := ?_) rfl (by kernel_rfl) (fun _ _ _ h => h) hS (Or.inl ⟨by first | kernel_rfl | rfl, ?_⟩) ?_
          case refine_2 => (rintro _ ⟨z, rfl⟩; go_simp <;> with_reducible rfl)
          refine wpAnyD_take2 (i := 20) 28 (v := ?_) rfl (by kernel_rfl) (fun _ _ _ h => h) hS (Or.inl ⟨by first | kernel_rfl | rfl, ?_⟩) ?_
          case refine_2 => (rintro _ ⟨z, rfl⟩; go_simp <;> with_reducible rfl)
          refine wpAnyD_step 21 (by kernel_rfl) rfl (fun K hK => ?_)
          go_simp
          refine hK _ _ ⟨fun _ => ?_, ?_⟩
          rotate_left
          clear hK K
          case refine_1 => exact .of (G0.alloc G0.size _)
          refine wpAnyD_step 22 (by kernel_rfl) rfl (fun K hK => ?_)
          go_simp
          (go_at_call 22; refine (HMk.out _ (HSt.out.below.trans (G0.mono HSt.out.below.size))).mono ?_; rintro e w3 ⟨rfl, hB3⟩; have G3 := G0.trans (hB3.mono G0.size))
          dsimp only
          refine hK _ _ ⟨fun _ => ?_, ?_⟩
          rotate_left
          clear hK K
          case refine_1 => exact .of G3
          refine wpAnyD_step 23 (by kernel_rfl) rfl (fun K hK => ?_)
          go_simp
          refine hK _ _ ⟨fun _ => ?_, ?_⟩
          rotate_left
          clear hK K
          case refine_1 => exact .of (G3.alloc G3.size _)
          refine wpAnyD_rest 24 (by kernel_rfl) (by kernel_rfl) ?_
          simp only [List.drop_succ_cons, List.drop_zero]
          have HS3 := Lib.hid (HSt.out.mono G3)
          have hbase := HS3.out.below.size
          have hO3 : Own w3 w.heap.size 9 1 (.slice (some ⟨gr, 0, none⟩) nn cr) nn (strV LL) := by have h := HS3.out.own; rw [Hll.out] at h; exact h
          have HO3 := Lib.hid hO3
          clear y1 y2 y3 hS q1 d1 d2 o1 o2 hB3 hO3
          refine app_lit2 rfl _ _ 22 rfl w.heap.size 9 _ 1 16 u_strs i_str rfl (by decide) (.slice (some ⟨gr, 0, none⟩) nn cr) nn _ ?hs_1 HO3.out 1 _ ?hx_1 ?hl_1 ?h1_1 ?hn_1 ?hb_1 hbase ?_
          case hs_1 => rfl
          case hx_1 => rfl
          case hl_1 => rfl
          case h1_1 => (intro u hu; simp at hu; subst hu; rfl)
          case hn_1 => (have := Hnn.out; omega)
          case hb_1 => (have := Hnn.out; omega)
          intro v4 w4 hO4 hG4 hob4
          obtain ⟨g4, k4, rfl, -⟩ := hO4.some_ (Nat.succ_pos _)
          have hu4 := HS3.out.cr.grown hG4 HS3.out.ne
          obtain ⟨q4, f4⟩ := hu4
          have HS4 := Lib.hid (HS3.out.push hG4 (by rw [Hll.out]; exact hO4) hob4)
          clear hO4 hG4 hob4
          go_wp2_with fail
          go_roundw
          case rel => exact ⟨k + 1, _, by omega, by rw [← Hik.out], by rw [show 8 + (k + 1) = 8 + k + 1 by omega, HL.out]; exact HS4.out⟩
          case measure => simp [intOf]; have := Hik.out; have := Hii.out; omega
        · have e1 : ¬ ((2 * k : Nat) : Int) < 14 := by omega
          obtain rfl : k = 7 := by omega
          have hfin : Hid (BoxR wr B seed ∧ Below w.heap.size w wr) := by
            refine ⟨⟨HSt.out.cs.c, rv, HSt.out.cr.c, ?_⟩, HSt.out.below⟩
            have h := Reads.of_own HSt.out.own
            rw [List.take_of_length_le (by rw [nodesR_length]; decide), nodesR_length] at h
            exact h
          clear HSt
          go_wp2_with fail
          go_ret2
          exact ⟨B, rfl, hfin.out⟩
set_option maxRecDepth 100000 in
theorem rnew_no (r : Nat) (seed : ByteArray) (w : World) (h16 : seed.size ≠ 16) : Calls Tryd.prog 51 #[.pointer (some ⟨r, 0, none⟩), .string seed] w fun e w' => e = .returned (.tuple #[.pointer none, .int .i64 1]) ∧ w' = w := by
  go_enter Tryd.func51, Tryd.ntmps51
  go_wp2_with (go_at_call 98; refine (rmk_no _ _ h16).mono ?_; rintro e w0 ⟨rfl, hw⟩; subst hw)
  go_ret2
  exact ⟨rfl, rfl⟩
end Go.Proofs.YtfhjnfocmlndpaaDoor
