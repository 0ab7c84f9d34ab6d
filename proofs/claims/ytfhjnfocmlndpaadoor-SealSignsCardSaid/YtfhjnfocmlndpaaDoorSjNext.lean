/- chain.Next. -/
import Derived.Test.YtfhjnfocmlndpaaDoorSjParts
namespace Go.Proofs.YtfhjnfocmlndpaaDoor
open Go Go.RowKit Go.Proofs

def none16 : ByteArray := ⟨#[0, 0, 0, 0, 0, 0, 0, 0, 0, 0, 0, 0, 0, 0, 0, 0]⟩
def Hd.zero : Hd := ⟨0, ⟨#[]⟩, ⟨#[]⟩⟩
/-- the head behind others, if it may be; and of what kind the error is -/
def nextH (l : List Hd) (root : ByteArray) : Hd := match l.getLast? with
  | none => ⟨1, root, none16⟩
  | some x => ⟨wrap64 (x.epoch + 1), root, headS x⟩
def nextK (l : List Hd) (root : ByteArray) : Int := match l.getLast? with
  | none => if (nextH l root).right then 0 else 1
  | some x => if x.right then if (nextH l root).right then 0 else 1 else 1
def nextO (l : List Hd) (root : ByteArray) : Hd := if nextK l root = 0 then nextH l root else Hd.zero
theorem headS_size (h : Hd) : (headS h).size = 16 := markS_size _ _
/-- a row of three cells that the call owns -/
structure Row3 (w : World) (b : Nat) (x y z : Value) : Prop where
  c0 : w.cell? ⟨b, 0, none⟩ = some x
  c1 : w.cell? ⟨b, 1, none⟩ = some y
  c2 : w.cell? ⟨b, 2, none⟩ = some z
  f0 : w.frozen? ⟨b, 0, none⟩ = false
  f1 : w.frozen? ⟨b, 1, none⟩ = false
  f2 : w.frozen? ⟨b, 2, none⟩ = false
theorem Row3.of_row {w : World} {b : Nat} {x y z : Value} {T : TypeId} (h : w.heap[b]? = some (.cells #[x, y, z] T (0, 0))) : Row3 w b x y z := by
  refine ⟨?_, ?_, ?_, ?_, ?_, ?_⟩
  · rw [cell_of_row _ _ _ _ _ _ h]; rfl
  · rw [cell_of_row _ _ _ _ _ _ h]; rfl
  · rw [cell_of_row _ _ _ _ _ _ h]; rfl
  all_goals simp [World.frozen?, h]
theorem Row3.mono {w w' : World} {b : Nat} {x y z : Value} (h : Row3 w b x y z) (hb : Below w.heap.size w w') : Row3 w' b x y z := by
  have hlt : b < w.heap.size := World.block_lt_of_cell? w ⟨b, 0, none⟩ h.c0
  have hf : ∀ i, w'.frozen? ⟨b, i, none⟩ = w.frozen? ⟨b, i, none⟩ := fun i => by unfold World.frozen?; rw [hb.block b hlt]
  exact ⟨by rw [hb.cell (by exact hlt)]; exact h.c0, by rw [hb.cell (by exact hlt)]; exact h.c1, by rw [hb.cell (by exact hlt)]; exact h.c2, by rw [hf]; exact h.f0, by rw [hf]; exact h.f1, by rw [hf]; exact h.f2⟩

theorem Row3.set0 {w : World} {b : Nat} {x y z : Value} (h : Row3 w b x y z) (v : Value) : Row3 (w.setCell ⟨b, 0, none⟩ v) b v y z :=
  ⟨World.cell?_setCell_same _ _ _ h.c0, by rw [World.cell?_setCell_other _ _ _ _ (by simp)]; exact h.c1, by rw [World.cell?_setCell_other _ _ _ _ (by simp)]; exact h.c2, by rw [World.frozen?_setCell]; exact h.f0, by rw [World.frozen?_setCell]; exact h.f1, by rw [World.frozen?_setCell]; exact h.f2⟩
theorem Row3.set1 {w : World} {b : Nat} {x y z : Value} (h : Row3 w b x y z) (v : Value) : Row3 (w.setCell ⟨b, 1, none⟩ v) b x v z :=
  ⟨by rw [World.cell?_setCell_other _ _ _ _ (by simp)]; exact h.c0, World.cell?_setCell_same _ _ _ h.c1, by rw [World.cell?_setCell_other _ _ _ _ (by simp)]; exact h.c2, by rw [World.frozen?_setCell]; exact h.f0, by rw [World.frozen?_setCell]; exact h.f1, by rw [World.frozen?_setCell]; exact h.f2⟩
theorem Row3.set2 {w : World} {b : Nat} {x y z : Value} (h : Row3 w b x y z) (v : Value) : Row3 (w.setCell ⟨b, 2, none⟩ v) b x y v :=
  ⟨by rw [World.cell?_setCell_other _ _ _ _ (by simp)]; exact h.c0, by rw [World.cell?_setCell_other _ _ _ _ (by simp)]; exact h.c1, World.cell?_setCell_same _ _ _ h.c2, by rw [World.frozen?_setCell]; exact h.f0, by rw [World.frozen?_setCell]; exact h.f1, by rw [World.frozen?_setCell]; exact h.f2⟩
theorem Row3.other {w : World} {b : Nat} {x y z : Value} (h : Row3 w b x y z) {c : Nat} (hne : c ≠ b) (i : Nat) (v : Value) : Row3 (w.setCell ⟨c, i, none⟩ v) b x y z :=
  ⟨by rw [World.cell?_setCell_other _ _ _ _ (by simp)]; exact h.c0, by rw [World.cell?_setCell_other _ _ _ _ (by simp)]; exact h.c1, by rw [World.cell?_setCell_other _ _ _ _ (by simp)]; exact h.c2, by rw [World.frozen?_setCell]; exact h.f0, by rw [World.frozen?_setCell]; exact h.f1, by rw [World.frozen?_setCell]; exact h.f2⟩
theorem Row3.alloc {w : World} {b : Nat} {x y z : Value} (h : Row3 w b x y z) (o : Obj) : Row3 (w.alloc o) b x y z := h.mono ((Below.refl _ _).alloc (Nat.le_refl _) _)

/-- the two boxes of Next's: its result's, and the head's -/
def nxW (w : World) (root : ByteArray) : World := (w.alloc (.cells #[.int .i64 0, .string ⟨#[]⟩, .string ⟨#[]⟩] 63)).alloc (.cells #[.int .i64 1, .string root, .string none16] 63)
theorem nxW_below (w : World) (root : ByteArray) : Below w.heap.size w (nxW w root) := ((Below.refl _ _).alloc (Nat.le_refl _) _).alloc (by simp) _
theorem nxW_res (w : World) (root : ByteArray) : Row3 (nxW w root) w.heap.size (.int .i64 0) (.string ⟨#[]⟩) (.string ⟨#[]⟩) := (Row3.of_row (T := 63) (heap_alloc_new _ _)).alloc _
theorem nxW_box (w : World) (root : ByteArray) : Row3 (nxW w root) (w.heap.size + 1) (.int .i64 1) (.string root) (.string none16) := by
  have h := Row3.of_row (w := nxW w root) (b := (w.alloc (.cells #[.int .i64 0, .string ⟨#[]⟩, .string ⟨#[]⟩] 63)).heap.size) (x := .int .i64 1) (y := .string root) (z := .string none16) (T := 63) (heap_alloc_new _ _)
  simpa using h

set_option maxRecDepth 20000 in
set_option maxHeartbeats 2000000 in
theorem cnext_some (v : Value) (l : List Hd) (x : Hd) (root : ByteArray) (w : World) (hv : HReads w v l) (hx : l.getLast? = some x) (hh : x.Held) (hl : l.length ≤ 1000) (hk : KAt w 0) :
    Calls Tryd.prog 67 #[v, .string root] w fun e w' => e = .returned (.tuple #[(nextO l root).val, errV (nextK l root)]) ∧ Below w.heap.size w w' := by
  obtain ⟨a, cap, rfl⟩ := hv.shape
  obtain ⟨k, hk1⟩ : ∃ k, l.length = k + 1 := ⟨l.length - 1, by
    rcases l with _ | ⟨y, l⟩
    · simp at hx
    · simp⟩
  have hxk : l[k]? = some x := by rw [List.getLast?_eq_getElem?, hk1] at hx; simpa using hx
  obtain ⟨b, off, rfl, c0, c1, c2⟩ := hv.at hxk
  have hbl : b < w.heap.size := World.block_lt_of_cell? w ⟨b, _, none⟩ c0
  have hCM := Lib.hid (fun W hW => cmark_any x W hh hW)
  have Hk := Lib.hid hk
  have hNH : nextH l root = ⟨wrap64 (x.epoch + 1), root, headS x⟩ := by unfold nextH; rw [hx]
  have hNK : nextK l root = if x.right then if (nextH l root).right then 0 else 1 else 1 := by unfold nextK; rw [hx]
  have HNO : Hid (nextO l root = if nextK l root = 0 then nextH l root else Hd.zero) := rfl
  have i1 : IntKind.i64.wrap (((k + 1 : Nat) : Int) - 1) = k := by rw [IntWalk.i64_in _ (by omega)]; omega
  have i0 : (0 : Int) < ((k + 1 : Nat) : Int) := by omega
  obtain ⟨n, hn⟩ : ∃ n, n = k + 1 := ⟨_, rfl⟩
  rw [hk1]
  rw [← hn] at i1 i0 ⊢
  have hkn : (k : Int) < n := by omega
  have hkn2 : k < n := by omega
  have hA1 := nxW_below w root
  have hRes := nxW_res w root
  have hBox := nxW_box w root
  have hbA : b < (nxW w root).heap.size := Nat.lt_of_lt_of_le hbl hA1.size
  have hzz : (nxW w root).heap.size = w.heap.size + 1 + 1 := by simp [nxW]
  have C0 : (nxW w root).cell? ⟨b, off + k * 3, none⟩ = some (.int .i64 x.epoch) := by rw [hA1.cell (by exact hbl)]; exact c0
  clear hv hx hxk hl hk1 hh hn hk
  cases hr : x.right with
  | false =>
    have hK1 : nextK l root = 1 := by rw [hNK, hr]; rfl
    rw [HNO.out, hK1]
    have hM1 : hmarkS x = ⟨#[]⟩ := by unfold hmarkS; rw [hr]; rfl
    have hM2 : hmarkK x = 1 := by unfold hmarkK; rw [hr]; rfl
    unfold StrPost at hCM
    rw [hM1, hM2, show errV 1 = .iface 31 (.int .i64 1) from rfl] at hCM
    rw [show errV 1 = .iface 31 (.int .i64 1) from rfl, if_neg (by decide)]
    unfold Hd.zero Hd.val
    clear hNK hNH HNO hK1 hM1 hM2
    unfold nxW none16 at *
    go_enter Tryd.func67, Tryd.ntmps67
    go_wp2_with (go_at_call 62; refine (hCM.out _ (Hk.out.mono hA1)).mono ?_; rintro e w1 ⟨rfl, hB1⟩; have hR1 := hRes.mono hB1; have hR1k := hR1; obtain ⟨d0, d1, d2, f0, f1, f2⟩ := hR1k; have hC1 := hA1.trans (hB1.mono hA1.size); clear hB1)
    have hF := ((hR1.set0 (.int .i64 0)).set1 (.string ⟨#[]⟩)).set2 (.string ⟨#[]⟩)
    refine bodyPost_ret (v := .tuple #[.agg #[.int .i64 0, .string ⟨#[]⟩, .string ⟨#[]⟩], .iface 31 (.int .i64 1)]) ?_ rfl ⟨rfl, below_set (below_set (below_set hC1 (Nat.le_refl _) _) (Nat.le_refl _) _) (Nat.le_refl _) _⟩
    obtain ⟨g0, g1, g2, -, -, -⟩ := hF
    simp [results, Tryd.f67, go_sem, g0, g1, g2]
  | true =>
    have hM1 : hmarkS x = headS x := by unfold hmarkS; rw [hr]; rfl
    have hM2 : hmarkK x = 0 := by unfold hmarkK; rw [hr]; rfl
    unfold StrPost at hCM
    rw [hM1, hM2, errV_0] at hCM
    have hCR := Lib.hid (fun W => cright_any (nextH l root) W)
    rw [hr, if_pos rfl] at hNK
    cases hr2 : (nextH l root).right with
    | false =>
      have hK1 : nextK l root = 1 := by rw [hNK, hr2]; rfl
      rw [hr2] at hCR
      rw [hNH] at hCR
      rw [HNO.out, hK1]
      rw [show errV 1 = .iface 31 (.int .i64 1) from rfl, if_neg (by decide)]
      unfold Hd.zero Hd.val
      unfold Hd.val at hCR hCM
      dsimp only at hCR
      clear hNK hNH HNO hK1 hM1 hM2 hr2
      generalize headS x = M at *
      unfold nxW none16 at *
      go_enter Tryd.func67, Tryd.ntmps67
      go_wp2_with (first
        | (go_at_call 62; refine (hCM.out _ (Hk.out.mono hA1)).mono ?_; rintro e w1 ⟨rfl, hB1⟩; have hR1 := hRes.mono hB1; have hX1 := hBox.mono hB1; have hX1k := hX1; obtain ⟨e0, e1, e2, h0, h1, h2⟩ := hX1k; have hC1 := hA1.trans (hB1.mono hA1.size); have D0 : w1.cell? ⟨b, off + k * 3, none⟩ = some (.int .i64 x.epoch) := (by rw [hB1.cell (by exact hbA)]; exact C0))
        | (go_at_call 63; refine (hCR.out _).mono ?_; rintro e w2 ⟨rfl, hB2⟩; have hR2 := (Row3.other (Row3.other hR1 (c := w.heap.size + 1) (by omega) 0 _) (c := w.heap.size + 1) (by omega) 2 _).mono hB2; have hR2k := hR2; obtain ⟨d0, d1, d2, f0, f1, f2⟩ := hR2k; have hC2 := (below_set (below_set hC1 (b := w.heap.size + 1) (i := 0) (by omega) _) (b := w.heap.size + 1) (i := 2) (by omega) _).trans (hB2.mono (Nat.le_trans hC1.size (by simp)))))
      have hF := ((hR2.set0 (.int .i64 0)).set1 (.string ⟨#[]⟩)).set2 (.string ⟨#[]⟩)
      refine bodyPost_ret (v := .tuple #[.agg #[.int .i64 0, .string ⟨#[]⟩, .string ⟨#[]⟩], .iface 31 (.int .i64 1)]) ?_ rfl ⟨rfl, below_set (below_set (below_set hC2 (Nat.le_refl _) _) (Nat.le_refl _) _) (Nat.le_refl _) _⟩
      obtain ⟨g0, g1, g2, -, -, -⟩ := hF
      simp [results, Tryd.f67, go_sem, g0, g1, g2]
    | true =>
      have hK1 : nextK l root = 0 := by rw [hNK, hr2]; rfl
      rw [hr2] at hCR
      rw [hNH] at hCR
      rw [HNO.out, hK1]
      rw [errV_0, if_pos rfl, hNH]
      unfold Hd.val
      unfold Hd.val at hCR hCM
      dsimp only at hCR ⊢
      clear hNK hNH HNO hK1 hM1 hM2 hr2
      generalize headS x = M at *
      unfold nxW none16 at *
      go_enter Tryd.func67, Tryd.ntmps67
      go_wp2_with (first
        | (go_at_call 62; refine (hCM.out _ (Hk.out.mono hA1)).mono ?_; rintro e w1 ⟨rfl, hB1⟩; have hR1 := hRes.mono hB1; have hX1 := hBox.mono hB1; have hX1k := hX1; obtain ⟨e0, e1, e2, h0, h1, h2⟩ := hX1k; have hC1 := hA1.trans (hB1.mono hA1.size); have D0 : w1.cell? ⟨b, off + k * 3, none⟩ = some (.int .i64 x.epoch) := (by rw [hB1.cell (by exact hbA)]; exact C0))
        | (go_at_call 63; refine (hCR.out _).mono ?_; rintro e w2 ⟨rfl, hB2⟩; have hR2 := (Row3.other (Row3.other hR1 (c := w.heap.size + 1) (by omega) 0 _) (c := w.heap.size + 1) (by omega) 2 _).mono hB2; have hX2 := ((hX1.set0 _).set2 _).mono hB2; obtain ⟨x0, x1, x2, -, -, -⟩ := hX2; have hR2k := hR2; obtain ⟨d0, d1, d2, f0, f1, f2⟩ := hR2k; have hC2 := (below_set (below_set hC1 (b := w.heap.size + 1) (i := 0) (by omega) _) (b := w.heap.size + 1) (i := 2) (by omega) _).trans (hB2.mono (Nat.le_trans hC1.size (by simp)))))
      have hF := ((hR2.set0 (.int .i64 (wrap64 (x.epoch + 1)))).set1 (.string root)).set2 (.string M)
      refine bodyPost_ret (v := .tuple #[.agg #[.int .i64 (wrap64 (x.epoch + 1)), .string root, .string M], .nilIface]) ?_ rfl ⟨rfl, below_set (below_set (below_set hC2 (Nat.le_refl _) _) (Nat.le_refl _) _) (Nat.le_refl _) _⟩
      obtain ⟨g0, g1, g2, -, -, -⟩ := hF
      simp [results, Tryd.f67, go_sem, g0, g1, g2]
end Go.Proofs.YtfhjnfocmlndpaaDoor
