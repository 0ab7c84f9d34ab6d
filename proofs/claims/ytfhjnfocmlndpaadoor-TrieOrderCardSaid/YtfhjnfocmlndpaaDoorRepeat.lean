/- strings.Repeat of one zero byte, sixteen times. -/
import Derived.Test.YtfhjnfocmlndpaaDoorShelfB
import Derived.Test.YtfhjnfocmlndpaaDoorNext
namespace Go.Proofs.YtfhjnfocmlndpaaDoor
open Go Go.RowKit Go.Proofs Go.Shelf
theorem Tryd.extra105 : Builder.Extra Tryd.prog Tryd.lays105_ren := {
  sizeBuilder := by kernel_rfl
  liesBuilder := by kernel_rfl
  t5 := Tryd.underlying5
  a5 := Tryd.isAgg5
  z5 := Tryd.sizeOf5
  v5 := Tryd.zeroValue5
  infoByte := by kernel_rfl
  cellsByte := by kernel_rfl
  sizeByte := by kernel_rfl
  neB5 := by decide }
theorem repeat16_any (w : World) : Calls Tryd.prog 134 #[.string ⟨#[0]⟩, .int .i64 16] w fun e w' => e = .returned (.string none16) ∧ Below w.heap.size w w' := by
  have h := Any.strings_Repeat_main Tryd.lays105 Tryd.extra105 ⟨#[0]⟩ 16 w (by decide) (by decide) (by decide) (by decide)
  exact h
theorem cnext_none (v : Value) (root : ByteArray) (w : World) (hv : HReads w v []) :
    Calls Tryd.prog 67 #[v, .string root] w fun e w' => e = .returned (.tuple #[(nextO [] root).val, errV (nextK [] root)]) ∧ Below w.heap.size w w' := by
  obtain ⟨a, cap, rfl⟩ := hv.shape
  have hCR := Lib.hid (fun W => cright_any (nextH [] root) W)
  have hNH : nextH [] root = ⟨1, root, none16⟩ := rfl
  have hNK : nextK [] root = if (nextH [] root).right then 0 else 1 := rfl
  have HNO : Hid (nextO [] root = if nextK [] root = 0 then nextH [] root else Hd.zero) := rfl
  have hA1 := nxW_below w root
  have hRes := nxW_res w root
  have hBox := nxW_box w root
  clear hv
  show Calls _ _ #[.slice a 0 cap, .string root] _ _
  cases hr2 : (nextH [] root).right with
  | false =>
    have hK1 : nextK [] root = 1 := by rw [hNK, hr2]; rfl
    rw [hr2] at hCR
    rw [hNH] at hCR
    rw [HNO.out, hK1]
    rw [show errV 1 = .iface 31 (.int .i64 1) from rfl, if_neg (by decide)]
    unfold Hd.zero Hd.val
    unfold Hd.val at hCR
    dsimp only at hCR
    clear hNK hNH HNO hK1 hr2
    unfold nxW none16 at *
    go_enter Tryd.func67, Tryd.ntmps67
    go_wp2_with (first
      | (go_at_call 63; refine (hCR.out _).mono ?_; rintro e w2 ⟨rfl, hB2⟩; have hR2 := hRes.mono hB2; have hR2k := hR2; obtain ⟨d0, d1, d2, f0, f1, f2⟩ := hR2k; have hC2 := hA1.trans (hB2.mono hA1.size)))
    have hF := ((hR2.set0 (.int .i64 0)).set1 (.string ⟨#[]⟩)).set2 (.string ⟨#[]⟩)
    refine bodyPost_ret (v := .tuple #[.agg #[.int .i64 0, .string ⟨#[]⟩, .string ⟨#[]⟩], .iface 31 (.int .i64 1)]) ?_ rfl ⟨rfl, below_set (below_set (below_set hC2 (Nat.le_refl _) _) (Nat.le_refl _) _) (Nat.le_refl _) _⟩
    obtain ⟨g0, g1, g2, -, -, -⟩ := hF
    simp [results, Tryd.f67, go_sem, g0, g1, g2]
  | true =>
    have hK1 : nextK [] root = 0 := by rw [hNK, hr2]; rfl
    rw [hr2] at hCR
    rw [hNH] at hCR
    rw [HNO.out, hK1]
    rw [errV_0, if_pos rfl, hNH]
    unfold Hd.val
    unfold Hd.val at hCR
    dsimp only at hCR ⊢
    clear hNK hNH HNO hK1 hr2
    unfold nxW none16 at *
    go_enter Tryd.func67, Tryd.ntmps67
    go_wp2_with (first
      | (go_at_call 63; refine (hCR.out _).mono ?_; rintro e w2 ⟨rfl, hB2⟩; obtain ⟨x0, x1, x2, -, -, -⟩ := hBox.mono hB2; have hR2 := hRes.mono hB2; have hR2k := hR2; obtain ⟨d0, d1, d2, f0, f1, f2⟩ := hR2k; have hC2 := hA1.trans (hB2.mono hA1.size)))
    have hF := ((hR2.set0 (.int .i64 1)).set1 (.string root)).set2 (.string ⟨#[0, 0, 0, 0, 0, 0, 0, 0, 0, 0, 0, 0, 0, 0, 0, 0]⟩)
    refine bodyPost_ret (v := .tuple #[.agg #[.int .i64 1, .string root, .string ⟨#[0, 0, 0, 0, 0, 0, 0, 0, 0, 0, 0, 0, 0, 0, 0, 0]⟩], .nilIface]) ?_ rfl ⟨rfl, below_set (below_set (below_set hC2 (Nat.le_refl _) _) (Nat.le_refl _) _) (Nat.le_refl _) _⟩
    obtain ⟨g0, g1, g2, -, -, -⟩ := hF
    simp [results, Tryd.f67, go_sem, g0, g1, g2]
theorem cnext_any (v : Value) (l : List Hd) (root : ByteArray) (w : World) (hv : HReads w v l) (hh : ∀ h ∈ l, h.Held) (hl : l.length ≤ 1000) (hk : KAt w 0) :
    Calls Tryd.prog 67 #[v, .string root] w fun e w' => e = .returned (.tuple #[(nextO l root).val, errV (nextK l root)]) ∧ Below w.heap.size w w' := by
  cases hx : l.getLast? with
  | none =>
    obtain rfl : l = [] := by simpa using hx
    exact cnext_none v root w hv
  | some x => exact cnext_some v l x root w hv hx (hh x (List.mem_of_getLast? hx)) hl hk
end Go.Proofs.YtfhjnfocmlndpaaDoor
