/- The reference's Next. -/
import Derived.Test.YtfhjnfocmlndpaaDoorShelfB
import Derived.Test.YtfhjnfocmlndpaaDoorSjNext
import Derived.Test.YtfhjnfocmlndpaaDoorSjChainR
import Derived.Test.YtfhjnfocmlndpaaDoorSjParts
namespace Go.Proofs.YtfhjnfocmlndpaaDoor
open Go Go.RowKit Go.Proofs Go.Shelf
theorem Tryd.extra105 : Builder.Extra Tryd.prog Tryd.lays105_ren := {
  sizeBuilder := by kernel_rfl
  liesBuilder := by kernel_rfl
  t5 := Tryd.underlying5
  a5 := Tryd.isAgg5
  z5 := Tryd.sizeOf5
  v5 := Tryd.zeroValue5
  infoByte := by kernel_rfl
  cellsByte := by kernel_rfl
  sizeByte := by kernel_rfl
  neB5 := by decide }
theorem repeat16_any (w : World) : Calls Tryd.prog 134 #[.string ⟨#[0]⟩, .int .i64 16] w fun e w' => e = .returned (.string none16) ∧ Below w.heap.size w w' := by
  have h := Any.strings_Repeat_main Tryd.lays105 Tryd.extra105 ⟨#[0]⟩ 16 w (by decide) (by decide) (by decide) (by decide)
  exact h
theorem cnext_none (v : Value) (root : ByteArray) (w : World) (hv : HReads w v []) :
    Calls Tryd.prog 67 #[v, .string root] w fun e w' => e = .returned (.tuple #[(nextO [] root).val, errV (nextK [] root)]) ∧ Below w.heap.size w w' := by
  obtain ⟨a, cap, rfl⟩ := hv.shape
  have hCR := Lib.hid (fun W => cright_any (nextH [] root) W)
  have hNH : nextH [] root = ⟨1, root, none16⟩ := rfl
  have hNK : nextK [] root = if (nextH [] root).right then 0 else 1 := rfl
  have HNO : Hid (nextO [] root = if nextK [] root = 0 then nextH [] root else Hd.zero) := rfl
  have hA1 := nxW_below w root
  have hRes := nxW_res w root
  have hBox := nxW_box w root
  clear hv
  show Calls _ _ #[.slice a 0 cap, .string root] _ _
  cases hr2 : (nextH [] root).right with
  | false =>
    have hK1 : nextK [] root = 1 := by rw [hNK, hr2]; rfl
    rw [hr2] at hCR
    rw [hNH] at hCR
    rw [HNO.out, hK1]
    rw [show errV 1 = .iface 31 (.int .i64 1) from rfl, if_neg (by decide)]
    unfold Hd.zero Hd.val
    unfold Hd.val at hCR
    dsimp only at hCR
    clear hNK hNH HNO hK1 hr2
    unfold nxW none16 at *
    go_enter Tryd.func67, Tryd.ntmps67
    go_wp2_with (first
      | (go_at_call 63; refine (hCR.out _).mono ?_; rintro e w2 ⟨rfl, hB2⟩; have hR2 := hRes.mono hB2; have hR2k := hR2; obtain ⟨d0, d1, d2, f0, f1, f2⟩ := hR2k; have hC2 := hA1.trans (hB2.mono hA1.size)))
    have hF := ((hR2.set0 (.int .i64 0)).set1 (.string ⟨#[]⟩)).set2 (.string ⟨#[]⟩)
    refine bodyPost_ret (v := .tuple #[.agg #[.int .i64 0, .string ⟨#[]⟩, .string ⟨#[]⟩], .iface 31 (.int .i64 1)]) ?_ rfl ⟨rfl, below_set (below_set (below_set hC2 (Nat.le_refl _) _) (Nat.le_refl _) _) (Nat.le_refl _) _⟩
    obtain ⟨g0, g1, g2, -, -, -⟩ := hF
    simp [results, Tryd.f67, go_sem, g0, g1, g2]
  | true =>
    have hK1 : nextK [] root = 0 := by rw [hNK, hr2]; rfl
    rw [hr2] at hCR
    rw [hNH] at hCR
    rw [HNO.out, hK1]
    rw [errV_0, if_pos rfl, hNH]
    unfold Hd.val
    unfold Hd.val at hCR
    dsimp only at hCR ⊢
    clear hNK hNH HNO hK1 hr2
    unfold nxW none16 at *
    go_enter Tryd.func67, Tryd.ntmps67
    go_wp2_with (first
      | (go_at_call 63; refine (hCR.out _).mono ?_; rintro e w2 ⟨rfl, hB2⟩; obtain ⟨x0, x1, x2, -, -, -⟩ := hBox.mono hB2; have hR2 := hRes.mono hB2; have hR2k := hR2; obtain ⟨d0, d1, d2, f0, f1, f2⟩ := hR2k; have hC2 := hA1.trans (hB2.mono hA1.size)))
    have hF := ((hR2.set0 (.int .i64 1)).set1 (.string root)).set2 (.string ⟨#[0, 0, 0, 0, 0, 0, 0, 0, 0, 0, 0, 0, 0, 0, 0, 0]⟩)
    refine bodyPost_ret (v := .tuple #[.agg #[.int .i64 1, .string root, .string ⟨#[0, 0, 0, 0, 0, 0, 0, 0, 0, 0, 0, 0, 0, 0, 0, 0]⟩], .nilIface]) ?_ rfl ⟨rfl, below_set (below_set (below_set hC2 (Nat.le_refl _) _) (Nat.le_refl _) _) (Nat.le_refl _) _⟩
    obtain ⟨g0, g1, g2, -, -, -⟩ := hF
    simp [results, Tryd.f67, go_sem, g0, g1, g2]
theorem cnext_any (v : Value) (l : List Hd) (root : ByteArray) (w : World) (hv : HReads w v l) (hh : ∀ h ∈ l, h.Held) (hl : l.length ≤ 1000) (hk : KAt w 0) :
    Calls Tryd.prog 67 #[v, .string root] w fun e w' => e = .returned (.tuple #[(nextO l root).val, errV (nextK l root)]) ∧ Below w.heap.size w w' := by
  cases hx : l.getLast? with
  | none =>
    obtain rfl : l = [] := by simpa using hx
    exact cnext_none v root w hv
  | some x => exact cnext_some v l x root w hv hx (hh x (List.mem_of_getLast? hx)) hl hk
end Go.Proofs.YtfhjnfocmlndpaaDoor

namespace Go.Proofs.YtfhjnfocmlndpaaDoor
open Go Go.RowKit Go.Proofs

/-- the head that stands in the box behind k rounds -/
def hcur (l : List Hd) (root : ByteArray) (k : Nat) : Hd := if k = l.length then nextH l root else ⟨1, root, none16⟩
theorem Row3.lt {w : World} {b : Nat} {x y z : Value} (h : Row3 w b x y z) : b < w.heap.size := World.block_lt_of_cell? w ⟨b, 0, none⟩ h.c0
set_option maxRecDepth 20000 in
set_option maxHeartbeats 4000000 in
theorem rnext_any (r : Nat) (v : Value) (l : List Hd) (root : ByteArray) (w : World) (hv : HReads w v l) (hh : ∀ h ∈ l, h.Held) (hl : l.length ≤ 1000) (hr : RAt w r) :
    Calls Tryd.prog 66 #[.pointer (some ⟨r, 0, none⟩), v, .string root] w fun e w' => e = .returned (.tuple #[(nextO l root).val, .int .i64 (nextK l root)]) ∧ Below w.heap.size w w' := by
  obtain ⟨a, cap, rfl⟩ := hv.shape
  obtain ⟨n, hn⟩ : ∃ n, n = l.length := ⟨_, rfl⟩
  rw [← hn]
  have Hv := Lib.hid (hn ▸ hv : HReads w (.slice a n cap) l)
  have Hn := Lib.hid hn
  have Hr := Lib.hid hr
  have Hh := Lib.hid hh
  have hn1000 : n ≤ 1000 := by omega
  have hA0 : Below w.heap.size w (w.alloc (.cells #[.int .i64 0, .string ⟨#[]⟩, .string ⟨#[]⟩] 63)) := (Below.refl _ _).alloc (Nat.le_refl _) _
  have hR0 : Row3 (w.alloc (.cells #[.int .i64 0, .string ⟨#[]⟩, .string ⟨#[]⟩] 63)) w.heap.size (.int .i64 0) (.string ⟨#[]⟩) (.string ⟨#[]⟩) := Row3.of_row (T := 63) (heap_alloc_new _ _)
  obtain ⟨O, hO⟩ : ∃ O, O = nextO l root := ⟨_, rfl⟩
  obtain ⟨K, hK⟩ : ∃ K, K = nextK l root := ⟨_, rfl⟩
  rw [← hO, ← hK]
  have HO := Lib.hid hO
  have HK := Lib.hid hK
  clear hv hn hr hh hl hO hK
  go_enter Tryd.func66, Tryd.ntmps66
  go_wp2_with (go_at_call 134; refine (repeat16_any _).mono ?_; rintro e w1 ⟨rfl, hB1⟩; have hC1 := hA0.trans (hB1.mono hA0.size); have hR1 := hR0.mono hB1; have hz1 := hR1.lt)
  obtain ⟨W, hW⟩ : ∃ W, W = w1.alloc (.cells #[.int .i64 1, .string root, .string none16] 63) := ⟨_, rfl⟩
  rw [← hW]
  have hC2 : Below w.heap.size w W := by rw [hW]; exact hC1.alloc hC1.size _
  have hR2 : Row3 W w.heap.size (.int .i64 0) (.string ⟨#[]⟩) (.string ⟨#[]⟩) := by rw [hW]; exact hR1.alloc _
  have hX2 : Row3 W w1.heap.size (.int .i64 1) (.string root) (.string none16) := by rw [hW]; exact Row3.of_row (T := 63) (heap_alloc_new _ _)
  obtain ⟨B, hB⟩ : ∃ B, B = w1.heap.size := ⟨_, rfl⟩
  rw [← hB] at hX2 hz1 ⊢
  have hAB : w.heap.size < B := hz1
  clear hW hB hB1 hC1 hR1 hz1 hA0 hR0
  go_loopw [18] (fun i wr => ∃ k : Nat, k ≤ n ∧ i = .int .i64 k ∧ Below w.heap.size w wr ∧ Row3 wr w.heap.size (.int .i64 0) (.string ⟨#[]⟩) (.string ⟨#[]⟩) ∧ (Row3 wr B (.int .i64 (hcur l root k).epoch) (.string (hcur l root k).root) (.string (hcur l root k).prev)) ∧ (k = n → ∀ x, l.getLast? = some x → x.right = true)) (fun i _ => n - (intOf i).toNat)
  case atStart =>
    refine ⟨0, Nat.zero_le _, rfl, hC2, hR2, ?_, fun h0 x hx => ?_⟩
    · by_cases h0 : 0 = l.length
      · obtain rfl : l = [] := List.eq_nil_of_length_eq_zero h0.symm
        exact hX2
      · rw [show hcur l root 0 = ⟨1, root, none16⟩ from by unfold hcur; rw [if_neg h0]]
        exact hX2
    · obtain rfl : l = [] := List.eq_nil_of_length_eq_zero (by rw [← Hn.out]; exact h0.symm)
      simp at hx
  case round =>
    obtain ⟨k, hk, rfl, hBw, hRr, hXr, hlast⟩ := hrel
    have HBw := Lib.hid hBw
    have HRr := Lib.hid hRr
    have HXr := Lib.hid hXr
    have Hlast := Lib.hid hlast
    clear hBw hRr hXr hlast hC2 hR2 hX2
    by_cases hlt : k < n
    · have hkl : k < l.length := by have := Hn.out; omega
      obtain ⟨x, hx⟩ : ∃ x, l[k]? = some x := ⟨l[k], List.getElem?_eq_getElem hkl⟩
      have hxh := Hh.out x (List.mem_of_getElem? hx)
      obtain ⟨b, off, rfl, c0, c1, c2⟩ := (Hv.out.mono HBw.out).at hx
      have e1 : (k : Int) < n := by omega
      have i1 : IntKind.i64.wrap ((n : Int) - 1) = ((n - 1 : Nat) : Int) := by rw [IntWalk.i64_in _ (by omega)]; omega
      by_cases hend : k = n - 1
      · have hlx : l.getLast? = some x := by rw [List.getLast?_eq_getElem?, ← Hn.out, ← hend]; exact hx
        have e2 : ¬ (k : Int) < ((n - 1 : Nat) : Int) := by omega
        obtain ⟨m, hm⟩ : ∃ m, m = n - 1 := ⟨_, rfl⟩
        rw [← hm] at e2 i1
        have hcb : hcur l root k = ⟨1, root, none16⟩ := by unfold hcur; rw [if_neg (by omega)]
        rw [hcb] at HXr
        have hca : Hid (hcur l root (k + 1) = ⟨wrap64 (x.epoch + 1), root, headS x⟩) := by unfold Hid hcur nextH; rw [if_pos (by have := Hn.out; omega), hlx]
        have hK0 : Hid (x.right = false → K = 1 ∧ O = Hd.zero) := fun h => by
          have h1 : nextK l root = 1 := by unfold nextK; rw [hlx]; dsimp only; rw [h]; rfl
          exact ⟨by rw [HK.out, h1], by rw [HO.out]; unfold nextO; rw [h1, if_neg (by decide)]⟩
        have Hlx := Lib.hid hlx
        have Hend := Lib.hid hend
        have hk1n : k + 1 ≤ n := by omega
        clear hend
        have hHM := Lib.hid (fun W hW => rhmark_any r x W hxh hW)
        have hBr : Below w.heap.size w (wr.alloc (.cells #[.int .i64 x.epoch, .string x.root, .string x.prev] 63)) := HBw.out.alloc HBw.out.size _
        have hRr := HRr.out.alloc (.cells #[.int .i64 x.epoch, .string x.root, .string x.prev] 63)
        have hXr := HXr.out.alloc (.cells #[.int .i64 x.epoch, .string x.root, .string x.prev] 63)
        have hYr : Row3 (wr.alloc (.cells #[.int .i64 x.epoch, .string x.root, .string x.prev] 63)) wr.heap.size (.int .i64 x.epoch) (.string x.root) (.string x.prev) := Row3.of_row (T := 63) (heap_alloc_new _ _)
        have hBlt := HXr.out.lt
        clear hm hx hlx hxh hcb
        dsimp only at hXr
        unfold Hd.val at hHM
        cases hrt : x.right with
        | false =>
          obtain ⟨hK1, hO1⟩ := hK0.out hrt
          subst hK1 hO1
          have hM1 : hmarkS x = ⟨#[]⟩ := by unfold hmarkS; rw [hrt]; rfl
          have hM2 : hmarkK x = 1 := by unfold hmarkK; rw [hrt]; rfl
          rw [hM1, hM2] at hHM
          clear hM1 hM2 hK0
          go_wp2_with (go_at_call 61; refine (hHM.out _ (Hr.out.mono hBr)).mono ?_; rintro e w2 ⟨rfl, hB2⟩; have hR2 := hRr.mono hB2; have hR2k := hR2; obtain ⟨d0, d1, d2, f0, f1, f2⟩ := hR2k; have hC2 := hBr.trans (hB2.mono hBr.size))
          have hF := ((hR2.set0 (.int .i64 0)).set1 (.string ⟨#[]⟩)).set2 (.string ⟨#[]⟩)
          refine bodyPost_ret (v := .tuple #[.agg #[.int .i64 0, .string ⟨#[]⟩, .string ⟨#[]⟩], .int .i64 1]) ?_ rfl ⟨rfl, below_set (below_set (below_set hC2 (Nat.le_refl _) _) (Nat.le_refl _) _) (Nat.le_refl _) _⟩
          obtain ⟨g0, g1, g2, -, -, -⟩ := hF
          simp [results, Tryd.f66, go_sem, g0, g1, g2]
        | true =>
          have hM1 : hmarkS x = headS x := by unfold hmarkS; rw [hrt]; rfl
          have hM2 : hmarkK x = 0 := by unfold hmarkK; rw [hrt]; rfl
          rw [hM1, hM2] at hHM
          have Hrt := Lib.hid hrt
          clear hM1 hM2 hK0 hrt
          generalize headS x = M at *
          go_wp2_with (go_at_call 61; refine (hHM.out _ (Hr.out.mono hBr)).mono ?_; rintro e w2 ⟨rfl, hB2⟩; have hR2 := hRr.mono hB2; have hX2 := hXr.mono hB2; have hX2k := hX2; obtain ⟨d0, d1, d2, f0, f1, f2⟩ := hX2k; obtain ⟨y0, y1, y2, -, -, -⟩ := hYr.mono hB2; have hC2 := hBr.trans (hB2.mono hBr.size))
          refine ⟨⟨k + 1, hk1n, by go_num, below_set (below_set hC2 (by omega) _) (by omega) _, (hR2.other (by omega) _ _).other (by omega) _ _, ?_, fun _ y hy => ?_⟩, by simp [intOf]; omega⟩
          · rw [hca.out]
            exact (hX2.set0 _).set2 _
          · rw [Hlx.out] at hy
            rw [← Option.some.inj hy]; exact Hrt.out
      · have e2 : (k : Int) < ((n - 1 : Nat) : Int) := by omega
        obtain ⟨m, hm⟩ : ∃ m, m = n - 1 := ⟨_, rfl⟩
        rw [← hm] at e2 i1
        have Hk : Hid (¬ k = n ∧ ¬ k + 1 = n) := ⟨by omega, by omega⟩
        clear hm hend hx hxh
        go_wp2_with fail
        have hcb : hcur l root (k + 1) = hcur l root k := by unfold hcur; rw [if_neg (by have := Hn.out; have := Hk.out.2; omega), if_neg (by have := Hn.out; have := Hk.out.1; omega)]
        refine ⟨⟨k + 1, by omega, by go_num, HBw.out.alloc HBw.out.size _, HRr.out.alloc _, ?_, fun h => absurd h Hk.out.2⟩, by simp [intOf]; omega⟩
        rw [hcb]
        exact HXr.out.alloc _
    · have hkn : k = n := by omega
      subst hkn
      have hcb : hcur l root k = nextH l root := by unfold hcur; rw [if_pos Hn.out]
      rw [hcb] at HXr
      have hNK : Hid (K = if (nextH l root).right then 0 else 1) := by
        unfold Hid
        rw [HK.out]
        unfold nextK
        cases hx : l.getLast? with
        | none => rfl
        | some x => dsimp only; rw [Hlast.out rfl x hx]; rfl
      have hNO : Hid (O = if K = 0 then nextH l root else Hd.zero) := by unfold Hid; rw [HO.out, HK.out]; rfl
      have hCR := Lib.hid (fun W => rright_any (nextH l root) W)
      have hd1 : decide (k < k) = false := decide_eq_false (Nat.lt_irrefl _)
      have hXr := HXr.out
      have hXk := hXr
      obtain ⟨x0, x1, x2, -, -, -⟩ := hXk
      have hBlt := hXr.lt
      clear hcb hlt
      unfold Hd.val at hCR
      generalize nextH l root = N at *
      cases hr2 : N.right with
      | false =>
        have hK1 : K = 1 := by rw [hNK.out, hr2]; rfl
        have hO1 : O = Hd.zero := by rw [hNO.out, hK1]; rfl
        rw [hr2] at hCR
        subst hK1 hO1
        clear hr2 hNK hNO
        go_wp2_with (go_at_call 64; refine (hCR.out _).mono ?_; rintro e w2 ⟨rfl, hB2⟩; have hR2 := HRr.out.mono hB2; have hR2k := hR2; obtain ⟨d0, d1, d2, f0, f1, f2⟩ := hR2k; have hC2 := HBw.out.trans (hB2.mono HBw.out.size))
        have hF := ((hR2.set0 (.int .i64 0)).set1 (.string ⟨#[]⟩)).set2 (.string ⟨#[]⟩)
        refine bodyPost_ret (v := .tuple #[.agg #[.int .i64 0, .string ⟨#[]⟩, .string ⟨#[]⟩], .int .i64 1]) ?_ rfl ⟨rfl, below_set (below_set (below_set hC2 (Nat.le_refl _) _) (Nat.le_refl _) _) (Nat.le_refl _) _⟩
        obtain ⟨g0, g1, g2, -, -, -⟩ := hF
        simp [results, Tryd.f66, go_sem, g0, g1, g2]
      | true =>
        have hK1 : K = 0 := by rw [hNK.out, hr2]; rfl
        have hO1 : O = N := by rw [hNO.out, hK1, if_pos rfl]
        rw [hr2] at hCR
        subst hK1 hO1
        clear hr2 hNK hNO
        go_wp2_with (go_at_call 64; refine (hCR.out _).mono ?_; rintro e w2 ⟨rfl, hB2⟩; obtain ⟨y0, y1, y2, -, -, -⟩ := hXr.mono hB2; have hR2 := HRr.out.mono hB2; have hR2k := hR2; obtain ⟨d0, d1, d2, f0, f1, f2⟩ := hR2k; have hC2 := HBw.out.trans (hB2.mono HBw.out.size))
        have hF := ((hR2.set0 (.int .i64 O.epoch)).set1 (.string O.root)).set2 (.string O.prev)
        refine bodyPost_ret (v := .tuple #[.agg #[.int .i64 O.epoch, .string O.root, .string O.prev], .int .i64 0]) ?_ rfl ⟨rfl, below_set (below_set (below_set hC2 (Nat.le_refl _) _) (Nat.le_refl _) _) (Nat.le_refl _) _⟩
        obtain ⟨g0, g1, g2, -, -, -⟩ := hF
        simp [results, Tryd.f66, go_sem, g0, g1, g2]
end Go.Proofs.YtfhjnfocmlndpaaDoor
