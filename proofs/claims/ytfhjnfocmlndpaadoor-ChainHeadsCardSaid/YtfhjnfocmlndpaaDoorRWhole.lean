/- Whether heads are a chain: the reference's. -/
import Derived.Test.YtfhjnfocmlndpaaDoorWhole
namespace Go.Proofs.YtfhjnfocmlndpaaDoor
open Go Go.RowKit Go.Proofs

set_option maxRecDepth 20000 in
set_option maxHeartbeats 4000000 in
theorem rwhole_any (r : Nat) (v : Value) (l : List Hd) (w : World) (hv : HReads w v l) (hh : ∀ h ∈ l, h.Held) (hl : l.length ≤ 1000) (hcap : ∀ a n c, v = .slice a n c → n ≤ c) (hr : RAt w r) :
    Calls Tryd.prog 68 #[.pointer (some ⟨r, 0, none⟩), v] w fun e w' => e = .returned (.tuple #[.int .i64 (wholeO l).1, .bool (wholeO l).2]) ∧ Below w.heap.size w w' := by
  obtain ⟨a, cap, rfl⟩ := hv.shape
  have hlc : l.length ≤ cap := hcap _ _ _ rfl
  clear hcap
  obtain ⟨n, hn⟩ : ∃ n, n = l.length := ⟨_, rfl⟩
  obtain ⟨N, hN⟩ : ∃ N, N = wholeO l := ⟨_, rfl⟩
  rw [← hn, ← hN]
  have Hv := Lib.hid (hn ▸ hv : HReads w (.slice a n cap) l)
  have Hn := Lib.hid hn
  have HN := Lib.hid hN
  have Hr := Lib.hid hr
  have Hh := Lib.hid hh
  have hn1000 : n ≤ 1000 := by omega
  have hncap : n ≤ cap := by omega
  clear hv hn hN hl hr hh hlc
  go_enter Tryd.func68, Tryd.ntmps68
  go_wp2_with fail
  go_loopw [11] (fun i wr => ∃ k : Nat, k ≤ n ∧ i = .int .i64 k ∧ Below w.heap.size w wr ∧ N = wholeAt l k (n - k)) (fun i _ => n - (intOf i).toNat)
  case atStart => exact ⟨0, Nat.zero_le _, rfl, Below.refl _ _, by rw [HN.out]; unfold wholeO; rw [← Hn.out]; rfl⟩
  case round =>
    obtain ⟨k, hkn, rfl, hw, hk⟩ := hrel
    have HW := Lib.hid hw
    have HKK := Lib.hid hk
    clear hw hk
    by_cases h1 : k < n
    · have e1 : (k : Int) < n := by omega
      have e0 : (0 : Int) ≤ k := by omega
      obtain ⟨x, hx⟩ : ∃ x, l[k]? = some x := ⟨_, List.getElem?_eq_getElem (by have := Hn.out; omega)⟩
      have hHr := Hv.out.mono HW.out
      obtain ⟨b, off, rfl, c0, c1, c2⟩ := hHr.at hx
      have hbl : b < wr.heap.size := World.block_lt_of_cell? wr ⟨b, _, none⟩ c0
      have hcapk : ∀ c2, HReads wr (.slice (some ⟨b, off, none⟩) k c2) (l.take k) := fun c2 => hHr.take k c2 (by have := Hn.out; omega) _ (.inl rfl)
      have hcx := fun W (hb : Below wr.heap.size wr W) c2 => rnext_any r (.slice (some ⟨b, off, none⟩) k c2) (l.take k) x.root W ((hcapk c2).mono hb) (fun h hm => Hh.out h (List.mem_of_mem_take hm)) (by rw [List.length_take]; omega) (Hr.out.mono (HW.out.trans (hb.mono HW.out.size)))
      have hkcap : k ≤ cap := by omega
      have hstep : Hid (wOk l k = (decide (nextK (l.take k) x.root = 0) && decide (nextO (l.take k) x.root = x))) := by unfold Hid wOk; rw [hx]
      have hwa : Hid (wholeAt l k (n - k) = if wOk l k then wholeAt l (k + 1) (n - (k + 1)) else ((k : Int), false)) := by
        unfold Hid
        rw [show n - k = (n - (k + 1)) + 1 from by omega]; rfl
      generalize nextK (l.take k) x.root = K at *
      generalize nextO (l.take k) x.root = O at *
      unfold Hd.val at hcx
      have hbA : Below wr.heap.size wr wr.drew := belowN (Below.refl _ _) 1
      have hbB : Below wr.heap.size wr (wr.alloc (.cells #[.int .i64 0, .string ⟨#[]⟩, .string ⟨#[]⟩] 63)).drew := belowN ((Below.refl _ _).alloc (Nat.le_refl _) _) 1
      have hPW : Row3 (wr.alloc (.cells #[.int .i64 0, .string ⟨#[]⟩, .string ⟨#[]⟩] 63)).drew wr.heap.size (.int .i64 0) (.string ⟨#[]⟩) (.string ⟨#[]⟩) := (Row3.of_row (T := 63) (heap_alloc_new _ _)).drew
      clear hHr hcapk hx
      by_cases hK : K = 0
      · subst hK
        rcases Hd.cmp O x with hox | ⟨hne, hcases⟩
        · have hox2 := hox.symm
          clear hox
          subst hox2
          have hNk : Hid (N = wholeAt l (k + 1) (n - (k + 1))) := by
            unfold Hid
            rw [HKK.out, hwa.out, hstep.out, decide_eq_true rfl, decide_eq_true rfl]; rfl
          go_wp2_with fail
          go_region_with (first
            | (go_at_call 66; refine (hcx _ hbA _).mono ?_; rintro e w2 ⟨rfl, hB2⟩; have hCr : Below wr.heap.size wr w2 := hbA.trans hB2)
            | (go_at_call 66; refine (hcx _ hbB _).mono ?_; rintro e w2 ⟨rfl, hB2⟩; have hPr := hPW.mono hB2; have hPk := hPr; obtain ⟨p0, p1, p2, q0, q1, q2⟩ := hPk; have hCr : Below wr.heap.size wr w2 := hbB.trans (hB2.mono hbB.size)))
          all_goals go_wp2_with fail
          all_goals
            first
              | (obtain ⟨WF, hWF, rP, hCF⟩ : ∃ WF : World, WF = ((w2.setCell ⟨wr.heap.size, 0, none⟩ (.int .i64 x.epoch)).setCell ⟨wr.heap.size, 1, none⟩ (.string x.root)).setCell ⟨wr.heap.size, 2, none⟩ (.string x.prev) ∧ Row3 WF wr.heap.size (.int .i64 x.epoch) (.string x.root) (.string x.prev) ∧ Below wr.heap.size wr WF := ⟨_, rfl, ((hPr.set0 _).set1 _).set2 _, below_set (below_set (below_set hCr (Nat.le_refl _) _) (Nat.le_refl _) _) (Nat.le_refl _) _⟩
                 rw [← hWF]
                 clear hWF)
              | (obtain ⟨WF, hWF, rP, hCF⟩ : ∃ WF : World, WF = w2.alloc (.cells #[.int .i64 x.epoch, .string x.root, .string x.prev] 63) ∧ Row3 WF w2.heap.size (.int .i64 x.epoch) (.string x.root) (.string x.prev) ∧ Below wr.heap.size wr WF := ⟨_, rfl, Row3.of_row (T := 63) (heap_alloc_new _ _), hCr.alloc hCr.size _⟩
                 rw [← hWF]
                 clear hWF)
          all_goals
            have k0 : WF.cell? ⟨b, off + k * 3, none⟩ = some (.int .i64 x.epoch) := by rw [hCF.cell (by exact hbl)]; exact c0
            have k1 : WF.cell? ⟨b, off + k * 3 + 1, none⟩ = some (.string x.root) := by rw [hCF.cell (by exact hbl)]; exact c1
            have k2 : WF.cell? ⟨b, off + k * 3 + 2, none⟩ = some (.string x.prev) := by rw [hCF.cell (by exact hbl)]; exact c2
            obtain ⟨r0, r1, r2, -, -, -⟩ := rP
            have HCW := Lib.hid (HW.out.trans (hCF.mono HW.out.size))
            clear hCF hCr
            go_quiet (fail)
            go_wp2_with fail
            go_roundw
            case rel => exact ⟨k + 1, by omega, by go_num, belowN HCW.out _, hNk.out⟩
            case measure => simp [intOf]; omega
        · have hNk : Hid (N = ((k : Int), false)) := by
            unfold Hid
            rw [HKK.out, hwa.out, hstep.out, decide_eq_false hne, Bool.and_false]; rfl
          clear hne
          rcases hcases with f1 | ⟨f1, f2⟩ | ⟨f1, f2, f3⟩
          · go_wp2_with fail
            go_region_with (first
              | (go_at_call 66; refine (hcx _ hbA _).mono ?_; rintro e w2 ⟨rfl, hB2⟩; have hCr : Below wr.heap.size wr w2 := hbA.trans hB2)
              | (go_at_call 66; refine (hcx _ hbB _).mono ?_; rintro e w2 ⟨rfl, hB2⟩; have hPr := hPW.mono hB2; have hPk := hPr; obtain ⟨p0, p1, p2, q0, q1, q2⟩ := hPk; have hCr : Below wr.heap.size wr w2 := hbB.trans (hB2.mono hbB.size)))
            all_goals go_wp2_with fail
            all_goals
              first
                | (obtain ⟨WF, hWF, rP, hCF⟩ : ∃ WF : World, WF = ((w2.setCell ⟨wr.heap.size, 0, none⟩ (.int .i64 O.epoch)).setCell ⟨wr.heap.size, 1, none⟩ (.string O.root)).setCell ⟨wr.heap.size, 2, none⟩ (.string O.prev) ∧ Row3 WF wr.heap.size (.int .i64 O.epoch) (.string O.root) (.string O.prev) ∧ Below wr.heap.size wr WF := ⟨_, rfl, ((hPr.set0 _).set1 _).set2 _, below_set (below_set (below_set hCr (Nat.le_refl _) _) (Nat.le_refl _) _) (Nat.le_refl _) _⟩
                   rw [← hWF]
                   clear hWF)
                | (obtain ⟨WF, hWF, rP, hCF⟩ : ∃ WF : World, WF = w2.alloc (.cells #[.int .i64 O.epoch, .string O.root, .string O.prev] 63) ∧ Row3 WF w2.heap.size (.int .i64 O.epoch) (.string O.root) (.string O.prev) ∧ Below wr.heap.size wr WF := ⟨_, rfl, Row3.of_row (T := 63) (heap_alloc_new _ _), hCr.alloc hCr.size _⟩
                   rw [← hWF]
                   clear hWF)
            all_goals
              have k0 : WF.cell? ⟨b, off + k * 3, none⟩ = some (.int .i64 x.epoch) := by rw [hCF.cell (by exact hbl)]; exact c0
              have k1 : WF.cell? ⟨b, off + k * 3 + 1, none⟩ = some (.string x.root) := by rw [hCF.cell (by exact hbl)]; exact c1
              have k2 : WF.cell? ⟨b, off + k * 3 + 2, none⟩ = some (.string x.prev) := by rw [hCF.cell (by exact hbl)]; exact c2
              obtain ⟨r0, r1, r2, -, -, -⟩ := rP
              have HCW := Lib.hid (HW.out.trans (hCF.mono HW.out.size))
              clear hCF hCr
              go_quiet (fail)
              go_wp2_with fail
              go_ret2
              exact ⟨by rw [hNk.out]; rfl, belowN HCW.out _⟩
          · go_wp2_with fail
            go_region_with (first
              | (go_at_call 66; refine (hcx _ hbA _).mono ?_; rintro e w2 ⟨rfl, hB2⟩; have hCr : Below wr.heap.size wr w2 := hbA.trans hB2)
              | (go_at_call 66; refine (hcx _ hbB _).mono ?_; rintro e w2 ⟨rfl, hB2⟩; have hPr := hPW.mono hB2; have hPk := hPr; obtain ⟨p0, p1, p2, q0, q1, q2⟩ := hPk; have hCr : Below wr.heap.size wr w2 := hbB.trans (hB2.mono hbB.size)))
            all_goals go_wp2_with fail
            all_goals
              first
                | (obtain ⟨WF, hWF, rP, hCF⟩ : ∃ WF : World, WF = ((w2.setCell ⟨wr.heap.size, 0, none⟩ (.int .i64 x.epoch)).setCell ⟨wr.heap.size, 1, none⟩ (.string O.root)).setCell ⟨wr.heap.size, 2, none⟩ (.string O.prev) ∧ Row3 WF wr.heap.size (.int .i64 x.epoch) (.string O.root) (.string O.prev) ∧ Below wr.heap.size wr WF := ⟨_, rfl, ((hPr.set0 _).set1 _).set2 _, below_set (below_set (below_set hCr (Nat.le_refl _) _) (Nat.le_refl _) _) (Nat.le_refl _) _⟩
                   rw [← hWF]
                   clear hWF)
                | (obtain ⟨WF, hWF, rP, hCF⟩ : ∃ WF : World, WF = w2.alloc (.cells #[.int .i64 x.epoch, .string O.root, .string O.prev] 63) ∧ Row3 WF w2.heap.size (.int .i64 x.epoch) (.string O.root) (.string O.prev) ∧ Below wr.heap.size wr WF := ⟨_, rfl, Row3.of_row (T := 63) (heap_alloc_new _ _), hCr.alloc hCr.size _⟩
                   rw [← hWF]
                   clear hWF)
            all_goals
              have k0 : WF.cell? ⟨b, off + k * 3, none⟩ = some (.int .i64 x.epoch) := by rw [hCF.cell (by exact hbl)]; exact c0
              have k1 : WF.cell? ⟨b, off + k * 3 + 1, none⟩ = some (.string x.root) := by rw [hCF.cell (by exact hbl)]; exact c1
              have k2 : WF.cell? ⟨b, off + k * 3 + 2, none⟩ = some (.string x.prev) := by rw [hCF.cell (by exact hbl)]; exact c2
              obtain ⟨r0, r1, r2, -, -, -⟩ := rP
              have HCW := Lib.hid (HW.out.trans (hCF.mono HW.out.size))
              clear hCF hCr
              go_quiet (fail)
              go_wp2_with fail
              go_ret2
              exact ⟨by rw [hNk.out]; rfl, belowN HCW.out _⟩
          · go_wp2_with fail
            go_region_with (first
              | (go_at_call 66; refine (hcx _ hbA _).mono ?_; rintro e w2 ⟨rfl, hB2⟩; have hCr : Below wr.heap.size wr w2 := hbA.trans hB2)
              | (go_at_call 66; refine (hcx _ hbB _).mono ?_; rintro e w2 ⟨rfl, hB2⟩; have hPr := hPW.mono hB2; have hPk := hPr; obtain ⟨p0, p1, p2, q0, q1, q2⟩ := hPk; have hCr : Below wr.heap.size wr w2 := hbB.trans (hB2.mono hbB.size)))
            all_goals go_wp2_with fail
            all_goals
              first
                | (obtain ⟨WF, hWF, rP, hCF⟩ : ∃ WF : World, WF = ((w2.setCell ⟨wr.heap.size, 0, none⟩ (.int .i64 x.epoch)).setCell ⟨wr.heap.size, 1, none⟩ (.string O.root)).setCell ⟨wr.heap.size, 2, none⟩ (.string O.prev) ∧ Row3 WF wr.heap.size (.int .i64 x.epoch) (.string O.root) (.string O.prev) ∧ Below wr.heap.size wr WF := ⟨_, rfl, ((hPr.set0 _).set1 _).set2 _, below_set (below_set (below_set hCr (Nat.le_refl _) _) (Nat.le_refl _) _) (Nat.le_refl _) _⟩
                   rw [← hWF]
                   clear hWF)
                | (obtain ⟨WF, hWF, rP, hCF⟩ : ∃ WF : World, WF = w2.alloc (.cells #[.int .i64 x.epoch, .string O.root, .string O.prev] 63) ∧ Row3 WF w2.heap.size (.int .i64 x.epoch) (.string O.root) (.string O.prev) ∧ Below wr.heap.size wr WF := ⟨_, rfl, Row3.of_row (T := 63) (heap_alloc_new _ _), hCr.alloc hCr.size _⟩
                   rw [← hWF]
                   clear hWF)
            all_goals
              have k0 : WF.cell? ⟨b, off + k * 3, none⟩ = some (.int .i64 x.epoch) := by rw [hCF.cell (by exact hbl)]; exact c0
              have k1 : WF.cell? ⟨b, off + k * 3 + 1, none⟩ = some (.string x.root) := by rw [hCF.cell (by exact hbl)]; exact c1
              have k2 : WF.cell? ⟨b, off + k * 3 + 2, none⟩ = some (.string x.prev) := by rw [hCF.cell (by exact hbl)]; exact c2
              obtain ⟨r0, r1, r2, -, -, -⟩ := rP
              have HCW := Lib.hid (HW.out.trans (hCF.mono HW.out.size))
              clear hCF hCr
              go_quiet (fail)
              go_wp2_with fail
              go_ret2
              exact ⟨by rw [hNk.out]; rfl, belowN HCW.out _⟩
      · have hNk : Hid (N = ((k : Int), false)) := by
          unfold Hid
          rw [HKK.out, hwa.out, hstep.out, decide_eq_false hK]; rfl
        have hK2 : ¬ K = 0 := hK
        go_wp2_with fail
        go_region_with (first
          | (go_at_call 66; refine (hcx _ hbA _).mono ?_; rintro e w2 ⟨rfl, hB2⟩; have hCr : Below wr.heap.size wr w2 := hbA.trans hB2)
          | (go_at_call 66; refine (hcx _ hbB _).mono ?_; rintro e w2 ⟨rfl, hB2⟩; have hPr := hPW.mono hB2; have hPk := hPr; obtain ⟨p0, p1, p2, q0, q1, q2⟩ := hPk; have hCr : Below wr.heap.size wr w2 := hbB.trans (hB2.mono hbB.size)))
        all_goals go_wp2_with fail
        all_goals
          first
            | (obtain ⟨WF, hWF, rP, hCF⟩ : ∃ WF : World, WF = ((w2.setCell ⟨wr.heap.size, 0, none⟩ (.int .i64 O.epoch)).setCell ⟨wr.heap.size, 1, none⟩ (.string O.root)).setCell ⟨wr.heap.size, 2, none⟩ (.string O.prev) ∧ Row3 WF wr.heap.size (.int .i64 O.epoch) (.string O.root) (.string O.prev) ∧ Below wr.heap.size wr WF := ⟨_, rfl, ((hPr.set0 _).set1 _).set2 _, below_set (below_set (below_set hCr (Nat.le_refl _) _) (Nat.le_refl _) _) (Nat.le_refl _) _⟩
               rw [← hWF]
               clear hWF)
            | (obtain ⟨WF, hWF, rP, hCF⟩ : ∃ WF : World, WF = w2.alloc (.cells #[.int .i64 O.epoch, .string O.root, .string O.prev] 63) ∧ Row3 WF w2.heap.size (.int .i64 O.epoch) (.string O.root) (.string O.prev) ∧ Below wr.heap.size wr WF := ⟨_, rfl, Row3.of_row (T := 63) (heap_alloc_new _ _), hCr.alloc hCr.size _⟩
               rw [← hWF]
               clear hWF)
        all_goals
          have k0 : WF.cell? ⟨b, off + k * 3, none⟩ = some (.int .i64 x.epoch) := by rw [hCF.cell (by exact hbl)]; exact c0
          have k1 : WF.cell? ⟨b, off + k * 3 + 1, none⟩ = some (.string x.root) := by rw [hCF.cell (by exact hbl)]; exact c1
          have k2 : WF.cell? ⟨b, off + k * 3 + 2, none⟩ = some (.string x.prev) := by rw [hCF.cell (by exact hbl)]; exact c2
          obtain ⟨r0, r1, r2, -, -, -⟩ := rP
          have HCW := Lib.hid (HW.out.trans (hCF.mono HW.out.size))
          clear hCF hCr
          go_quiet (fail)
          go_wp2_with fail
          go_ret2
          exact ⟨by rw [hNk.out]; rfl, belowN HCW.out _⟩
    · have e1 : ¬ (k : Int) < n := by omega
      have hd2 : decide (k < n) = false := decide_eq_false h1
      have hNk : Hid (N = (0, true)) := by
        unfold Hid
        rw [HKK.out, show n - k = 0 from by omega]; rfl
      go_wp2_with fail
      go_ret2
      exact ⟨by rw [hNk.out]; rfl, HW.out⟩
end Go.Proofs.YtfhjnfocmlndpaaDoor
