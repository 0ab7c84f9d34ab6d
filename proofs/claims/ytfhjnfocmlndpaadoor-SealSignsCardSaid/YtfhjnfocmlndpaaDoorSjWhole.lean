/- Whether heads are a chain. -/
import Derived.Test.YtfhjnfocmlndpaaDoorSjHas
namespace Go.Proofs.YtfhjnfocmlndpaaDoor
open Go Go.RowKit Go.Proofs

theorem Row3.drew {w : World} {b : Nat} {x y z : Value} (h : Row3 w b x y z) : Row3 w.drew b x y z := ⟨h.c0, h.c1, h.c2, h.f0, h.f1, h.f2⟩
theorem HReads.take {w : World} {a : Option Addr} {n cap : Nat} {l : List Hd} (h : HReads w (.slice a n cap) l) (k c2 : Nat) (hk : k ≤ l.length) (a2 : Option Addr) (ha : a2 = a ∨ k = 0) : HReads w (.slice a2 k c2) (l.take k) := by
  have hl : (l.take k).length = k := by rw [List.length_take]; omega
  have hlen : ∀ l : List Hd, (hcells l).length = 3 * l.length := by
    intro l
    induction l with
    | nil => rfl
    | cons x l ih => show (x.cells ++ hcells l).length = _; rw [List.length_append, ih]; simp [Hd.cells]; omega
  unfold HReads
  rw [hl]
  refine ⟨by rw [hlen, hl]; omega, ?_⟩
  by_cases h0 : k = 0
  · subst h0
    exact .inl ⟨rfl, _, _, rfl⟩
  · obtain rfl := ha.resolve_right h0
    rcases h.2 with ⟨h1, _⟩ | ⟨b, off, cap', he, hc⟩
    · have := hlen l
      rw [h1] at this
      simp at this
      omega
    · simp only [Value.slice.injEq] at he
      refine .inr ⟨b, off, c2, by rw [he.1], fun j u hu => hc j u ?_⟩
      have e : hcells l = hcells (l.take k) ++ hcells (l.drop k) := by unfold hcells; rw [← List.flatMap_append, List.take_append_drop]
      rw [e, List.getElem?_append_left (List.getElem?_eq_some_iff.1 hu).1]
      exact hu
/-- whether head i is what it must be -/
def wOk (l : List Hd) (i : Nat) : Bool := match l[i]? with
  | some x => decide (nextK (l.take i) x.root = 0) && decide (nextO (l.take i) x.root = x)
  | none => true
def wholeAt (l : List Hd) (i : Nat) : Nat → Int × Bool
  | 0 => (0, true)
  | k + 1 => if wOk l i then wholeAt l (i + 1) k else (i, false)
def wholeO (l : List Hd) : Int × Bool := wholeAt l 0 l.length

set_option maxRecDepth 20000 in
set_option maxHeartbeats 4000000 in
theorem cwhole_any (v : Value) (l : List Hd) (w : World) (hv : HReads w v l) (hh : ∀ h ∈ l, h.Held) (hl : l.length ≤ 1000) (hcap : ∀ a n c, v = .slice a n c → n ≤ c) (hk : KAt w 0) :
    Calls Tryd.prog 69 #[v] w fun e w' => e = .returned (.tuple #[.int .i64 (wholeO l).1, .bool (wholeO l).2]) ∧ Below w.heap.size w w' := by
  obtain ⟨a, cap, rfl⟩ := hv.shape
  have hlc : l.length ≤ cap := hcap _ _ _ rfl
  clear hcap
  obtain ⟨n, hn⟩ : ∃ n, n = l.length := ⟨_, rfl⟩
  obtain ⟨N, hN⟩ : ∃ N, N = wholeO l := ⟨_, rfl⟩
  rw [← hn, ← hN]
  have Hv := Lib.hid (hn ▸ hv : HReads w (.slice a n cap) l)
  have Hn := Lib.hid hn
  have HN := Lib.hid hN
  have Hk := Lib.hid hk
  have Hh := Lib.hid hh
  have hn1000 : n ≤ 1000 := by omega
  have hncap : n ≤ cap := by omega
  clear hv hn hN hl hk hh hlc
  go_enter Tryd.func69, Tryd.ntmps69
  go_wp2_with fail
  go_loopw [10] (fun i wr => ∃ k : Nat, k ≤ n ∧ i = .int .i64 k ∧ Below w.heap.size w wr ∧ N = wholeAt l k (n - k)) (fun i _ => n - (intOf i).toNat)
  case atStart => exact ⟨0, Nat.zero_le _, rfl, Below.refl _ _, by rw [HN.out]; unfold wholeO; rw [← Hn.out]; rfl⟩
  case round =>
    obtain ⟨k, hkn, rfl, hw, hk⟩ := hrel
    have HW := Lib.hid hw
    have HKK := Lib.hid hk
    clear hw hk
    by_cases h1 : k < n
    · have e1 : (k : Int) < n := by omega
      have e0 : (0 : Int) ≤ k := by omega
      obtain ⟨x, hx⟩ : ∃ x, l[k]? = some x := ⟨_, List.getElem?_eq_getElem (by have := Hn.out; omega)⟩
      have hHr := Hv.out.mono HW.out
      obtain ⟨b, off, rfl, c0, c1, c2⟩ := hHr.at hx
      have hbl : b < wr.heap.size := World.block_lt_of_cell? wr ⟨b, _, none⟩ c0
      have hcapk : ∀ c2, HReads wr (.slice (some ⟨b, off, none⟩) k c2) (l.take k) := fun c2 => hHr.take k c2 (by have := Hn.out; omega) _ (.inl rfl)
      have hbx : Below wr.heap.size wr (wr.alloc (.cells #[.int .i64 x.epoch, .string x.root, .string x.prev] 63)) := (Below.refl _ _).alloc (Nat.le_refl _) _
      have hrow : Row3 (wr.alloc (.cells #[.int .i64 x.epoch, .string x.root, .string x.prev] 63)) wr.heap.size (.int .i64 x.epoch) (.string x.root) (.string x.prev) := Row3.of_row (T := 63) (heap_alloc_new _ _)
      have hcn := fun W (hb : Below wr.heap.size wr W) c2 => cnext_any (.slice (some ⟨b, off, none⟩) k c2) (l.take k) x.root W ((hcapk c2).mono hb) (fun h hm => Hh.out h (List.mem_of_mem_take hm)) (by rw [List.length_take]; omega) (Hk.out.mono (HW.out.trans (hb.mono HW.out.size)))
      have hkcap : k ≤ cap := by omega
      have hstep : Hid (wOk l k = (decide (nextK (l.take k) x.root = 0) && decide (nextO (l.take k) x.root = x))) := by unfold Hid wOk; rw [hx]
      have hwa : Hid (wholeAt l k (n - k) = if wOk l k then wholeAt l (k + 1) (n - (k + 1)) else ((k : Int), false)) := by
        unfold Hid
        rw [show n - k = (n - (k + 1)) + 1 from by omega]; rfl
      generalize nextK (l.take k) x.root = K at *
      generalize nextO (l.take k) x.root = O at *
      have HBW := Lib.hid (HW.out.trans (hbx.mono HW.out.size))
      have hzx : wr.heap.size < (wr.alloc (.cells #[.int .i64 x.epoch, .string x.root, .string x.prev] 63)).heap.size := by simp
      have C0 : (wr.alloc (.cells #[.int .i64 x.epoch, .string x.root, .string x.prev] 63)).cell? ⟨wr.heap.size, 1, none⟩ = some (.string x.root) := hrow.c1
      clear hHr hcapk hx
      by_cases hK : K = 0
      · subst hK
        rw [errV_0] at hcn
        rcases Hd.cmp O x with hox | ⟨hne, hcases⟩
        · have hox2 := hox.symm
          clear hox
          subst hox2
          have hNk : Hid (N = wholeAt l (k + 1) (n - (k + 1))) := by
            unfold Hid
            rw [HKK.out, hwa.out, hstep.out, decide_eq_true rfl, decide_eq_true rfl]; rfl
          go_wp2_with fail
          generalize wr.alloc (.cells #[.int .i64 x.epoch, .string x.root, .string x.prev] 63) = WX at *
          have hcx := fun W (hb : Below WX.heap.size WX W) => hcn W (hbx.trans (hb.mono hbx.size))
          have hz1 : ¬ WX.heap.size = wr.heap.size := by omega
          have hz2 : ¬ wr.heap.size = WX.heap.size := by omega
          clear hcn
          unfold Hd.val at hcx
          have hbA : Below WX.heap.size WX WX.drew := belowN (Below.refl _ _) 1
          have hbB : Below WX.heap.size WX (WX.alloc (.cells #[.int .i64 0, .string ⟨#[]⟩, .string ⟨#[]⟩] 63)).drew := belowN ((Below.refl _ _).alloc (Nat.le_refl _) _) 1
          have hPW : Row3 (WX.alloc (.cells #[.int .i64 0, .string ⟨#[]⟩, .string ⟨#[]⟩] 63)).drew WX.heap.size (.int .i64 0) (.string ⟨#[]⟩) (.string ⟨#[]⟩) := (Row3.of_row (T := 63) (heap_alloc_new _ _)).drew
          have hxA := hrow.drew
          have hxB := (hrow.alloc (.cells #[.int .i64 0, .string ⟨#[]⟩, .string ⟨#[]⟩] 63)).drew
          clear hrow
          go_region_with (first
            | (go_at_call 67; refine (hcx _ hbA _).mono ?_; rintro e w2 ⟨rfl, hB2⟩; obtain ⟨x0, x1, x2, -, -, -⟩ := hxA.mono hB2; have hC2 : Below w.heap.size w w2 := HBW.out.trans ((hbA.trans hB2).mono HBW.out.size); have hzw : wr.heap.size < w2.heap.size := Nat.lt_of_lt_of_le hzx hB2.size; have hz3 : ¬ w2.heap.size = wr.heap.size := (by omega); have hz4 : ¬ wr.heap.size = w2.heap.size := (by omega); have hz5 : WX.heap.size ≤ w2.heap.size := hB2.size)
            | (go_at_call 67; refine (hcx _ hbB _).mono ?_; rintro e w2 ⟨rfl, hB2⟩; obtain ⟨x0, x1, x2, -, -, -⟩ := hxB.mono hB2; obtain ⟨p0, p1, p2, q0, q1, q2⟩ := hPW.mono hB2; have hC2 : Below w.heap.size w w2 := HBW.out.trans ((hbB.trans (hB2.mono hbB.size)).mono HBW.out.size)))
          all_goals go_wp2_with fail
          all_goals
            go_roundw
            case rel =>
              refine ⟨k + 1, by omega, by go_num, ?_, hNk.out⟩
              first
                | exact hC2.alloc hC2.size _
                | exact below_set (below_set (below_set hC2 HBW.out.size _) HBW.out.size _) HBW.out.size _
            case measure => simp [intOf]; omega
        · have hNk : Hid (N = ((k : Int), false)) := by
            unfold Hid
            rw [HKK.out, hwa.out, hstep.out, decide_eq_false hne, Bool.and_false]; rfl
          clear hne
          rcases hcases with f1 | ⟨f1, f2⟩ | ⟨f1, f2, f3⟩
          all_goals
            go_wp2_with fail
            generalize wr.alloc (.cells #[.int .i64 x.epoch, .string x.root, .string x.prev] 63) = WX at *
            have hcx := fun W (hb : Below WX.heap.size WX W) => hcn W (hbx.trans (hb.mono hbx.size))
            have hz1 : ¬ WX.heap.size = wr.heap.size := by omega
            have hz2 : ¬ wr.heap.size = WX.heap.size := by omega
            clear hcn
            unfold Hd.val at hcx
            have hbA : Below WX.heap.size WX WX.drew := belowN (Below.refl _ _) 1
            have hbB : Below WX.heap.size WX (WX.alloc (.cells #[.int .i64 0, .string ⟨#[]⟩, .string ⟨#[]⟩] 63)).drew := belowN ((Below.refl _ _).alloc (Nat.le_refl _) _) 1
            have hPW : Row3 (WX.alloc (.cells #[.int .i64 0, .string ⟨#[]⟩, .string ⟨#[]⟩] 63)).drew WX.heap.size (.int .i64 0) (.string ⟨#[]⟩) (.string ⟨#[]⟩) := (Row3.of_row (T := 63) (heap_alloc_new _ _)).drew
            have hxA := hrow.drew
            have hxB := (hrow.alloc (.cells #[.int .i64 0, .string ⟨#[]⟩, .string ⟨#[]⟩] 63)).drew
            clear hrow
            go_region_with (first
              | (go_at_call 67; refine (hcx _ hbA _).mono ?_; rintro e w2 ⟨rfl, hB2⟩; obtain ⟨x0, x1, x2, -, -, -⟩ := hxA.mono hB2; have hC2 : Below w.heap.size w w2 := HBW.out.trans ((hbA.trans hB2).mono HBW.out.size); have hzw : wr.heap.size < w2.heap.size := Nat.lt_of_lt_of_le hzx hB2.size; have hz3 : ¬ w2.heap.size = wr.heap.size := (by omega); have hz4 : ¬ wr.heap.size = w2.heap.size := (by omega); have hz5 : WX.heap.size ≤ w2.heap.size := hB2.size)
              | (go_at_call 67; refine (hcx _ hbB _).mono ?_; rintro e w2 ⟨rfl, hB2⟩; obtain ⟨x0, x1, x2, -, -, -⟩ := hxB.mono hB2; obtain ⟨p0, p1, p2, q0, q1, q2⟩ := hPW.mono hB2; have hC2 : Below w.heap.size w w2 := HBW.out.trans ((hbB.trans (hB2.mono hbB.size)).mono HBW.out.size)))
            all_goals go_wp2_with fail
            all_goals
              go_ret2
              refine ⟨by rw [hNk.out]; rfl, ?_⟩
              first
                | exact hC2.alloc hC2.size _
                | exact below_set (below_set (below_set hC2 HBW.out.size _) HBW.out.size _) HBW.out.size _
      · have heK : errV K = .iface 31 (.int .i64 K) := by unfold errV; rw [if_neg hK]
        rw [heK] at hcn
        have hNk : Hid (N = ((k : Int), false)) := by
          unfold Hid
          rw [HKK.out, hwa.out, hstep.out, decide_eq_false hK]; rfl
        clear hK heK
        go_wp2_with fail
        generalize wr.alloc (.cells #[.int .i64 x.epoch, .string x.root, .string x.prev] 63) = WX at *
        have hcx := fun W (hb : Below WX.heap.size WX W) => hcn W (hbx.trans (hb.mono hbx.size))
        have hz1 : ¬ WX.heap.size = wr.heap.size := by omega
        have hz2 : ¬ wr.heap.size = WX.heap.size := by omega
        clear hcn
        unfold Hd.val at hcx
        have hbA : Below WX.heap.size WX WX.drew := belowN (Below.refl _ _) 1
        have hbB : Below WX.heap.size WX (WX.alloc (.cells #[.int .i64 0, .string ⟨#[]⟩, .string ⟨#[]⟩] 63)).drew := belowN ((Below.refl _ _).alloc (Nat.le_refl _) _) 1
        have hPW : Row3 (WX.alloc (.cells #[.int .i64 0, .string ⟨#[]⟩, .string ⟨#[]⟩] 63)).drew WX.heap.size (.int .i64 0) (.string ⟨#[]⟩) (.string ⟨#[]⟩) := (Row3.of_row (T := 63) (heap_alloc_new _ _)).drew
        have hxA := hrow.drew
        have hxB := (hrow.alloc (.cells #[.int .i64 0, .string ⟨#[]⟩, .string ⟨#[]⟩] 63)).drew
        clear hrow
        go_region_with (first
          | (go_at_call 67; refine (hcx _ hbA _).mono ?_; rintro e w2 ⟨rfl, hB2⟩; obtain ⟨x0, x1, x2, -, -, -⟩ := hxA.mono hB2; have hC2 : Below w.heap.size w w2 := HBW.out.trans ((hbA.trans hB2).mono HBW.out.size); have hzw : wr.heap.size < w2.heap.size := Nat.lt_of_lt_of_le hzx hB2.size; have hz3 : ¬ w2.heap.size = wr.heap.size := (by omega); have hz4 : ¬ wr.heap.size = w2.heap.size := (by omega); have hz5 : WX.heap.size ≤ w2.heap.size := hB2.size)
          | (go_at_call 67; refine (hcx _ hbB _).mono ?_; rintro e w2 ⟨rfl, hB2⟩; obtain ⟨x0, x1, x2, -, -, -⟩ := hxB.mono hB2; obtain ⟨p0, p1, p2, q0, q1, q2⟩ := hPW.mono hB2; have hC2 : Below w.heap.size w w2 := HBW.out.trans ((hbB.trans (hB2.mono hbB.size)).mono HBW.out.size)))
        all_goals go_wp2_with fail
        all_goals
          go_ret2
          refine ⟨by rw [hNk.out]; rfl, ?_⟩
          first
            | exact hC2.alloc hC2.size _
            | exact below_set (below_set (below_set hC2 HBW.out.size _) HBW.out.size _) HBW.out.size _
    · have e1 : ¬ (k : Int) < n := by omega
      have hd2 : decide (k < n) = false := decide_eq_false h1
      have hNk : Hid (N = (0, true)) := by
        unfold Hid
        rw [HKK.out, show n - k = 0 from by omega]; rfl
      go_wp2_with fail
      go_ret2
      exact ⟨by rw [hNk.out]; rfl, HW.out⟩
end Go.Proofs.YtfhjnfocmlndpaaDoor
