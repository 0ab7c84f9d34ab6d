/- Keep's held and made. -/
import Derived.Test.YtfhjnfocmlndpaaDoorTSetW
import Derived.Test.YtfhjnfocmlndpaaDoorTIdx
import Derived.Test.YtfhjnfocmlndpaaDoorRepeat
namespace Go.Proofs.YtfhjnfocmlndpaaDoor
open Go Go.RowKit Go.Proofs Go.Shelf

def rep16 (c : UInt8) : ByteArray := ⟨#[c, c, c, c, c, c, c, c, c, c, c, c, c, c, c, c]⟩
theorem rep16_size (c : UInt8) : (rep16 c).size = 16 := rfl
def RepPost (c : UInt8) (w : World) (e : Ending) (w' : World) : Prop := e = .returned (.string (rep16 c)) ∧ Below w.heap.size w w'
theorem rep_0 (w : World) : Calls Tryd.prog 134 #[.string ⟨#[0]⟩, .int .i64 16] w (RepPost 0 w) := Any.strings_Repeat_main Tryd.lays105 Tryd.extra105 ⟨#[0]⟩ 16 w (by decide) (by decide) (by decide) (by decide)
theorem rep_1 (w : World) : Calls Tryd.prog 134 #[.string ⟨#[1]⟩, .int .i64 16] w (RepPost 1 w) := Any.strings_Repeat_main Tryd.lays105 Tryd.extra105 ⟨#[1]⟩ 16 w (by decide) (by decide) (by decide) (by decide)
theorem rep_255 (w : World) : Calls Tryd.prog 134 #[.string ⟨#[255]⟩, .int .i64 16] w (RepPost 255 w) := Any.strings_Repeat_main Tryd.lays105 Tryd.extra105 ⟨#[255]⟩ 16 w (by decide) (by decide) (by decide) (by decide)
theorem rep_c (w : World) : Calls Tryd.prog 134 #[.string ⟨#[99]⟩, .int .i64 16] w (RepPost 99 w) := Any.strings_Repeat_main Tryd.lays105 Tryd.extra105 ⟨#[99]⟩ 16 w (by decide) (by decide) (by decide) (by decide)
theorem rep_d (w : World) : Calls Tryd.prog 134 #[.string ⟨#[100]⟩, .int .i64 16] w (RepPost 100 w) := Any.strings_Repeat_main Tryd.lays105 Tryd.extra105 ⟨#[100]⟩ 16 w (by decide) (by decide) (by decide) (by decide)

/-! ### held -/
def heldB (x : It) : Bool := decide (40 < x.ix.size) || decide (40 < x.cm.size)
theorem heldp_any (x : It) (w : World) : Calls Tryd.prog 135 #[x.val] w (BoolPost (heldB x) w) := by
  have hb : Below w.heap.size w (w.alloc (.cells #[.string x.ix, .string x.cm] 49)) := (Below.refl _ _).alloc (Nat.le_refl _) _
  unfold BoolPost heldB It.val
  by_cases h1 : 40 < x.ix.size
  · have e1 : (40 : Int) < x.ix.size := by omega
    rw [decide_eq_true h1, Bool.true_or]
    clear h1
    go_enter Tryd.func135, Tryd.ntmps135
    go_wp2_with fail
    go_ret
    exact ⟨rfl, hb⟩
  · have e1 : ¬ (40 : Int) < x.ix.size := by omega
    rw [decide_eq_false h1, Bool.false_or]
    by_cases h2 : 40 < x.cm.size
    · have e2 : (40 : Int) < x.cm.size := by omega
      rw [decide_eq_true h2]
      clear h1 h2
      go_enter Tryd.func135, Tryd.ntmps135
      go_wp2_with fail
      go_ret
      exact ⟨rfl, hb⟩
    · have e2 : ¬ (40 : Int) < x.cm.size := by omega
      rw [decide_eq_false h2]
      clear h1 h2
      go_enter Tryd.func135, Tryd.ntmps135
      go_wp2_with fail
      go_ret
      exact ⟨rfl, hb⟩
/-- few, and short -/
def heldI (l : List It) : Bool := decide (l.length ≤ 40) && !l.any heldB
set_option maxRecDepth 20000 in
theorem held_any (v : Value) (l : List It) (w : World) (hv : IReads w v l) : Calls Tryd.prog 72 #[v] w (BoolPost (heldI l) w) := by
  unfold BoolPost heldI
  by_cases h : l.length ≤ 40
  · have HH := Lib.hid (ihas_gen 135 #[] (enters_of Tryd.func135 (by kernel_rfl) rfl) heldB v l w hv (by omega) (fun x _ W _ => heldp_any x W))
    obtain ⟨a, cap, rfl, -⟩ := hv.shape
    rw [decide_eq_true h, Bool.true_and]
    unfold BoolPost at HH
    generalize l.any heldB = c at *
    obtain ⟨n, hn⟩ : ∃ n, n = l.length := ⟨_, rfl⟩
    rw [← hn] at h HH ⊢
    have e1 : (n : Int) ≤ 40 := by omega
    clear hv h hn
    go_enter Tryd.func72, Tryd.ntmps72
    go_wp2_with (go_at_call 81; refine HH.out.mono ?_; rintro e w1 ⟨rfl, hB1⟩)
    go_ret
    exact ⟨rfl, hB1⟩
  · obtain ⟨a, cap, rfl, -⟩ := hv.shape
    rw [decide_eq_false h, Bool.false_and]
    obtain ⟨n, hn⟩ : ∃ n, n = l.length := ⟨_, rfl⟩
    rw [← hn] at h ⊢
    have e1 : ¬ (n : Int) ≤ 40 := by omega
    have e2 : (40 : Int) < n := by omega
    clear hv h hn
    go_enter Tryd.func72, Tryd.ntmps72
    go_wp2_with fail
    go_ret
    exact ⟨rfl, Below.refl _ _⟩

/-! ### made -/
def MadePost (l : List It) (w : World) (e : Ending) (w' : World) : Prop := ∃ v', e = .returned v' ∧ IReads w' v' (madeI l) ∧ Below w.heap.size w w'
set_option maxRecDepth 20000 in
set_option maxHeartbeats 2000000 in
theorem made_any (v : Value) (l : List It) (w : World) (hv : IReads w v l) (hl : l.length ≤ 1000) : Calls Tryd.prog 74 #[v] w (MadePost l w) := by
  obtain ⟨a, cap, rfl, -⟩ := hv.shape
  obtain ⟨n, hn⟩ : ∃ n, n = l.length := ⟨_, rfl⟩
  rw [← hn]
  have Hv := Lib.hid (hn ▸ hv : IReads w (.slice a n cap) l)
  have Hn := Lib.hid hn
  have hn1000 : n ≤ 1000 := by omega
  unfold MadePost
  clear hv hn hl
  go_enter Tryd.func74, Tryd.ntmps74
  go_wp2_with fail
  go_loopw [3, 4] (fun o i wr => ∃ (k : Nat) (u : Value), k ≤ n ∧ i = .int .i64 k ∧ u = o ∧ Below w.heap.size w wr ∧ IReads wr u (madeI (l.take k))) (fun _ i _ => n - (intOf i).toNat)
  case atStart => exact ⟨0, _, Nat.zero_le _, rfl, rfl, Below.refl _ _, IReads.nil _ _ _⟩
  case round =>
    obtain ⟨k, u, hk, rfl, rfl, hBw, hr⟩ := hrel
    have HB := Lib.hid hBw
    have HR := Lib.hid hr
    clear hBw hr
    by_cases hlt : k < n
    · have hkl : k < l.length := by have := Hn.out; omega
      obtain ⟨x, hx⟩ : ∃ x, l[k]? = some x := ⟨l[k], List.getElem?_eq_getElem hkl⟩
      obtain ⟨b, off, rfl, c0, c1⟩ := (Hv.out.mono HB.out).at hx
      have hts : Hid (madeI (l.take (k + 1)) = stepI (madeI (l.take k)) x) := by
        unfold Hid
        rw [List.take_succ_eq_append_getElem hkl, madeI_snoc]
        congr 1
        exact (List.getElem?_eq_some_iff.1 hx).2
      have HS := Lib.hid (tset_any u (madeI (l.take k)) x wr HR.out)
      unfold SetPost It.val at HS
      generalize madeI (l.take k) = m at *
      clear hx
      by_cases hK : setK m x = 0
      · have hst : Hid (madeI (l.take (k + 1)) = setO m x) := by unfold Hid; rw [hts.out]; unfold stepI setO; rw [if_pos hK, if_pos hK]
        rw [hK, errV_0] at HS
        clear hts hK
        go_wp2_with (go_at_call 136; refine HS.out.mono ?_; rintro e w1 ⟨v1, rfl, hr1, hB1⟩; have HR1 := Lib.hid hr1; clear hr1)
        go_roundw
        case rel => exact ⟨k + 1, v1, by omega, by go_num, rfl, HB.out.trans (hB1.mono HB.out.size), by rw [hst.out]; exact HR1.out⟩
        case measure => simp [intOf]; omega
      · have hst : Hid (madeI (l.take (k + 1)) = m) := by unfold Hid; rw [hts.out]; unfold stepI; rw [if_neg hK]
        have hev : errV (setK m x) = .iface 31 (.int .i64 (setK m x)) := by unfold errV; rw [if_neg hK]
        rw [hev] at HS
        generalize setK m x = kk at *
        clear hts hK hev
        go_wp2_with (go_at_call 136; refine HS.out.mono ?_; rintro e w1 ⟨v1, rfl, hr1, hB1⟩; clear hr1)
        go_roundw
        case rel => exact ⟨k + 1, u, by omega, by go_num, rfl, HB.out.trans (hB1.mono HB.out.size), by rw [hst.out]; exact HR.out.mono hB1⟩
        case measure => simp [intOf]; omega
    · have hd1 : decide (k < n) = false := decide_eq_false hlt
      have hfin : Hid (madeI l = madeI (l.take k)) := by unfold Hid; rw [List.take_of_length_le (by have := Hn.out; omega)]
      go_wp2_with fail
      go_ret
      exact ⟨u, rfl, by rw [hfin.out]; exact HR.out, HB.out⟩

/-- two cells of a row -/
structure Pair (w : World) (b : Nat) (x y : Value) : Prop where
  c0 : w.cell? ⟨b, 0, none⟩ = some x
  c1 : w.cell? ⟨b, 1, none⟩ = some y
theorem Pair.mono {w w' : World} {b : Nat} {x y : Value} (h : Pair w b x y) (hb : Below w.heap.size w w') : Pair w' b x y := ⟨by rw [hb.cell (by exact World.block_lt_of_cell? _ _ h.c0)]; exact h.c0, by rw [hb.cell (by exact World.block_lt_of_cell? _ _ h.c1)]; exact h.c1⟩
theorem Pair.new (w : World) (x y : Value) (T : TypeId) : Pair (w.alloc (.cells #[x, y] T)) w.heap.size x y := ⟨by rw [cell_of_row _ _ _ _ _ _ (heap_alloc_new _ _)]; rfl, by rw [cell_of_row _ _ _ _ _ _ (heap_alloc_new _ _)]; rfl⟩
end Go.Proofs.YtfhjnfocmlndpaaDoor
