/- Keep's held, made, proved. -/
import Derived.Test.YtfhjnfocmlndpaaDoorTProve
import Derived.Test.YtfhjnfocmlndpaaDoorTIdx
import Derived.Test.YtfhjnfocmlndpaaDoorRepeat
namespace Go.Proofs.YtfhjnfocmlndpaaDoor
open Go Go.RowKit Go.Proofs Go.Shelf

def rep16 (c : UInt8) : ByteArray := ⟨#[c, c, c, c, c, c, c, c, c, c, c, c, c, c, c, c]⟩
theorem rep16_size (c : UInt8) : (rep16 c).size = 16 := rfl
def RepPost (c : UInt8) (w : World) (e : Ending) (w' : World) : Prop := e = .returned (.string (rep16 c)) ∧ Below w.heap.size w w'
theorem rep_0 (w : World) : Calls Tryd.prog 134 #[.string ⟨#[0]⟩, .int .i64 16] w (RepPost 0 w) := Any.strings_Repeat_main Tryd.lays105 Tryd.extra105 ⟨#[0]⟩ 16 w (by decide) (by decide) (by decide) (by decide)
theorem rep_1 (w : World) : Calls Tryd.prog 134 #[.string ⟨#[1]⟩, .int .i64 16] w (RepPost 1 w) := Any.strings_Repeat_main Tryd.lays105 Tryd.extra105 ⟨#[1]⟩ 16 w (by decide) (by decide) (by decide) (by decide)
theorem rep_255 (w : World) : Calls Tryd.prog 134 #[.string ⟨#[255]⟩, .int .i64 16] w (RepPost 255 w) := Any.strings_Repeat_main Tryd.lays105 Tryd.extra105 ⟨#[255]⟩ 16 w (by decide) (by decide) (by decide) (by decide)
theorem rep_c (w : World) : Calls Tryd.prog 134 #[.string ⟨#[99]⟩, .int .i64 16] w (RepPost 99 w) := Any.strings_Repeat_main Tryd.lays105 Tryd.extra105 ⟨#[99]⟩ 16 w (by decide) (by decide) (by decide) (by decide)
theorem rep_d (w : World) : Calls Tryd.prog 134 #[.string ⟨#[100]⟩, .int .i64 16] w (RepPost 100 w) := Any.strings_Repeat_main Tryd.lays105 Tryd.extra105 ⟨#[100]⟩ 16 w (by decide) (by decide) (by decide) (by decide)

/-! ### held -/
def heldB (x : It) : Bool := decide (40 < x.ix.size) || decide (40 < x.cm.size)
theorem heldp_any (x : It) (w : World) : Calls Tryd.prog 135 #[x.val] w (BoolPost (heldB x) w) := by
  have hb : Below w.heap.size w (w.alloc (.cells #[.string x.ix, .string x.cm] 49)) := (Below.refl _ _).alloc (Nat.le_refl _) _
  unfold BoolPost heldB It.val
  by_cases h1 : 40 < x.ix.size
  · have e1 : (40 : Int) < x.ix.size := by omega
    rw [decide_eq_true h1, Bool.true_or]
    clear h1
    go_enter Tryd.func135, Tryd.ntmps135
    go_wp2_with fail
    go_ret
    exact ⟨rfl, hb⟩
  · have e1 : ¬ (40 : Int) < x.ix.size := by omega
    rw [decide_eq_false h1, Bool.false_or]
    by_cases h2 : 40 < x.cm.size
    · have e2 : (40 : Int) < x.cm.size := by omega
      rw [decide_eq_true h2]
      clear h1 h2
      go_enter Tryd.func135, Tryd.ntmps135
      go_wp2_with fail
      go_ret
      exact ⟨rfl, hb⟩
    · have e2 : ¬ (40 : Int) < x.cm.size := by omega
      rw [decide_eq_false h2]
      clear h1 h2
      go_enter Tryd.func135, Tryd.ntmps135
      go_wp2_with fail
      go_ret
      exact ⟨rfl, hb⟩
/-- few, and short -/
def heldI (l : List It) : Bool := decide (l.length ≤ 40) && !l.any heldB
set_option maxRecDepth 20000 in
theorem held_any (v : Value) (l : List It) (w : World) (hv : IReads w v l) : Calls Tryd.prog 72 #[v] w (BoolPost (heldI l) w) := by
  unfold BoolPost heldI
  by_cases h : l.length ≤ 40
  · have HH := Lib.hid (ihas_gen 135 #[] (enters_of Tryd.func135 (by kernel_rfl) rfl) heldB v l w hv (by omega) (fun x _ W _ => heldp_any x W))
    obtain ⟨a, cap, rfl, -⟩ := hv.shape
    rw [decide_eq_true h, Bool.true_and]
    unfold BoolPost at HH
    generalize l.any heldB = c at *
    obtain ⟨n, hn⟩ : ∃ n, n = l.length := ⟨_, rfl⟩
    rw [← hn] at h HH ⊢
    have e1 : (n : Int) ≤ 40 := by omega
    clear hv h hn
    go_enter Tryd.func72, Tryd.ntmps72
    go_wp2_with (go_at_call 81; refine HH.out.mono ?_; rintro e w1 ⟨rfl, hB1⟩)
    go_ret
    exact ⟨rfl, hB1⟩
  · obtain ⟨a, cap, rfl, -⟩ := hv.shape
    rw [decide_eq_false h, Bool.false_and]
    obtain ⟨n, hn⟩ : ∃ n, n = l.length := ⟨_, rfl⟩
    rw [← hn] at h ⊢
    have e1 : ¬ (n : Int) ≤ 40 := by omega
    have e2 : (40 : Int) < n := by omega
    clear hv h hn
    go_enter Tryd.func72, Tryd.ntmps72
    go_wp2_with fail
    go_ret
    exact ⟨rfl, Below.refl _ _⟩

/-! ### made -/
def MadePost (l : List It) (w : World) (e : Ending) (w' : World) : Prop := ∃ v', e = .returned v' ∧ IReads w' v' (madeI l) ∧ Below w.heap.size w w'
set_option maxRecDepth 20000 in
set_option maxHeartbeats 2000000 in
theorem made_any (v : Value) (l : List It) (w : World) (hv : IReads w v l) (hl : l.length ≤ 1000) : Calls Tryd.prog 74 #[v] w (MadePost l w) := by
  obtain ⟨a, cap, rfl, -⟩ := hv.shape
  obtain ⟨n, hn⟩ : ∃ n, n = l.length := ⟨_, rfl⟩
  rw [← hn]
  have Hv := Lib.hid (hn ▸ hv : IReads w (.slice a n cap) l)
  have Hn := Lib.hid hn
  have hn1000 : n ≤ 1000 := by omega
  unfold MadePost
  clear hv hn hl
  go_enter Tryd.func74, Tryd.ntmps74
  go_wp2_with fail
  go_loopw [3, 4] (fun o i wr => ∃ (k : Nat) (u : Value), k ≤ n ∧ i = .int .i64 k ∧ u = o ∧ Below w.heap.size w wr ∧ IReads wr u (madeI (l.take k))) (fun _ i _ => n - (intOf i).toNat)
  case atStart => exact ⟨0, _, Nat.zero_le _, rfl, rfl, Below.refl _ _, IReads.nil _ _ _⟩
  case round =>
    obtain ⟨k, u, hk, rfl, rfl, hBw, hr⟩ := hrel
    have HB := Lib.hid hBw
    have HR := Lib.hid hr
    clear hBw hr
    by_cases hlt : k < n
    · have hkl : k < l.length := by have := Hn.out; omega
      obtain ⟨x, hx⟩ : ∃ x, l[k]? = some x := ⟨l[k], List.getElem?_eq_getElem hkl⟩
      obtain ⟨b, off, rfl, c0, c1⟩ := (Hv.out.mono HB.out).at hx
      have hts : Hid (madeI (l.take (k + 1)) = stepI (madeI (l.take k)) x) := by
        unfold Hid
        rw [List.take_succ_eq_append_getElem hkl, madeI_snoc]
        congr 1
        exact (List.getElem?_eq_some_iff.1 hx).2
      have HS := Lib.hid (tset_any u (madeI (l.take k)) x wr HR.out)
      unfold SetPost It.val at HS
      generalize madeI (l.take k) = m at *
      clear hx
      by_cases hK : setK m x = 0
      · have hst : Hid (madeI (l.take (k + 1)) = setO m x) := by unfold Hid; rw [hts.out]; unfold stepI setO; rw [if_pos hK, if_pos hK]
        rw [hK, errV_0] at HS
        clear hts hK
        go_wp2_with (go_at_call 136; refine HS.out.mono ?_; rintro e w1 ⟨v1, rfl, hr1, hB1⟩; have HR1 := Lib.hid hr1; clear hr1)
        go_roundw
        case rel => exact ⟨k + 1, v1, by omega, by go_num, rfl, HB.out.trans (hB1.mono HB.out.size), by rw [hst.out]; exact HR1.out⟩
        case measure => simp [intOf]; omega
      · have hst : Hid (madeI (l.take (k + 1)) = m) := by unfold Hid; rw [hts.out]; unfold stepI; rw [if_neg hK]
        have hev : errV (setK m x) = .iface 31 (.int .i64 (setK m x)) := by unfold errV; rw [if_neg hK]
        rw [hev] at HS
        generalize setK m x = kk at *
        clear hts hK hev
        go_wp2_with (go_at_call 136; refine HS.out.mono ?_; rintro e w1 ⟨v1, rfl, hr1, hB1⟩; clear hr1)
        go_roundw
        case rel => exact ⟨k + 1, u, by omega, by go_num, rfl, HB.out.trans (hB1.mono HB.out.size), by rw [hst.out]; exact HR.out.mono hB1⟩
        case measure => simp [intOf]; omega
    · have hd1 : decide (k < n) = false := decide_eq_false hlt
      have hfin : Hid (madeI l = madeI (l.take k)) := by unfold Hid; rw [List.take_of_length_le (by have := Hn.out; omega)]
      go_wp2_with fail
      go_ret
      exact ⟨u, rfl, by rw [hfin.out]; exact HR.out, HB.out⟩

/-! ### proved -/
def xProved : It := ⟨rep16 0, rep16 99⟩
theorem right_proved : rightI [xProved] = true := by rw [rightI_one]; decide
theorem root_proved : rootS [xProved] = leafS (rep16 0) (rep16 99) 0 ∧ rootK [xProved] = 0 := by
  unfold rootS rootK
  rw [right_proved, if_pos rfl, if_pos rfl, nodeS_one]
  exact ⟨rfl, rfl⟩
theorem prov_proved : provK [xProved] (rep16 0) = 0 ∧ provPath [xProved] (rep16 0) = [] ∧ provLeaf [xProved] (rep16 0) = xProved := by
  have h0 : provK [xProved] (rep16 0) = 0 := by unfold provK; rw [if_pos ⟨right_proved, rfl⟩]
  refine ⟨h0, ?_, ?_⟩
  · unfold provPath; rw [h0]; rfl
  · unfold provLeaf; rw [h0]; rfl
theorem right_leaf (ix : ByteArray) (h : ix.size = 16) : rightP ix [] (rep16 0) (rep16 99) := ⟨h, by simp, by simp, .inr ⟨rfl, by simp, rfl⟩⟩
theorem ver_leaf (ix : ByteArray) (h : ix.size = 16) : prootS ix [] (rep16 0) (rep16 99) = leafS (rep16 0) (rep16 99) 0 ∧ prootK ix [] (rep16 0) (rep16 99) = 0 := by
  unfold prootS prootK
  rw [if_pos (right_leaf ix h), if_pos (right_leaf ix h)]
  refine ⟨?_, rfl⟩
  unfold leadS leadTo startS
  rw [if_neg (by rw [rep16_size]; decide)]
  rfl
theorem ver_proved : pverS (leafS (rep16 0) (rep16 99) 0) (rep16 0) [] (rep16 0) (rep16 99) = rep16 99 ∧ pverB (leafS (rep16 0) (rep16 99) 0) (rep16 0) [] (rep16 0) (rep16 99) = true ∧ pverK (leafS (rep16 0) (rep16 99) 0) (rep16 0) [] (rep16 0) (rep16 99) = 0 := by
  obtain ⟨h1, h2⟩ := ver_leaf (rep16 0) rfl
  unfold pverS pverB pverK
  rw [h1, h2]
  simp
theorem ver_other : pverB (leafS (rep16 0) (rep16 99) 0) (rep16 1) [] (rep16 0) (rep16 99) = false ∧ pverK (leafS (rep16 0) (rep16 99) 0) (rep16 1) [] (rep16 0) (rep16 99) = 0 := by
  obtain ⟨h1, h2⟩ := ver_leaf (rep16 1) rfl
  have hne : ¬ rep16 0 = rep16 1 := fun e => by have := congrArg (fun b : ByteArray => b.data.toList.head?) e; simp [rep16] at this
  unfold pverB pverK
  rw [h1, h2]
  simp [hne]

/-- two cells of a row -/
structure Pair (w : World) (b : Nat) (x y : Value) : Prop where
  c0 : w.cell? ⟨b, 0, none⟩ = some x
  c1 : w.cell? ⟨b, 1, none⟩ = some y
theorem Pair.mono {w w' : World} {b : Nat} {x y : Value} (h : Pair w b x y) (hb : Below w.heap.size w w') : Pair w' b x y := ⟨by rw [hb.cell (by exact World.block_lt_of_cell? _ _ h.c0)]; exact h.c0, by rw [hb.cell (by exact World.block_lt_of_cell? _ _ h.c1)]; exact h.c1⟩
theorem Pair.new (w : World) (x y : Value) (T : TypeId) : Pair (w.alloc (.cells #[x, y] T)) w.heap.size x y := ⟨by rw [cell_of_row _ _ _ _ _ _ (heap_alloc_new _ _)]; rfl, by rw [cell_of_row _ _ _ _ _ _ (heap_alloc_new _ _)]; rfl⟩
set_option maxRecDepth 100000 in
set_option maxHeartbeats 4000000 in
theorem proved_any (w : World) (hk : KAt w 0) : Calls Tryd.prog 84 #[] w (BoolPost true w) := by
  have Hk := Lib.hid hk
  have HR := Lib.hid (fun W B (hB : W.heap.size = B) (hW : KAt W 0) => hB ▸ troot_any _ [xProved] _ (IReads.lit W xProved) (hW.mono ((Below.refl _ _).alloc (Nat.le_refl _) (.cells #[.string (rep16 0), .string (rep16 99)] 49))))
  have HP := Lib.hid (fun W B (hB : W.heap.size = B) (hW : KAt W 0) => hB ▸ tprove_any _ [xProved] (rep16 0) _ (IReads.lit W xProved) (hW.mono ((Below.refl _ _).alloc (Nat.le_refl _) (.cells #[.string (rep16 0), .string (rep16 99)] 49))))
  have HV := Lib.hid (fun root ix v W (hv : TReads W v []) hK => pverify_any root ix v [] (rep16 0) (rep16 99) W hv.reads (by decide) hK)
  unfold StrPost at HR
  unfold ProvePost at HP
  rw [root_proved.1, root_proved.2, errV_0] at HR
  rw [prov_proved.1, prov_proved.2.1, prov_proved.2.2, errV_0] at HP
  have hx0 : xProved.ix = rep16 0 := rfl
  have hx1 : xProved.cm = rep16 99 := rfl
  rw [hx0, hx1] at HR HP
  have hv1 := ver_proved
  have hv2 := ver_other
  have HV1 := Lib.hid (fun v W (hv : TReads W v []) hK => HV.out (leafS (rep16 0) (rep16 99) 0) (rep16 0) v W hv hK)
  have HV2 := Lib.hid (fun v W (hv : TReads W v []) hK => HV.out (leafS (rep16 0) (rep16 99) 0) (rep16 1) v W hv hK)
  rw [hv1.1, hv1.2.1, hv1.2.2, errV_0] at HV1
  rw [hv2.1, hv2.2, errV_0] at HV2
  have H0 := Lib.hid rep_0
  have H1 := Lib.hid rep_1
  have Hc := Lib.hid rep_c
  unfold RepPost at H0 H1 Hc
  generalize pverS (leafS (rep16 0) (rep16 99) 0) (rep16 1) [] (rep16 0) (rep16 99) = PS at *
  generalize leafS (rep16 0) (rep16 99) 0 = L at *
  generalize rep16 0 = r0 at *
  generalize rep16 1 = r1 at *
  generalize rep16 99 = rc at *
  have hRf := Below.refl w.heap.size w
  clear hk HV hv1 hv2 hx0 hx1
  unfold BoolPost
  go_enter Tryd.func84, Tryd.ntmps84
  go_wp2_with (first
    | (go_at_call 134; with_reducible refine (H0.out _).mono ?_; rintro e w1 ⟨rfl, hB1⟩)
    | (go_at_call 134; with_reducible refine (Hc.out _).mono ?_; rintro e w2 ⟨rfl, hB2⟩; have hC2 := hB1.trans (hB2.mono hB1.size)))
  have hC3 : Below w.heap.size w (w2.alloc (.cells #[.string r0, .string rc] 49)) := hC2.alloc hC2.size _
  have hX3 := Pair.new w2 (.string r0) (.string rc) 49
  have hb3 : Below (w2.alloc (.cells #[.string r0, .string rc] 49)).heap.size (w2.alloc (.cells #[.string r0, .string rc] 49)) ((w2.alloc (.cells #[.string r0, .string rc] 49)).alloc (.cells #[.string r0, .string rc] 49)) := (Below.refl _ _).alloc (Nat.le_refl _) _
  refine (HR.out _ _ (by simp) (Hk.out.mono hC3)).mono ?_
  rintro e w4 ⟨rfl, hB4⟩
  have hG4 := hb3.trans (hB4.mono hb3.size)
  have hC4 := hC3.trans (hG4.mono hC3.size)
  have hX4 := hX3.mono hG4
  obtain ⟨a0, a1⟩ := hX4
  have HX4 : Hid (Pair w4 w2.heap.size (.string r0) (.string rc)) := ⟨a0, a1⟩
  have hl4 : w2.heap.size < w4.heap.size := World.block_lt_of_cell? _ _ a0
  clear hG4 hB4 hb3 hX3
  go_wp2_with fail
  refine (HP.out _ _ rfl (Hk.out.mono hC4)).mono ?_
  rintro e w5 ⟨pv, rfl, hT5, hB5⟩
  have hb4 : Below w4.heap.size w4 (w4.alloc (.cells #[.string r0, .string rc] 49)) := (Below.refl _ _).alloc (Nat.le_refl _) _
  have hG5 := hb4.trans (hB5.mono hb4.size)
  have hC5 := hC4.trans (hG5.mono hC4.size)
  have hX5 := HX4.out.mono hG5
  obtain ⟨pa, pc, rfl⟩ : ∃ a c, pv = .slice a 0 c := by
    rcases hT5.reads.2 with ⟨_, a, c, rfl⟩ | ⟨b, off, cap, rfl, _⟩
    · exact ⟨a, c, rfl⟩
    · exact ⟨_, cap, rfl⟩
  have HT5 := Lib.hid hT5
  have HX5 := Lib.hid hX5
  have hP6 := Row3.of_row (T := 51) (heap_alloc_new w5 (.cells #[.slice pa 0 pc, .string r0, .string rc] 51))
  have hb5 : Below w5.heap.size w5 (w5.alloc (.cells #[.slice pa 0 pc, .string r0, .string rc] 51)) := (Below.refl _ _).alloc (Nat.le_refl _) _
  have hC6 := hC5.trans (hb5.mono hC5.size)
  have hX6 := hX5.mono hb5
  have HT6 := Lib.hid (hT5.mono hb5)
  obtain ⟨a0, a1⟩ := hX6
  obtain ⟨W6, hW6⟩ : ∃ W6, W6 = w5.alloc (.cells #[.slice pa 0 pc, .string r0, .string rc] 51) := ⟨_, rfl⟩
  have HP6 := Lib.hid hP6
  obtain ⟨p0, p1, p2, -, -, -⟩ := hP6
  clear hT5 hX5 hb5 hG5 hB5 hb4
  go_wp2_with fail
  rw [← hW6]
  refine (HV1.out _ _ (by rw [hW6]; exact HT6.out) (Hk.out.mono (by rw [hW6]; exact hC6))).mono ?_
  rintro e w7 ⟨rfl, hB7⟩
  rw [← hW6] at HT6 HP6 hC6 a0 a1 p0 p1 p2
  have hX7 := (⟨a0, a1⟩ : Pair W6 w2.heap.size (.string r0) (.string rc)).mono hB7
  have hP7 := HP6.out.mono hB7
  have hC7 := hC6.trans (hB7.mono hC6.size)
  have HT7 := Lib.hid (HT6.out.mono hB7)
  clear a0 a1 p0 p1 p2 hW6 hB7
  obtain ⟨a0, a1⟩ := hX7
  obtain ⟨p0, p1, p2, -, -, -⟩ := hP7
  go_wp2_with fail
  have x0 := fun z : Grown w7 => z.cell p0
  have x1 := fun z : Grown w7 => z.cell p1
  have x2 := fun z : Grown w7 => z.cell p2
  refine wp_region_grown (by kernel_rfl) (by kernel_rfl) ?_
  repeat (quiet_step (first
    | (go_at_call 134; rename_i z; exact Grown.call z (H1.out _))
    | (go_at_call 37; rename_i z; exact Grown.call z (HV2.out _ _ (HT7.out.mono z.below) (Hk.out.mono (hC7.trans (z.below.mono hC7.size)))))))
  refine wpQuiet_nil ?_
  intro z
  have hC8 := hC7.trans (z.below.mono hC7.size)
  generalize z.val = w8 at hC8 ⊢
  clear x0 x1 x2
  go_wp2_with fail
  go_ret
  exact ⟨rfl, hC8⟩
end Go.Proofs.YtfhjnfocmlndpaaDoor
