/- Heads: which may be, and their marks (the reference's). -/
import Derived.Test.YtfhjnfocmlndpaaDoorSjChain
import Derived.Test.YtfhjnfocmlndpaaDoorSjOnceQ
namespace Go.Proofs.YtfhjnfocmlndpaaDoor
open Go Go.RowKit Go.Proofs
section
variable {P : Program} {ops : Array Oper} {md : Region.Mode} {C : World → Prop}
def sinkFrom (md : Region.Mode) (ops : Array Oper) (m n : Nat) : Bool :=
  (List.range n).all fun i => decide (i < m) || (List.range (n + 1)).any fun j => decide (i < j) && Region.waitsFor md ops j i
theorem tail_waitsM {m n : Nat} {listed : Array Bool} (hs : sinkFrom md ops m n = true) (hc : Region.chainB md ops n = true) (hn : n < ops.size) (inv : HeadInv md ops n listed) :
    ∀ (d i : Nat), n - i = d → m ≤ i → i < n → listed.getD i true = false → ∀ t, n ≤ t → t ∉ Region.ready md ops listed := by
  intro d
  induction d using Nat.strongRecOn with
  | _ d ih =>
    intro i hd him hi hun t ht hr
    obtain ⟨_, ot, hot, hall⟩ := mem_ready.1 hr
    have htlt : t < ops.size := (Array.getElem?_eq_some_iff.1 hot).1
    by_cases htn : t = n
    · subst htn
      have h1 := List.all_eq_true.1 hs i (List.mem_range.2 hi)
      rw [decide_eq_false (by omega), Bool.false_or] at h1
      obtain ⟨j, hj, hj2⟩ := List.any_eq_true.1 h1
      simp only [Bool.and_eq_true, decide_eq_true_eq] at hj2
      obtain ⟨oj, hoj, e, he, hb, hon⟩ := Region.waitsFor_spec hj2.2
      have hjle : j ≤ t := by have := List.mem_range.1 hj; omega
      by_cases hjt : j = t
      · subst hjt
        have : oj = ot := Option.some.inj (hoj.symm.trans hot)
        subst this
        have h2 := hall e he hb
        rw [hon, getD_both hun] at h2
        cases h2
      · cases hl : listed.getD j false with
        | true =>
          have h2 := inv.closed j oj hoj hl e he hb
          rw [hon, getD_both hun] at h2
          cases h2
        | false =>
          have hjs : j < listed.size := by rw [inv.size]; omega
          exact ih (t - j) (by omega) j rfl (by omega) (by omega) (getD_in hjs hl) t (Nat.le_refl _) hr
    · have h1 := List.all_eq_true.1 hc t (List.mem_range.2 htlt)
      simp only [Bool.or_eq_true, decide_eq_true_eq] at h1
      rcases h1 with h1 | h1
      · omega
      · obtain ⟨o', ho', e, he, hb, hon⟩ := Region.waitsFor_spec h1
        have : o' = ot := Option.some.inj (ho'.symm.trans hot)
        subst this
        have h2 := hall e he hb
        rw [hon, getD_both (inv.tail (t - 1) (by omega) (by omega))] at h2
        cases h2
theorem wpAnyLQ_firstM {m n i : Nat} {oi : Oper} {v : Value} {L : Array Bool → Act → Prop} (hi : ops[i]? = some oi) (hsel : ∀ (j : Nat) (o : Oper) cs b, ops[j]? = some o → o.op ≠ .select cs b)
    (hs : sinkFrom md ops m n = true) (hc : Region.chainB md ops n = true) (hn : n < ops.size) (him : m ≤ i) (hin : i < n)
    (hdone : ∀ listed a, L listed a → ∀ j ∈ Region.ready md ops listed, n ≤ j) :
    ∀ (f : Nat) (listed : Array Bool) (a : Act), HeadInv md ops n listed →
      (∀ j oj, ops[j]? = some oj → j ≠ i → listed.getD j true = false → (∀ e ∈ oj.after, Region.binds md e = true → e.on ≠ i) → oi.apart ops oj = true) →
      i ∈ Region.ready md ops listed → YieldsIn P ops C oi v a →
      wpAnyLQ P md ops C n L f (listed.setIfInBounds i true) (a.put oi.dst v) → wpAnyLQ P md ops C n L (f + 1) listed a := by
  intro f
  induction f with
  | zero =>
    intro listed a inv _ hr hy H
    have hun := (mem_ready.1 hr).1
    refine ⟨fun h => (by rw [h] at hr; cases hr), fun j hj => ?_⟩
    have hjn : j < n := by
      rcases Nat.lt_or_ge j n with h | h
      · exact h
      · exact absurd hj (tail_waitsM hs hc hn inv _ i rfl him hin hun j h)
    refine ⟨hjn, ?_⟩
    by_cases hji : j = i
    · subst hji; exact hy.qOp hi H
    · have := hdone _ _ H j (ready_mono hj hji)
      omega
  | succ f ih =>
    intro listed a inv hfree hr hy H
    have hun := (mem_ready.1 hr).1
    refine ⟨fun h => (by rw [h] at hr; cases hr), fun j hj => ?_⟩
    have hjn : j < n := by
      rcases Nat.lt_or_ge j n with h | h
      · exact h
      · exact absurd hj (tail_waitsM hs hc hn inv _ i rfl him hin hun j h)
    refine ⟨hjn, ?_⟩
    by_cases hji : j = i
    · subst hji; exact hy.qOp hi H
    · have h1 := (H.2 j (ready_mono hj hji)).2
      obtain ⟨hjun, oj, hoj, hall⟩ := mem_ready.1 hj
      have hnot : ∀ e ∈ oj.after, Region.binds md e = true → e.on ≠ i := fun e he hb heq => by
        have h1 := hall e he hb
        rw [heq, getD_both hun] at h1
        cases h1
      have h2 := qOp_put hoj (hfree j oj hoj hji hjun hnot) (fun cs b => hsel i oi cs b hi) (fun cs b => hsel j oj cs b hoj) hy h1
      have hfree' : ∀ k ok, ops[k]? = some ok → k ≠ i → (listed.setIfInBounds j true).getD k true = false →
          (∀ e ∈ ok.after, Region.binds md e = true → e.on ≠ i) → oi.apart ops ok = true := fun k ok hk hki hun hno => by
        refine hfree k ok hk hki ?_ hno
        by_cases hjk : j = k
        · subst hjk; exact hjun
        · rw [getD_set_ne true hjk] at hun; exact hun
      refine qOp_mono (fun a' h3 => ih (listed.setIfInBounds j true) a' (inv.set hj hjn) hfree' (ready_mono hr (Ne.symm hji)) h3.1 ?_) h2
      rw [Array.setIfInBounds_comm _ _ hji]
      exact h3.2
theorem wpAnyLQ_lexM {m n g : Nat} {Lq : Act → Prop} (hsel : Region.noSelect ops = true) (hs : sinkFrom md ops m n = true) (hc : Region.chainB md ops n = true) (hn : n < ops.size) :
    ∀ (l : List Oper) (k : Nat) (listed : Array Bool) (a : Act), (∀ j, j < l.length → l[j]? = ops[k + j]?) → k + l.length = n → m ≤ k → HeadInv md ops n listed →
    Region.lexHead md ops g l.length k listed = true → wpQuiet P ops C Lq l a →
    wpAnyLQ P md ops C n (fun listed' a' => Region.seqB md ops g n listed' = true ∧ Lq a') l.length listed a
  | [], k, listed, a, _, hk, _, _, hB, h => by
    have : k = n := by simpa using hk
    subst this
    exact ⟨by simpa [Region.lexHead] using hB, h⟩
  | o :: l, k, listed, a, hl, hk, hmk, inv, hB, h => by
    have h0 : ops[k]? = some o := by simpa using (hl 0 (by simp)).symm
    simp only [List.length_cons, Region.lexHead, Bool.and_eq_true] at hB
    obtain ⟨⟨hr, hf⟩, hB'⟩ := hB
    have hkn : k < n := by simp only [List.length_cons] at hk; omega
    have hr' : k ∈ Region.ready md ops listed := by simpa using hr
    have hst : qOp P ops C k (wpQuiet P ops C Lq l) a := by unfold qOp; simp only [h0]; exact h
    obtain ⟨v, hy, hK⟩ := yieldsIn_of_qOp h0 hst
    exact wpAnyLQ_firstM h0 (Region.noSelect_spec hsel) hs hc hn hmk hkn (fun listed' a' hL => seqB_ready hL.1) l.length listed a inv (Region.free_spec h0 hf) hr' hy
      (wpAnyLQ_lexM hsel hs hc hn l (k + 1) _ _ (fun j hj => by have := hl (j + 1) (by simp; omega); simpa [Nat.add_assoc, Nat.add_comm 1 j] using this) (by simp only [List.length_cons] at hk; omega) (by omega) (inv.set hr' hkn) hB' hK)

/-- that the listed ones are closed, and none of the tail is: to be decided -/
def headInvB (md : Region.Mode) (ops : Array Oper) (n : Nat) (listed : Array Bool) : Bool :=
  decide (listed.size = ops.size) && ((List.range ops.size).all fun j => !listed.getD j false || match ops[j]? with
    | some oj => oj.after.all fun e => !Region.binds md e || listed.getD e.on false
    | none => true) && (List.range ops.size).all fun t => decide (t < n) || !listed.getD t true
theorem headInv_of {n : Nat} {listed : Array Bool} (h : headInvB md ops n listed = true) : HeadInv md ops n listed := by
  simp only [headInvB, Bool.and_eq_true, decide_eq_true_eq, List.all_eq_true, List.mem_range] at h
  obtain ⟨⟨h1, h2⟩, h3⟩ := h
  refine ⟨h1, fun j oj hj hl e he hb => ?_, fun t ht hts => ?_⟩
  · have := h2 j (Array.getElem?_eq_some_iff.1 hj).1
    rw [hj, hl] at this
    simp only [Bool.not_true, Bool.false_or] at this
    have h4 := Array.all_eq_true_iff_forall_mem.1 this e he
    rw [hb] at h4
    simpa using h4
  · have := h3 t hts
    rw [decide_eq_false (by omega)] at this
    simpa using this
def lexTailM (md : Region.Mode) (ops : Array Oper) (m n : Nat) (listed : Array Bool) : Bool :=
  Region.noSelect ops && decide (n < ops.size) && decide (m ≤ n) && sinkFrom md ops m n && Region.chainB md ops n && Region.lexHead md ops (ops.size - n) (n - m) m listed && headInvB md ops n listed
theorem wpAny_grown_tail {fuel : Nat} {listed : Array Bool} {Q' : Exit → Act → World → Prop} {a : Act} {w0 w : World} (m n : Nat) (hB : (lexTailM md ops m n listed && decide (fuel = ops.size - m)) = true) (hw : Below w0.heap.size w0 w)
    (h : wpQuiet P ops (fun w' => ∃ x : Grown w0, w' = x.val) (fun a' => ∀ x : Grown w0, wpList P ops Q' (ops.toList.drop n) a' x.val) ((ops.toList.take n).drop m) a) : wpAny P md ops Q' fuel listed a w := by
  simp only [lexTailM, Bool.and_eq_true, decide_eq_true_eq] at hB
  obtain ⟨⟨⟨⟨⟨⟨⟨hsel, hn⟩, hmn⟩, hs⟩, hc⟩, hlex⟩, hinv⟩, hfu⟩ := hB
  have hls : ops.toList.length = ops.size := by simp
  have htl : ((ops.toList.take n).drop m).length = n - m := by simp; omega
  have hdl : (ops.toList.drop n).length = ops.size - n := by simp
  have H := wpAnyLQ_lexM (md := md) (g := ops.size - n) (Lq := fun a' => ∀ x : Grown w0, wpList P ops Q' (ops.toList.drop n) a' x.val) hsel hs hc hn ((ops.toList.take n).drop m) m listed a (fun j hj => by
    have hj' : j < n - m := by rw [htl] at hj; exact hj
    simp [List.getElem?_drop, show m + j < n from by omega]) (by omega) (Nat.le_refl _) (headInv_of hinv) (by rw [htl]; exact hlex) h
  have := wpAny_of_headQ (Q' := Q') (g := ops.size - n) (C := fun w' => ∃ x : Grown w0, w' = x.val) (fun listed a' w' hw' hL => by
    obtain ⟨x, rfl⟩ := hw'
    have := wpAny_of_seq (md := md) (Q' := Q') (ops.toList.drop n) n listed a' x.val (fun j => by simp [List.getElem?_drop]) (by rw [hdl]; exact hL.1) (hL.2 x)
    rwa [hdl] at this) _ _ _ w ⟨⟨w, hw⟩, rfl⟩ H
  rw [htl, show n - m + (ops.size - n) = fuel by omega] at this
  exact this
end
end Go.Proofs.YtfhjnfocmlndpaaDoor

namespace Go.Proofs.YtfhjnfocmlndpaaDoor
open Go Go.RowKit Go.Proofs

theorem rright_any (h : Hd) (w : World) : Calls Tryd.prog 64 #[h.val] w fun e w' => e = .returned (.bool h.right) ∧ Below w.heap.size w w' := by
  obtain ⟨ep, root, prev⟩ := h
  unfold Hd.val Hd.right
  have hb : Below w.heap.size w (w.alloc (.cells #[.int .i64 ep, .string root, .string prev] 63)) := (Below.refl _ _).alloc (Nat.le_refl _) _
  have HMr := Lib.hid (fun W => rmk_any root W)
  have HMp := Lib.hid (fun W => rmk_any prev W)
  dsimp only
  by_cases h1 : 1 ≤ ep
  · have h0 : 0 < ep := by omega
    rw [decide_eq_true h1]
    cases h2 : decide (root.size = 16) with
    | false =>
      rw [h2] at HMr
      go_enter Tryd.func64, Tryd.ntmps64
      go_wp2_with (first
        | (go_at_call 98; with_reducible refine (HMr.out _).mono ?_; rintro e w1 ⟨rfl, hw⟩; have hw2 := hw.symm; subst hw2))
      go_ret
      exact ⟨rfl, hb⟩
    | true =>
      rw [h2] at HMr
      cases h3 : decide (prev.size = 16) with
      | false =>
        rw [h3] at HMp
        go_enter Tryd.func64, Tryd.ntmps64
        go_wp2_with (first
          | (go_at_call 98; with_reducible refine (HMr.out _).mono ?_; rintro e w1 ⟨rfl, hw⟩; have hw2 := hw.symm; subst hw2)
          | (go_at_call 98; with_reducible refine (HMp.out _).mono ?_; rintro e w1 ⟨rfl, hw⟩; have hw2 := hw.symm; subst hw2))
        go_ret
        exact ⟨rfl, hb⟩
      | true =>
        rw [h3] at HMp
        go_enter Tryd.func64, Tryd.ntmps64
        go_wp2_with (first
          | (go_at_call 98; with_reducible refine (HMr.out _).mono ?_; rintro e w1 ⟨rfl, hw⟩; have hw2 := hw.symm; subst hw2)
          | (go_at_call 98; with_reducible refine (HMp.out _).mono ?_; rintro e w1 ⟨rfl, hw⟩; have hw2 := hw.symm; subst hw2))
        go_ret
        exact ⟨rfl, hb⟩
  · have h0 : ¬ 0 < ep := by omega
    rw [decide_eq_false h1]
    go_enter Tryd.func64, Tryd.ntmps64
    go_wp2_with fail
    go_ret
    exact ⟨rfl, hb⟩

set_option maxHeartbeats 1000000 in
theorem rhmark_any (r : Nat) (h : Hd) (w : World) (hh : h.Held) (hr0 : RAt w r) :
    Calls Tryd.prog 61 #[.pointer (some ⟨r, 0, none⟩), h.val] w fun e w' => e = .returned (.tuple #[.string (hmarkS h), .int .i64 (hmarkK h)]) ∧ Below w.heap.size w w' := by
  have HR := Lib.hid (fun W => rright_any h W)
  have HH := Lib.hid hh
  have Hr := Lib.hid hr0
  have hb : Below w.heap.size w (w.alloc (.cells #[.int .i64 h.epoch, .string h.root, .string h.prev] 63)) := (Below.refl _ _).alloc (Nat.le_refl _) _
  clear hh hr0
  unfold hmarkS hmarkK
  unfold Hd.val at *
  cases hr : h.right with
  | false =>
    rw [hr] at HR
    go_enter Tryd.func61, Tryd.ntmps61
    go_wp2_with (go_at_call 64; refine (HR.out _).mono ?_; rintro e w1 ⟨rfl, hB1⟩)
    go_ret2
    exact ⟨rfl, hb.trans (hB1.mono hb.size)⟩
  | true =>
    rw [hr] at HR
    have HO : Hid (headS h = markS 104 [numS h.epoch, h.root, h.prev]) := rfl
    generalize headS h = M at *
    go_enter Tryd.func61, Tryd.ntmps61
    go_wp2_with (go_at_call 64; refine (HR.out _).mono ?_; rintro e w1 ⟨rfl, hB1⟩)
    have hC1 := hb.trans (hB1.mono hb.size)
    have k0 : w1.cell? ⟨w.heap.size, 0, none⟩ = some (.int .i64 h.epoch) := by rw [hB1.cell (by simp), cell_of_row _ _ _ _ _ _ (heap_alloc_new _ _)]; rfl
    have k1 : w1.cell? ⟨w.heap.size, 1, none⟩ = some (.string h.root) := by rw [hB1.cell (by simp), cell_of_row _ _ _ _ _ _ (heap_alloc_new _ _)]; rfl
    have k2 : w1.cell? ⟨w.heap.size, 2, none⟩ = some (.string h.prev) := by rw [hB1.cell (by simp), cell_of_row _ _ _ _ _ _ (heap_alloc_new _ _)]; rfl
    have x0 := fun x : Grown w1 => x.cell k0
    have x1 := fun x : Grown w1 => x.cell k1
    have x2 := fun x : Grown w1 => x.cell k2
    clear k0 k1 k2
    refine wp_region_any (by kernel_rfl) ?_
    refine wpAny_take (i := 0) (v := ?_) rfl (by kernel_rfl) (by kernel_rfl) (by kernel_rfl) (fun _ _ _ h => h) (Or.inl ⟨by rfl, ?_⟩) ?_
    case refine_2 => intro w; go_simp <;> with_reducible rfl
    refine wpAny_grown_tail (w0 := w1) 1 8 (by kernel_rfl) (belowN (Below.refl _ _) 1) ?_
    simp only [List.take_succ_cons, List.take_zero, List.drop_succ_cons, List.drop_zero]
    repeat (quiet_step ((go_at_call 20; exact Grown.call _ (rnum_any _ _ HH.out.lo HH.out.hi))))
    refine wpQuiet_nil ?_
    intro x
    have hX := hC1.trans (x.below.mono hC1.size)
    generalize x.val = wx at hX
    have hn1 := numS_size h.epoch
    have hn2 := HH.out.root
    have hn3 := HH.out.prev
    go_wp2_with (first
      | (go_at_call 22; refine (rmark3 r 104 _ rfl _ _ _ _ (by omega) (by omega) (by omega) (Hr.out.mono hX)).mono ?_; rw [← HO.out]; rintro e w2 ⟨rfl, hB2⟩))
    go_ret2
    exact ⟨rfl, hX.trans (hB2.mono hX.size)⟩
end Go.Proofs.YtfhjnfocmlndpaaDoor
