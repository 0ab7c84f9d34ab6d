/- The law ProofThere: it returns true. -/
import Derived.Test.YtfhjnfocmlndpaaDoorTKeep
namespace Go.Proofs.YtfhjnfocmlndpaaDoor
open Go Go.RowKit Go.Proofs Go.Shelf

/-- which texts are asked -/
def asksI (ix : ByteArray) (a : List It) : List ByteArray := ix :: a.map It.ix
theorem asksI_length (ix : ByteArray) (a : List It) : (asksI ix a).length = a.length + 1 := by simp [asksI]
def isI (q : ByteArray) (x : It) : Bool := decide (x.ix = q)
theorem right_uniq {a : List It} (h : rightI a = true) {x y : It} (hx : x ∈ a) (hy : y ∈ a) (he : x.ix = y.ix) : x = y := by
  have hr := ((rightI_iff a).1 h).2.2
  obtain ⟨i, hi, rfl⟩ := List.mem_iff_getElem.1 hx
  obtain ⟨j, hj, rfl⟩ := List.mem_iff_getElem.1 hy
  rcases Nat.lt_trichotomy i j with h1 | h1 | h1
  · exact absurd he (ltB_ne (List.pairwise_iff_getElem.1 hr i j hi hj h1))
  · subst h1; rfl
  · exact absurd he.symm (ltB_ne (List.pairwise_iff_getElem.1 hr j i hj hi h1))
/-- what is found of an index -/
theorem there_cases {a : List It} (h : rightI a = true) {q : ByteArray} (hq : q.size = 16) :
    (∃ (k : Nat) (x : It), idxI (isI q) a = (k : Int) ∧ a[k]? = some x ∧ pverB (nodeS a 0) q (proveP a q) (leafI (proveL a q)).ix (leafI (proveL a q)).cm = true ∧ pverS (nodeS a 0) q (proveP a q) (leafI (proveL a q)).ix (leafI (proveL a q)).cm = x.cm) ∨
    (idxI (isI q) a = -1 ∧ pverB (nodeS a 0) q (proveP a q) (leafI (proveL a q)).ix (leafI (proveL a q)).cm = false ∧ pverS (nodeS a 0) q (proveP a q) (leafI (proveL a q)).ix (leafI (proveL a q)).cm = ⟨#[]⟩) := by
  obtain ⟨_, h1, h2⟩ := verify_prove h hq
  rcases idxI_lt (isI q) a with hn | ⟨k, x, hk, hx, hp⟩
  · right
    have hno : ∀ x ∈ a, x.ix ≠ q := fun x hx he => by
      have := idxI_neg hn x hx
      unfold isI at this
      rw [decide_eq_true he] at this
      cases this
    exact ⟨hn, h2 hno⟩
  · left
    have he : x.ix = q := by unfold isI at hp; simpa using hp
    exact ⟨k, x, hk, hx, h1 x (List.mem_of_getElem? hx) he⟩
set_option maxRecDepth 20000 in
theorem isp_any (x : It) (B8 Bi g off cap N k : Nat) (q : ByteArray) (w : World) (h8 : w.cell? ⟨B8, 0, none⟩ = some (.slice (some ⟨g, off, none⟩) N cap)) (hi : w.cell? ⟨Bi, 0, none⟩ = some (.int .i64 k)) (hq : w.cell? ⟨g, off + k, none⟩ = some (.string q)) (hk : k < N) :
    Calls Tryd.prog 87 #[x.val, .pointer (some ⟨B8, 0, none⟩), .pointer (some ⟨Bi, 0, none⟩)] w (BoolPost (isI q x) w) := by
  have hb : Below w.heap.size w (w.alloc (.cells #[.string x.ix, .string x.cm] 49)) := (Below.refl _ _).alloc (Nat.le_refl _) _
  have l1 : B8 < w.heap.size := World.block_lt_of_cell? _ _ h8
  have l2 : Bi < w.heap.size := World.block_lt_of_cell? _ _ hi
  have l3 : g < w.heap.size := World.block_lt_of_cell? _ _ hq
  have e1 : (k : Int) < N := by omega
  have e0 : (0 : Int) ≤ k := by omega
  unfold BoolPost isI It.val
  by_cases h : x.ix = q
  · rw [decide_eq_true h]
    subst h
    go_enter Tryd.func87, Tryd.ntmps87
    go_wp2_with fail
    go_quiet (fail)
    go_wp2_with fail
    go_ret
    exact ⟨rfl, belowN hb _⟩
  · rw [decide_eq_false h]
    have hne : (x.ix.toList == q.toList) = false := beq_eq_false_iff_ne.2 (toList_inj h)
    clear h
    go_enter Tryd.func87, Tryd.ntmps87
    go_wp2_with fail
    go_quiet (fail)
    go_wp2_with fail
    go_ret
    exact ⟨rfl, belowN hb _⟩

theorem Own.lit (w : World) (e : TypeId) (size n : Nat) (xs : List Value) (hl : xs.length = n * size) (hn : n ≤ 1000000) : Own (w.alloc (.cells xs.toArray e)) w.heap.size e size (.slice (some ⟨w.heap.size, 0, none⟩) n n) n xs :=
  ⟨hl, .inr ⟨w.heap.size, n, xs.toArray, (0, 0), rfl, Nat.le_refl _, heap_alloc_new _ _, Nat.le_refl _, by unfold maxLen; omega, by simpa using hl, fun j _ hj => by simp at hj, by rw [← hl]; simp⟩⟩
theorem Cell1.grown {w w' : World} {b : Nat} {v : Value} (h : Cell1 w b v) {row : Option Nat} (hg : w.grownBy w' row) (hne : row ≠ some b) : Cell1 w' b v := by
  have hlt : b < w.heap.size := World.block_lt_of_cell? w ⟨b, 0, none⟩ h.c
  have hb : w'.heap[b]? = w.heap[b]? := hg.block b hlt (fun e => hne e.symm)
  exact ⟨by rw [World.cell?_of_block (a := ⟨b, 0, none⟩) hb]; exact h.c, by have := h.f; unfold World.frozen? at this ⊢; rw [hb]; exact this⟩
/-- what a boxed count holds -/
def readAt (t : Value) (W : World) : Nat := match t with
  | .pointer (some a) => match W.cell? a with
    | some v => (intOf v).toNat
    | none => 0
  | _ => 0
theorem readAt_cell {W : World} {B n : Nat} (h : W.cell? ⟨B, 0, none⟩ = some (.int .i64 n)) : readAt (.pointer (some ⟨B, 0, none⟩)) W = n := by
  show (match W.cell? ⟨B, 0, none⟩ with | some v => (intOf v).toNat | none => 0) = n
  rw [h]; simp [intOf]
theorem TReads.shape_ {w : World} {v : Value} {l : List ByteArray} (h : TReads w v l) : ∃ a c, v = .slice a l.length c := by
  rcases h.reads.2 with ⟨_, a, c, rfl⟩ | ⟨b, off, cap, rfl, _⟩
  · exact ⟨a, c, rfl⟩
  · exact ⟨_, cap, rfl⟩
theorem asksI_get {ix : ByteArray} {a : List It} {k : Nat} {x : It} (h : a[k]? = some x) : (asksI ix a).take (k + 2) = (asksI ix a).take (k + 1) ++ [x.ix] := by
  unfold asksI
  rw [List.take_succ_cons, List.take_succ_cons, List.cons_append]
  congr 1
  have hk := (List.getElem?_eq_some_iff.1 h).1
  rw [List.take_succ_eq_append_getElem (by simpa using hk)]
  congr 2
  rw [List.getElem_map, (List.getElem?_eq_some_iff.1 h).2]
set_option maxRecDepth 1000000 in
set_option maxHeartbeats 20000000 in
theorem law_there_ok (v : Value) (l : List It) (ix : ByteArray) (w : World) (hv : IReads w v l) (hh : heldI l = true) (hk : KAt w 0) :
    Calls Tryd.prog 11 #[v, .string ix] w (BoolPost true w) := by
  have hl40 : l.length ≤ 40 := by
    unfold heldI at hh
    simp only [Bool.and_eq_true, decide_eq_true_eq] at hh
    exact hh.1
  obtain ⟨hm1, hm2, hm3⟩ := made_is _ l rfl (by omega)
  have HH := Lib.hid (held_any v l w hv)
  rw [hh] at HH
  have HPr := Lib.hid (fun W (hW : Below w.heap.size w W) => proved_any W (hk.mono hW))
  have HM := Lib.hid (fun W (hW : Below w.heap.size w W) => made_any v l W (hv.mono hW) (by omega))
  have HR := Lib.hid (fun (u : Value) W (hu : IReads W u (madeI l)) (hW : Below w.heap.size w W) => troot_any u (madeI l) W hu (hk.mono hW))
  have HP := Lib.hid (fun (u : Value) (q : ByteArray) W (hu : IReads W u (madeI l)) (hW : Below w.heap.size w W) => tprove_any u (madeI l) q W hu (hk.mono hW))
  have Hk := Lib.hid hk
  have Hm := Lib.hid hm1
  have Hml : Hid ((madeI l).length ≤ 40) := by unfold Hid; omega
  have Hml2 : Hid ((asksI ix (madeI l)).length = (madeI l).length + 1) := asksI_length _ _
  unfold StrPost rootS rootK at HR
  rw [hm1, if_pos rfl, if_pos rfl, errV_0] at HR
  unfold MadePost at HM
  unfold BoolPost at HH HPr ⊢
  generalize madeI l = a at *
  obtain ⟨n, hn⟩ : ∃ n, n = a.length := ⟨_, rfl⟩
  have Hn := Lib.hid hn
  have hn40 : n ≤ 40 := by rw [hn]; exact Hml.out
  clear hn
  clear hv hh hl40 hm1 hm2 hm3 hk
  go_enter Tryd.func11, Tryd.ntmps11
  go_wp2_with (first
    | (go_at_call 72; refine HH.out.mono ?_; rintro e w1 ⟨rfl, hB1⟩)
    | (go_at_call 84; refine (HPr.out _ hB1).mono ?_; rintro e w2 ⟨rfl, hB2⟩; have hC2 := hB1.trans (hB2.mono hB1.size))
    | (go_at_call 74; refine (HM.out _ hC2).mono ?_; rintro e w3 ⟨u, rfl, hu3, hB3⟩; have hC3 := hC2.trans (hB3.mono hC2.size); obtain ⟨ua, uc, rfl, hroom⟩ := hu3.shape; rw [← Hn.out] at hu3 hroom ⊢; have HU3 := Lib.hid hu3; clear hu3)
    | (go_at_call 79; refine (HR.out _ _ HU3.out hC3).mono ?_; rintro e w4 ⟨rfl, hB4⟩; have hC4 := hC3.trans (hB4.mono hC3.size); have HU4 := Lib.hid (HU3.out.mono hB4)))
  have hO0 := (Own.lit w4 9 1 1 [.string ix] rfl (by decide)).alloc (.cells #[.slice (some ⟨w4.heap.size, 0, none⟩) 1 1] 22)
  have hc0 := Cell1.new (w4.alloc (.cells #[.string ix] 9)) (.slice (some ⟨w4.heap.size, 0, none⟩) 1 1) 22
  have hb0 : Below w4.heap.size w4 ((w4.alloc (.cells #[.string ix] 9)).alloc (.cells #[.slice (some ⟨w4.heap.size, 0, none⟩) 1 1] 22)) := ((Below.refl _ _).alloc (Nat.le_refl _) _).alloc (by simp) _
  obtain ⟨B8, hB8⟩ : ∃ B8, B8 = w4.heap.size + 1 := ⟨_, rfl⟩
  rw [World.size_alloc, ← hB8] at hc0
  rw [← hB8]
  have HB8 := Lib.hid hB8
  generalize (w4.alloc (.cells #[.string ix] 9)).alloc (.cells #[.slice (some ⟨w4.heap.size, 0, none⟩) 1 1] 22) = W0 at hO0 hc0 hb0 ⊢
  have HC4 := Lib.hid hC4
  clear hB8 hB1 hB2 hB3 hB4 hC2 hC3 hC4
  go_loopw [9] (fun t9 wr => ∃ k g cap : Nat, k ≤ n ∧ t9 = .int .i64 k ∧ Cell1 wr B8 (.slice (some ⟨g, 0, none⟩) (k + 1) cap) ∧ Own wr w4.heap.size 9 1 (.slice (some ⟨g, 0, none⟩) (k + 1) cap) (k + 1) (((asksI ix a).take (k + 1)).map Value.string) ∧ g ≠ B8 ∧ Below w4.heap.size w4 wr) (fun t9 _ => n - (intOf t9).toNat)
  case atStart => exact ⟨0, w4.heap.size, 1, Nat.zero_le _, rfl, hc0, hO0, by have := HB8.out; omega, hb0⟩
  case round =>
    obtain ⟨k, g, cap, hkn, rfl, hc, hO, hgB, hbw⟩ := hrel
    have HC := Lib.hid hc
    have HO := Lib.hid hO
    have HBw := Lib.hid hbw
    by_cases hlt : k < n
    · have hka : k < a.length := by have := Hn.out; omega
      obtain ⟨x, hx⟩ : ∃ x, a[k]? = some x := ⟨a[k], List.getElem?_eq_getElem hka⟩
      have hU := HU4.out.mono hbw
      obtain ⟨b, off, rfl, x0, x1⟩ := hU.at hx
      have hget := Lib.hid (asksI_get (ix := ix) hx)
      have q0 := hc.c
      have y0 := fun z : Grown wr => z.cell q0
      have y1 := fun z : Grown wr => z.cell x0
      have hS := InGrown.drew wr
      have e1 : (k : Int) < n := by omega
      have e0 : (0 : Int) ≤ k := by omega
      have hlB : B8 < wr.heap.size := World.block_lt_of_cell? _ _ q0
      clear hx hc hO hbw hU hka
      go_wp2_with fail
      refine wp_region_D (fun j => decide (j < 7)) (InGrown wr) 9 (by kernel_rfl) rfl ?_
      refine wpAnyD_take (i := 0) 9 (v := ?_) rfl (by kernel_rfl) (fun _ _ _ h => h) hS (Or.inl ⟨by rfl, ?_⟩) ?_
      case refine_2 => (rintro _ ⟨x, rfl⟩; go_simp <;> with_reducible rfl)
      refine wpAnyD_take (i := 1) 9 (v := ?_) rfl (by kernel_rfl) (fun _ _ _ h => h) hS (Or.inl ⟨by rfl, ?_⟩) ?_
      case refine_2 => (rintro _ ⟨x, rfl⟩; go_simp <;> with_reducible rfl)
      refine wpAnyD_take (i := 2) 9 (v := ?_) rfl (by kernel_rfl) (fun _ _ _ h => h) hS (Or.inl ⟨by rfl, ?_⟩) ?_
      case refine_2 => (rintro _ ⟨x, rfl⟩; go_simp <;> with_reducible rfl)
      refine wpAnyD_take (i := 3) 9 (v := ?_) rfl (by kernel_rfl) (fun _ _ _ h => h) hS (Or.inl ⟨by rfl, ?_⟩) ?_
      case refine_2 => (rintro _ ⟨x, rfl⟩; go_simp <;> with_reducible rfl)
      refine wpAnyD_take (i := 4) 9 (v := ?_) rfl (by kernel_rfl) (fun _ _ _ h => h) hS (Or.inl ⟨by rfl, ?_⟩) ?_
      case refine_2 => (rintro _ ⟨x, rfl⟩; go_simp <;> with_reducible rfl)
      refine wpAnyD_take (i := 5) 9 (v := ?_) rfl (by kernel_rfl) (fun _ _ _ h => h) hS (Or.inl ⟨by rfl, ?_⟩) ?_
      case refine_2 => (rintro _ ⟨x, rfl⟩; go_simp <;> with_reducible rfl)
      refine wpAnyD_step 6 (by kernel_rfl) rfl (fun K hK => ?_)
      go_simp
      refine hK _ _ ⟨fun _ => ?_, ?_⟩
      rotate_left
      clear hK K
      case refine_1 => exact .of (((Below.refl _ _).drew).alloc (Nat.le_refl _) _)
      refine wpAnyD_rest 7 (by kernel_rfl) (by kernel_rfl) ?_
      simp only [List.drop_succ_cons, List.drop_zero]
      clear y0 y1 hS
      have hCd : Cell1 wr.drew B8 (.slice (some ⟨g, 0, none⟩) (k + 1) cap) := ⟨HC.out.c, HC.out.f⟩
      have HCd := Lib.hid hCd
      have hbase : w4.heap.size ≤ wr.drew.heap.size := HBw.out.size
      have Hbase := Lib.hid hbase
      have HgB := Lib.hid hgB
      clear hCd hgB
      go_wp2_with (at_builtin; refine app_lit2 rfl _ _ 22 rfl w4.heap.size 9 _ 1 16 u_strs i_str rfl (by decide) (.slice (some ⟨g, 0, none⟩) (k + 1) cap) (k + 1) _ rfl HO.out.drew 1 _ rfl rfl (one_str x.ix) (by omega) (by omega) hbase ?_; intro v5 w5 hown5 hgrow5 hob5; obtain ⟨g5, c5, rfl, -⟩ := hown5.some_ (Nat.succ_pos _); have HO5 := Lib.hid hown5; have HG5 := Lib.hid hgrow5; have HB5 := Lib.hid (hob5 g5 rfl); obtain ⟨p0, f0⟩ := HCd.out.grown hgrow5 (fun e => HgB.out (Option.some.inj e)); clear hown5 hgrow5 hob5)
      have hg5 : g5 ≠ B8 := by
        rcases HB5.out with h | h
        · have h2 : g = g5 := Option.some.inj h
          rw [← h2]; exact HgB.out
        · have h2 : wr.drew.heap.size = wr.heap.size := rfl
          omega
      go_roundw
      case rel =>
        refine ⟨k + 1, g5, c5, by omega, by go_num, ⟨World.cell?_setCell_same _ _ _ p0, by rw [World.frozen?_setCell]; exact f0⟩, ?_, hg5, ?_⟩
        · have h := HO5.out.kept (grownBy_setCell w5 B8 0 (.slice (some ⟨g5, 0, none⟩) (k + 1 + 1) c5)) (.inr (by simp only [Value.ownBlock, ne_eq, Option.some.injEq]; exact hg5))
          rw [show k + 1 + 1 = k + 2 from rfl, hget.out, List.map_append]
          exact h
        · have h1 : Below w4.heap.size w4 w5 := HBw.out.drew.grown HG5.out Hbase.out (fun j hj => by cases hj; exact (HO.out.lt g rfl).1)
          exact below_set h1 (by have := HB8.out; omega) _
      case measure => simp [intOf]; omega
    · have e1 : ¬ (k : Int) < n := by omega
      obtain rfl : k = n := by omega
      have hall : Hid ((asksI ix a).take (k + 1) = asksI ix a) := List.take_of_length_le (by have := Hml2.out; have := Hn.out; omega)
      rw [hall.out] at HO
      have hTR := TReads.of_own (base := w4.heap.size) (l := asksI ix a) (w := wr) (v := .slice (some ⟨g, 0, none⟩) (k + 1) cap) (by
        have h := HO.out
        rw [show (asksI ix a).length = k + 1 by have := Hml2.out; have := Hn.out; omega]
        exact h)
      have HTR := Lib.hid hTR
      have HUr := Lib.hid (HU4.out.mono hbw)
      have HCw := Lib.hid (HC4.out.trans (hbw.mono HC4.out.size))
      have hcB := Lib.hid HC.out
      have hI0 := Cell1.new wr (.int .i64 0) 3
      have hb1 : Below wr.heap.size wr (wr.alloc (.cells #[.int .i64 0] 3)) := (Below.refl _ _).alloc (Nat.le_refl _) _
      obtain ⟨W2, hW2⟩ : ∃ W2, W2 = wr := ⟨_, rfl⟩
      rw [← hW2] at HTR HUr HCw hcB hI0 hb1 ⊢
      clear hc hO hTR hbw hall HO HC HBw hW2 hb0 hc0 hO0
      go_wp2_with fail
      generalize W2.alloc (.cells #[.int .i64 0] 3) = W3 at hI0 hb1 ⊢
      go_loopw [10] (fun t10 wq => ∃ p Bi : Nat, p ≤ k + 1 ∧ t10 = .pointer (some ⟨Bi, 0, none⟩) ∧ Cell1 wq Bi (.int .i64 p) ∧ W2.heap.size ≤ Bi ∧ Below W2.heap.size W2 wq) (fun t10 wq => k + 1 - readAt t10 wq)
      case atStart => exact ⟨0, W2.heap.size, Nat.zero_le _, rfl, hI0, Nat.le_refl _, hb1⟩
      case round =>
        obtain ⟨p, Bi, hpk, rfl, hci, hBi, hbq⟩ := hrel
        have HCi := Lib.hid hci
        have HBq := Lib.hid hbq
        have HUq := Lib.hid (HUr.out.mono hbq)
        have HTq := Lib.hid (HTR.out.mono hbq)
        have HBx := Lib.hid hBi
        have p8 : wr.cell? ⟨B8, 0, none⟩ = some (.slice (some ⟨g, 0, none⟩) (k + 1) cap) := by rw [hbq.cell (by exact World.block_lt_of_cell? _ _ hcB.out.c)]; exact hcB.out.c
        obtain ⟨pi, fi⟩ := hci
        have hl8 : B8 < wr.heap.size := World.block_lt_of_cell? _ _ p8
        have hli : Bi < wr.heap.size := World.block_lt_of_cell? _ _ pi
        by_cases hlt : p < k + 1
        · have e1 : (p : Int) < (k : Int) + 1 := by omega
          have e0 : (0 : Int) ≤ p := by omega
          have hpa : p < (asksI ix a).length := by have := Hml2.out; have := Hn.out; omega
          obtain ⟨q, hq⟩ : ∃ q, (asksI ix a)[p]? = some q := ⟨(asksI ix a)[p], List.getElem?_eq_getElem hpa⟩
          have hcq : wr.cell? ⟨g, 0 + p, none⟩ = some (.string q) := by
            obtain ⟨aa, cc, he, hat⟩ := Reads.shape HTq.out.reads
            obtain ⟨b', off', he2, hc'⟩ := hat p q hq
            subst he2
            simp only [Value.slice.injEq, Option.some.injEq, Addr.mk.injEq] at he
            obtain ⟨⟨rfl, rfl, -⟩, -, -⟩ := he
            exact hc'
          rw [Nat.zero_add] at hcq
          have hlg : g < wr.heap.size := World.block_lt_of_cell? _ _ hcq
          have HPq := Lib.hid (HP.out (.slice ua k uc) q wr HUq.out (HCw.out.trans (hbq.mono HCw.out.size)))
          unfold ProvePost at HPq
          by_cases h16 : q.size = 16
          · have hK : provK a q = 0 := by unfold provK; rw [if_pos ⟨Hm.out, h16⟩]
            have hPp : provPath a q = proveP a q := by unfold provPath; rw [hK]; rfl
            have hPl : provLeaf a q = leafI (proveL a q) := by unfold provLeaf; rw [hK]; rfl
            rw [hK, hPp, hPl, errV_0] at HPq
            have hlen := (prove_led q Hm.out).deep
            rw [Nat.zero_add] at hlen
            have HVf := Lib.hid (fun pv W (hv : TReads W pv (proveP a q)) hK => pverify_any (nodeS a 0) q pv (proveP a q) (leafI (proveL a q)).ix (leafI (proveL a q)).cm W hv.reads (by omega) hK)
            have hcases := there_cases Hm.out h16
            rw [(verify_prove Hm.out h16).1, errV_0] at HVf
            have HFar := Lib.hid (fun h => prove_far (ix := q) Hm.out h)
            have HI := Lib.hid (fun W (hW : Below wr.heap.size wr W) => iidx_gen 87 #[.pointer (some ⟨B8, 0, none⟩), .pointer (some ⟨Bi, 0, none⟩)] (enters_of Tryd.func87 (by kernel_rfl) rfl) (isI q) (.slice ua k uc) a W (HUq.out.mono hW) (by have := Hn.out; omega)
              (fun x _ V hV => isp_any x B8 Bi g 0 cap (k + 1) p q V (by rw [hV.cell (by exact Nat.lt_of_lt_of_le hl8 hW.size), hW.cell (by exact hl8)]; exact p8) (by rw [hV.cell (by exact Nat.lt_of_lt_of_le hli hW.size), hW.cell (by exact hli)]; exact pi) (by rw [hV.cell (by exact Nat.lt_of_lt_of_le hlg hW.size), hW.cell (by exact hlg), Nat.zero_add]; exact hcq) hlt))
            generalize proveP a q = path at *
            generalize hleaf : leafI (proveL a q) = leaf at *
            generalize pverB (nodeS a 0) q path leaf.ix leaf.cm = PB at *
            generalize pverS (nodeS a 0) q path leaf.ix leaf.cm = PS at *
            generalize idxI (isI q) a = NI at *
            obtain ⟨np, hnp⟩ : ∃ np, np = path.length := ⟨_, rfl⟩
            rw [← hnp] at hlen
            have Hnp := Lib.hid hnp
            have H16 := Lib.hid h16
            clear hK hPp hPl h16 hq hpa hbq hBi hleaf hnp
            go_wp2_with (go_at_call 85; refine HPq.out.mono ?_; rintro e w6 ⟨pv, rfl, hT6, hB6⟩; obtain ⟨pa, pc, rfl⟩ := hT6.shape_; rw [← Hnp.out] at hT6 ⊢; have HT6 := Lib.hid hT6; clear hT6; have k8 := (hB6.cell (p := ⟨B8, 0, none⟩) hl8).trans p8; have kq := (hB6.cell (p := ⟨g, p, none⟩) hlg).trans hcq; obtain ⟨ki, kf⟩ := (Cell1.mk pi fi).mono hB6; have ml8 : B8 < w6.heap.size := World.block_lt_of_cell? _ _ k8; have mlg : g < w6.heap.size := World.block_lt_of_cell? _ _ kq; have mli : Bi < w6.heap.size := World.block_lt_of_cell? _ _ ki)
            have hP7 := Row3.of_row (T := 51) (heap_alloc_new w6 (.cells #[.slice pa np pc, .string leaf.ix, .string leaf.cm] 51))
            have hb7 : Below w6.heap.size w6 (w6.alloc (.cells #[.slice pa np pc, .string leaf.ix, .string leaf.cm] 51)) := (Below.refl _ _).alloc (Nat.le_refl _) _
            obtain ⟨Bp, hBp⟩ : ∃ Bp, Bp = w6.heap.size := ⟨_, rfl⟩
            have hG7 : Below wr.heap.size wr (w6.alloc (.cells #[.slice pa np pc, .string leaf.ix, .string leaf.cm] 51)) := hB6.trans (hb7.mono hB6.size)
            have HT7 := Lib.hid (HT6.out.mono hb7)
            have HBp : Hid (wr.heap.size ≤ Bp) := by unfold Hid; rw [hBp]; exact hB6.size
            rw [← hBp] at hP7 ⊢
            generalize w6.alloc (.cells #[.slice pa np pc, .string leaf.ix, .string leaf.cm] 51) = w7 at hP7 hG7 HT7 ⊢
            have HG7 := Lib.hid hG7
            have HP7 := Lib.hid hP7
            have p8' := (hG7.cell (p := ⟨B8, 0, none⟩) hl8).trans p8
            have pq' := (hG7.cell (p := ⟨g, p, none⟩) hlg).trans hcq
            have pi' := (hG7.cell (p := ⟨Bi, 0, none⟩) hli).trans pi
            obtain ⟨r0, r1, r2, -, -, -⟩ := hP7
            have y0 := fun z : Grown w7 => z.cell p8'
            have y1 := fun z : Grown w7 => z.cell pq'
            have y2 := fun z : Grown w7 => z.cell pi'
            have y3 := fun z : Grown w7 => z.cell r0
            have y4 := fun z : Grown w7 => z.cell r1
            have y5 := fun z : Grown w7 => z.cell r2
            clear hB6 hb7 hBp k8 kq ki kf ml8 mlg mli hG7 HT6
            refine wp_region_grown (by kernel_rfl) (by kernel_rfl) ?_
            repeat (quiet_step ((go_at_call 37; rename_i z; exact Grown.call z (HVf.out _ _ (HT7.out.mono z.below) (Hk.out.mono (HCw.out.trans ((HBq.out.trans ((HG7.out.trans (z.below.mono HG7.out.size)).mono HBq.out.size)).mono HCw.out.size)))))))
            refine wpQuiet_nil ?_
            intro z
            have hG8 := HG7.out.trans (z.below.mono HG7.out.size)
            have hP8 := HP7.out.mono z.below
            generalize z.val = w8 at hG8 hP8 ⊢
            clear y0 y1 y2 y3 y4 y5 p8' pq' pi' r0 r1 r2 z
            have HG8 := Lib.hid hG8
            have HP8 := Lib.hid hP8
            have HI8 := Lib.hid (HI.out w8 hG8)
            clear hG8 hP8
            rcases hcases with ⟨kk, x, rfl, hx, rfl, rfl⟩ | ⟨rfl, rfl, rfl⟩
            · have hxs : Hid (∀ V, Below wr.heap.size wr V → ∃ b off, ua = some ⟨b, off, none⟩ ∧ V.cell? ⟨b, off + kk * 2 + 1, none⟩ = some (.string x.cm)) := fun V hV => by
                obtain ⟨b, off, e, _, h1⟩ := (HUq.out.mono hV).at hx
                exact ⟨b, off, e, h1⟩
              have hkk : kk < k := by have := (List.getElem?_eq_some_iff.1 hx).1; have := Hn.out; omega
              have f1 : (kk : Int) < k := by omega
              have f0 : (0 : Int) ≤ kk := by omega
              clear hx
              go_wp2_with (go_at_call 86; refine HI8.out.mono ?_; rintro e w9 ⟨rfl, hB9⟩; have HG9 := Lib.hid (HG8.out.trans (hB9.mono HG8.out.size)); have HP9 := Lib.hid (HP8.out.mono hB9); obtain ⟨b, off, rfl, hcm⟩ := hxs.out _ HG9.out; clear hB9)
              obtain ⟨W9, hW9⟩ : ∃ W9, W9 = w9 := ⟨_, rfl⟩
              rw [← hW9] at HG9 HP9 ⊢
              have m8 := (HG9.out.cell (p := ⟨B8, 0, none⟩) hl8).trans p8
              have mq := (HG9.out.cell (p := ⟨g, p, none⟩) hlg).trans hcq
              have HM8 := Lib.hid m8
              have HMq := Lib.hid mq
              have HCi9 := Lib.hid (HCi.out.mono HG9.out)
              have HU9 := Lib.hid (HUq.out.mono HG9.out)
              have HB9 := Lib.hid (HBq.out.trans (HG9.out.mono HBq.out.size))
              have HRd := Lib.hid (readAt_cell pi)
              clear hcm hW9 m8 mq p8 hcq pi fi hl8 hli hlg HG7 HG8 HI8 HI HVf HPq HP7 HP8 HT7 HCi HBq HUq HTq
              go_loopw [16, 17] (fun t16 t17 wz => ∃ f j : Nat, j ≤ k ∧ t16 = .int .i64 f ∧ t17 = .int .i64 j ∧ f ≤ 129 ∧ Below W9.heap.size W9 wz ∧ ∀ i x, i < j → a[i]? = some x → x.ix ≠ q → cmn q x.ix + 1 ≤ f) (fun _ t17 _ => k - (intOf t17).toNat)
              case atStart => exact ⟨0, 0, Nat.zero_le _, rfl, rfl, Nat.zero_le _, Below.refl _ _, fun i _ hi => absurd hi (Nat.not_lt_zero _)⟩
              case round =>
                obtain ⟨f, j, hjk, rfl, rfl, hf129, hbz, hmax⟩ := hrel
                have HBz := Lib.hid hbz
                have HMax := Lib.hid hmax
                have n8 := (hbz.cell (p := ⟨B8, 0, none⟩) (World.block_lt_of_cell? _ _ HM8.out)).trans HM8.out
                have nq := (hbz.cell (p := ⟨g, p, none⟩) (World.block_lt_of_cell? _ _ HMq.out)).trans HMq.out
                have hCz := HCi9.out.mono hbz
                have ni := hCz.c
                have HPz := Lib.hid (HP9.out.mono hbz)
                have HUz := HU9.out.mono hbz
                have HCz := Lib.hid hCz
                clear hbz hmax hCz
                by_cases hjlt : j < k
                · have hja : j < a.length := by have := Hn.out; omega
                  obtain ⟨y, hy⟩ : ∃ y, a[j]? = some y := ⟨a[j], List.getElem?_eq_getElem hja⟩
                  obtain ⟨b2, off2, he, x0, x1⟩ := HUz.at hy
                  have HY := Lib.hid hy
                  have hy16 : y.ix.size = 16 := (((rightI_iff a).1 Hm.out).2.1 y (List.mem_of_getElem? hy)).1
                  have HCm := Lib.hid (fun W => common_ok q y.ix W H16.out hy16)
                  have hc128 := cmn_le q y.ix
                  have e2 : (j : Int) < k := by omega
                  have e3 : (0 : Int) ≤ j := by omega
                  clear hy HUz hja hy16
                  generalize hcd : cmn q y.ix = cd at *
                  have HCd := Lib.hid hcd
                  clear hcd
                  have y0 := fun z : Grown wr => z.cell n8
                  have y1 := fun z : Grown wr => z.cell nq
                  have y2 := fun z : Grown wr => z.cell ni
                  have y3 := fun z : Grown wr => z.cell x0
                  simp only [Option.some.injEq, Addr.mk.injEq] at he
                  obtain ⟨h1, h2, -⟩ := he
                  subst h1 h2
                  go_wp2_with fail
                  refine wp_region_grown (by kernel_rfl) (by kernel_rfl) ?_
                  repeat (quiet_step ((go_at_call 48; rename_i z; exact Grown.same z (HCm.out _))))
                  refine wpQuiet_nil ?_
                  intro z
                  have hZ := z.below
                  generalize z.val = wy at hZ ⊢
                  clear y0 y1 y2 y3 z
                  have n8' := (hZ.cell (p := ⟨B8, 0, none⟩) (World.block_lt_of_cell? _ _ n8)).trans n8
                  have nq' := (hZ.cell (p := ⟨g, p, none⟩) (World.block_lt_of_cell? _ _ nq)).trans nq
                  have ni' := (hZ.cell (p := ⟨Bi, 0, none⟩) (World.block_lt_of_cell? _ _ ni)).trans ni
                  have x0' := (hZ.cell (p := ⟨_, _, none⟩) (World.block_lt_of_cell? _ _ x0)).trans x0
                  have HZ := Lib.hid hZ
                  clear hZ n8 nq ni x0 x1
                  by_cases hyq : y.ix = q
                  · have hyb : (y.ix.toList == q.toList) = true := by rw [hyq]; simp
                    have HYq := Lib.hid hyq
                    clear hyq
                    go_wp2_with fail
                    go_quiet (fail)
                    go_wp2_with fail
                    go_roundw
                    case rel =>
                      refine ⟨f, j + 1, by omega, rfl, by go_num, hf129, belowN (HBz.out.trans (HZ.out.mono HBz.out.size)) _, fun i x hi hx hne => ?_⟩
                      rcases Nat.lt_or_ge i j with h1 | h1
                      · exact HMax.out i x h1 hx hne
                      · rw [show i = j by omega, HY.out] at hx
                        rw [← Option.some.inj hx] at hne
                        exact absurd HYq.out hne
                    case measure => simp [intOf]; omega
                  · have hyb : (y.ix.toList == q.toList) = false := beq_eq_false_iff_ne.2 (toList_inj hyq)
                    clear hyq
                    go_wp2_with fail
                    go_quiet (fail)
                    go_wp2_with fail
                    go_roundw
                    case rel =>
                      refine ⟨max f (cd + 1), j + 1, by omega, by congr 1; omega, by go_num, by omega, belowN (HBz.out.trans (HZ.out.mono HBz.out.size)) _, fun i x hi hx hne => ?_⟩
                      rcases Nat.lt_or_ge i j with h1 | h1
                      · have := HMax.out i x h1 hx hne
                        omega
                      · rw [show i = j by omega, HY.out] at hx
                        rw [← Option.some.inj hx, HCd.out]
                        omega
                    case measure => simp [intOf]; omega
                · have e2 : ¬ (j : Int) < k := by omega
                  have d2 : decide (j < k) = false := decide_eq_false hjlt
                  have hfin : np ≤ f := by
                    rw [Hnp.out]
                    by_cases hp0 : path = []
                    · rw [hp0]; exact Nat.zero_le _
                    · obtain ⟨y, hy, hne, hle⟩ := HFar.out hp0
                      obtain ⟨i, hi, rfl⟩ := List.mem_iff_getElem.1 hy
                      exact Nat.le_trans hle (HMax.out i _ (by have := Hn.out; omega) (List.getElem?_eq_getElem hi) hne)
                  have e4 : ¬ (f : Int) < np := by omega
                  have d4 : decide (f < np) = false := decide_eq_false (by omega)
                  obtain ⟨r0, r1, r2, -, -, -⟩ := HPz.out
                  have fi' := HCz.out.f
                  have hBz := HB9.out.trans (HBz.out.mono HB9.out.size)
                  have HBzz := Lib.hid hBz
                  have hlI : Bi < wr.heap.size := World.block_lt_of_cell? _ _ ni
                  clear n8 nq HUz hBz
                  go_wp2_with fail
                  go_roundw
                  case rel =>
                    refine ⟨p + 1, wr.heap.size, by omega, rfl, ?_, HBzz.out.size, ?_⟩
                    · exact Cell1.new wr (.int .i64 ((p : Int) + 1)) 3
                    · exact HBzz.out.alloc HBzz.out.size _
                  case measure =>
                    have h1 := readAt_cell (n := p + 1) (Cell1.new wr (.int .i64 ((p : Int) + 1)) 3).c
                    have h2 := HRd.out
                    rw [h1, h2]
                    omega
            · go_wp2_with (go_at_call 86; refine HI8.out.mono ?_; rintro e w9 ⟨rfl, hB9⟩; have HG9 := Lib.hid (HG8.out.trans (hB9.mono HG8.out.size)); have HP9 := Lib.hid (HP8.out.mono hB9); clear hB9)
              obtain ⟨W9, hW9⟩ : ∃ W9, W9 = w9 := ⟨_, rfl⟩
              rw [← hW9] at HG9 HP9 ⊢
              have m8 := (HG9.out.cell (p := ⟨B8, 0, none⟩) hl8).trans p8
              have mq := (HG9.out.cell (p := ⟨g, p, none⟩) hlg).trans hcq
              have HM8 := Lib.hid m8
              have HMq := Lib.hid mq
              have HCi9 := Lib.hid (HCi.out.mono HG9.out)
              have HU9 := Lib.hid (HUq.out.mono HG9.out)
              have HB9 := Lib.hid (HBq.out.trans (HG9.out.mono HBq.out.size))
              have HRd := Lib.hid (readAt_cell pi)
              clear hW9 m8 mq p8 hcq pi fi hl8 hli hlg HG7 HG8 HI8 HI HVf HPq HP7 HP8 HT7 HCi HBq HUq HTq
              go_loopw [16, 17] (fun t16 t17 wz => ∃ f j : Nat, j ≤ k ∧ t16 = .int .i64 f ∧ t17 = .int .i64 j ∧ f ≤ 129 ∧ Below W9.heap.size W9 wz ∧ ∀ i x, i < j → a[i]? = some x → x.ix ≠ q → cmn q x.ix + 1 ≤ f) (fun _ t17 _ => k - (intOf t17).toNat)
              case atStart => exact ⟨0, 0, Nat.zero_le _, rfl, rfl, Nat.zero_le _, Below.refl _ _, fun i _ hi => absurd hi (Nat.not_lt_zero _)⟩
              case round =>
                obtain ⟨f, j, hjk, rfl, rfl, hf129, hbz, hmax⟩ := hrel
                have HBz := Lib.hid hbz
                have HMax := Lib.hid hmax
                have n8 := (hbz.cell (p := ⟨B8, 0, none⟩) (World.block_lt_of_cell? _ _ HM8.out)).trans HM8.out
                have nq := (hbz.cell (p := ⟨g, p, none⟩) (World.block_lt_of_cell? _ _ HMq.out)).trans HMq.out
                have hCz := HCi9.out.mono hbz
                have ni := hCz.c
                have HPz := Lib.hid (HP9.out.mono hbz)
                have HUz := HU9.out.mono hbz
                have HCz := Lib.hid hCz
                clear hbz hmax hCz
                by_cases hjlt : j < k
                · have hja : j < a.length := by have := Hn.out; omega
                  obtain ⟨y, hy⟩ : ∃ y, a[j]? = some y := ⟨a[j], List.getElem?_eq_getElem hja⟩
                  obtain ⟨b2, off2, he, x0, x1⟩ := HUz.at hy
                  have HY := Lib.hid hy
                  have hy16 : y.ix.size = 16 := (((rightI_iff a).1 Hm.out).2.1 y (List.mem_of_getElem? hy)).1
                  have HCm := Lib.hid (fun W => common_ok q y.ix W H16.out hy16)
                  have hc128 := cmn_le q y.ix
                  have e2 : (j : Int) < k := by omega
                  have e3 : (0 : Int) ≤ j := by omega
                  clear hy HUz hja hy16
                  generalize hcd : cmn q y.ix = cd at *
                  have HCd := Lib.hid hcd
                  clear hcd
                  have y0 := fun z : Grown wr => z.cell n8
                  have y1 := fun z : Grown wr => z.cell nq
                  have y2 := fun z : Grown wr => z.cell ni
                  have y3 := fun z : Grown wr => z.cell x0
                  subst he
                  go_wp2_with fail
                  refine wp_region_grown (by kernel_rfl) (by kernel_rfl) ?_
                  repeat (quiet_step ((go_at_call 48; rename_i z; exact Grown.same z (HCm.out _))))
                  refine wpQuiet_nil ?_
                  intro z
                  have hZ := z.below
                  generalize z.val = wy at hZ ⊢
                  clear y0 y1 y2 y3 z
                  have n8' := (hZ.cell (p := ⟨B8, 0, none⟩) (World.block_lt_of_cell? _ _ n8)).trans n8
                  have nq' := (hZ.cell (p := ⟨g, p, none⟩) (World.block_lt_of_cell? _ _ nq)).trans nq
                  have ni' := (hZ.cell (p := ⟨Bi, 0, none⟩) (World.block_lt_of_cell? _ _ ni)).trans ni
                  have x0' := (hZ.cell (p := ⟨_, _, none⟩) (World.block_lt_of_cell? _ _ x0)).trans x0
                  have HZ := Lib.hid hZ
                  clear hZ n8 nq ni x0 x1
                  by_cases hyq : y.ix = q
                  · have hyb : (y.ix.toList == q.toList) = true := by rw [hyq]; simp
                    have HYq := Lib.hid hyq
                    clear hyq
                    go_wp2_with fail
                    go_quiet (fail)
                    go_wp2_with fail
                    go_roundw
                    case rel =>
                      refine ⟨f, j + 1, by omega, rfl, by go_num, hf129, belowN (HBz.out.trans (HZ.out.mono HBz.out.size)) _, fun i x hi hx hne => ?_⟩
                      rcases Nat.lt_or_ge i j with h1 | h1
                      · exact HMax.out i x h1 hx hne
                      · rw [show i = j by omega, HY.out] at hx
                        rw [← Option.some.inj hx] at hne
                        exact absurd HYq.out hne
                    case measure => simp [intOf]; omega
                  · have hyb : (y.ix.toList == q.toList) = false := beq_eq_false_iff_ne.2 (toList_inj hyq)
                    clear hyq
                    go_wp2_with fail
                    go_quiet (fail)
                    go_wp2_with fail
                    go_roundw
                    case rel =>
                      refine ⟨max f (cd + 1), j + 1, by omega, by congr 1; omega, by go_num, by omega, belowN (HBz.out.trans (HZ.out.mono HBz.out.size)) _, fun i x hi hx hne => ?_⟩
                      rcases Nat.lt_or_ge i j with h1 | h1
                      · have := HMax.out i x h1 hx hne
                        omega
                      · rw [show i = j by omega, HY.out] at hx
                        rw [← Option.some.inj hx, HCd.out]
                        omega
                    case measure => simp [intOf]; omega
                · have e2 : ¬ (j : Int) < k := by omega
                  have d2 : decide (j < k) = false := decide_eq_false hjlt
                  have hfin : np ≤ f := by
                    rw [Hnp.out]
                    by_cases hp0 : path = []
                    · rw [hp0]; exact Nat.zero_le _
                    · obtain ⟨y, hy, hne, hle⟩ := HFar.out hp0
                      obtain ⟨i, hi, rfl⟩ := List.mem_iff_getElem.1 hy
                      exact Nat.le_trans hle (HMax.out i _ (by have := Hn.out; omega) (List.getElem?_eq_getElem hi) hne)
                  have e4 : ¬ (f : Int) < np := by omega
                  have d4 : decide (f < np) = false := decide_eq_false (by omega)
                  obtain ⟨r0, r1, r2, -, -, -⟩ := HPz.out
                  have fi' := HCz.out.f
                  have hBz := HB9.out.trans (HBz.out.mono HB9.out.size)
                  have HBzz := Lib.hid hBz
                  have hlI : Bi < wr.heap.size := World.block_lt_of_cell? _ _ ni
                  clear n8 nq HUz hBz
                  go_wp2_with fail
                  go_roundw
                  case rel =>
                    refine ⟨p + 1, wr.heap.size, by omega, rfl, ?_, HBzz.out.size, ?_⟩
                    · exact Cell1.new wr (.int .i64 ((p : Int) + 1)) 3
                    · exact HBzz.out.alloc HBzz.out.size _
                  case measure =>
                    have h1 := readAt_cell (n := p + 1) (Cell1.new wr (.int .i64 ((p : Int) + 1)) 3).c
                    have h2 := HRd.out
                    rw [h1, h2]
                    omega
          · have hK : provK a q = 1 := by unfold provK; rw [if_neg (fun h => h16 h.2)]
            have hPp : provPath a q = [] := by unfold provPath; rw [hK]; rfl
            have hPl : provLeaf a q = ⟨⟨#[]⟩, ⟨#[]⟩⟩ := by unfold provLeaf; rw [hK]; rfl
            rw [hK, hPp, hPl] at HPq
            rw [show errV 1 = .iface 31 (.int .i64 1) from rfl] at HPq
            have f1 : ((q.size : Int) == 16) = false := by rw [beq_eq_false_iff_ne]; omega
            clear hK hPp hPl h16 hq hpa hbq hBi
            go_wp2_with (go_at_call 85; refine HPq.out.mono ?_; rintro e w6 ⟨pv, rfl, hT6, hB6⟩; obtain ⟨pa, pc, rfl⟩ := hT6.shape_; have HT6 := Lib.hid hT6; clear hT6; have k8 := (hB6.cell (p := ⟨B8, 0, none⟩) hl8).trans p8; have kq := (hB6.cell (p := ⟨g, p, none⟩) hlg).trans hcq; obtain ⟨ki, kf⟩ := (Cell1.mk pi fi).mono hB6; have ml8 : B8 < w6.heap.size := World.block_lt_of_cell? _ _ k8; have mlg : g < w6.heap.size := World.block_lt_of_cell? _ _ kq; have mli : Bi < w6.heap.size := World.block_lt_of_cell? _ _ ki)
            go_roundw
            case rel =>
              refine ⟨p + 1, w6.heap.size + 1, by omega, rfl, ?_, Nat.le_trans HBq.out.size (Nat.le_trans hB6.size (Nat.le_succ _)), ?_⟩
              · have h := Cell1.new (w6.alloc (.cells #[.slice pa 0 pc, .string ⟨#[]⟩, .string ⟨#[]⟩] 51)) (.int .i64 ((p : Int) + 1)) 3
                rw [World.size_alloc] at h
                exact h
              · have h := HBq.out.trans (hB6.mono HBq.out.size)
                exact (h.alloc h.size _).alloc (Nat.le_trans h.size (by simp)) _
            case measure =>
              have h := Cell1.new (w6.alloc (.cells #[.slice pa 0 pc, .string ⟨#[]⟩, .string ⟨#[]⟩] 51)) (.int .i64 ((p : Int) + 1)) 3
              rw [World.size_alloc] at h
              have h1 := readAt_cell (n := p + 1) h.c
              have h2 := readAt_cell pi
              show k + 1 - readAt (.pointer (some ⟨w6.heap.size + 1, 0, none⟩)) _ < k + 1 - readAt (.pointer (some ⟨Bi, 0, none⟩)) wr
              rw [h1, h2]
              omega
        · have e1 : ¬ (p : Int) < (k : Int) + 1 := by omega
          have d1 : decide (p < k + 1) = false := decide_eq_false hlt
          go_wp2_with fail
          go_ret
          exact ⟨rfl, HCw.out.trans (HBq.out.mono HCw.out.size)⟩
set_option maxRecDepth 1000000 in
theorem law_there (v : Value) (l : List It) (ix : ByteArray) (w : World) (hv : IReads w v l) (hk : KAt w 0) :
    Calls Tryd.prog 11 #[v, .string ix] w (BoolPost true w) := by
  cases hh : heldI l with
  | true => exact law_there_ok v l ix w hv hh hk
  | false =>
    have HH := Lib.hid (held_any v l w hv)
    rw [hh] at HH
    unfold BoolPost at HH ⊢
    clear hv hh hk
    go_enter Tryd.func11, Tryd.ntmps11
    go_wp2_with (go_at_call 72; refine HH.out.mono ?_; rintro e w1 ⟨rfl, hB1⟩)
    go_ret
    exact ⟨rfl, hB1⟩
end Go.Proofs.YtfhjnfocmlndpaaDoor
