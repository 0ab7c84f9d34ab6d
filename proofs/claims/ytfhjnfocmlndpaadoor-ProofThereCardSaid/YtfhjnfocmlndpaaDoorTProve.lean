/- trie.Prove: what leads to an index. -/
import Derived.Test.YtfhjnfocmlndpaaDoorTNode
import Derived.Test.YtfhjnfocmlndpaaDoorTSetW
import Derived.Test.YtfhjnfocmlndpaaDoorLead
import Derived.Test.YtfhjnfocmlndpaaDoorTake
namespace Go.Proofs.YtfhjnfocmlndpaaDoor
open Go Go.RowKit Go.Proofs

def provK (l : List It) (ix : ByteArray) : Int := if rightI l = true ∧ ix.size = 16 then 0 else 1
def provPath (l : List It) (ix : ByteArray) : List ByteArray := if provK l ix = 0 then proveP l ix else []
def provLeaf (l : List It) (ix : ByteArray) : It := if provK l ix = 0 then leafI (proveL l ix) else ⟨⟨#[]⟩, ⟨#[]⟩⟩
/-- the slice v reads as these texts, and has room for them -/
structure TReads (w : World) (v : Value) (l : List ByteArray) : Prop where
  reads : Reads w v l.length 1 (l.map Value.string)
  room : ∀ a n c, v = .slice a n c → n ≤ c
theorem TReads.mono {w w' : World} {v : Value} {l : List ByteArray} (h : TReads w v l) (hb : Below w.heap.size w w') : TReads w' v l := ⟨h.reads.mono hb, h.room⟩
theorem TReads.nil (w : World) (a : Option Addr) (c : Nat) : TReads w (.slice a 0 c) [] := ⟨⟨rfl, .inl ⟨rfl, a, c, rfl⟩⟩, fun _ _ _ h => by simp only [Value.slice.injEq] at h; omega⟩
theorem TReads.of_own {w : World} {base : Nat} {v : Value} {l : List ByteArray} (h : Own w base 9 1 v l.length (l.map Value.string)) : TReads w v l := ⟨Reads.of_own h, fun a n c e => by
  rcases h.shape with ⟨rfl, h0, _⟩ | ⟨g, cap, rfl, _, _, _, hn, _⟩
  · simp only [Value.slice.injEq] at e; omega
  · simp only [Value.slice.injEq] at e; omega⟩
def ProvePost (l : List It) (ix : ByteArray) (w : World) (e : Ending) (w' : World) : Prop :=
  ∃ pv, e = .returned (.tuple #[.agg #[pv, .string (provLeaf l ix).ix, .string (provLeaf l ix).cm], errV (provK l ix)]) ∧ TReads w' pv (provPath l ix) ∧ Below w.heap.size w w'
theorem Row3.grown {w w' : World} {b : Nat} {x y z : Value} (h : Row3 w b x y z) {row : Option Nat} (hg : w.grownBy w' row) (hne : row ≠ some b) : Row3 w' b x y z := by
  have hlt : b < w.heap.size := World.block_lt_of_cell? w ⟨b, 0, none⟩ h.c0
  have hb : w'.heap[b]? = w.heap[b]? := hg.block b hlt (fun e => hne e.symm)
  have hf : ∀ i, w'.frozen? ⟨b, i, none⟩ = w.frozen? ⟨b, i, none⟩ := fun i => by unfold World.frozen?; rw [hb]
  have hc : ∀ i, w'.cell? ⟨b, i, none⟩ = w.cell? ⟨b, i, none⟩ := fun i => World.cell?_of_block (a := ⟨b, i, none⟩) hb
  exact ⟨by rw [hc]; exact h.c0, by rw [hc]; exact h.c1, by rw [hc]; exact h.c2, by rw [hf]; exact h.f0, by rw [hf]; exact h.f1, by rw [hf]; exact h.f2⟩
/-- between two rounds: the list that is left, and what has come of the path -/
structure PRel (v0 : Value) (l : List It) (ix : ByteArray) (w : World) (Bp : Nat) (wr : World) (u : Value) (d : Nat) (m : List It) (v : Value) (pre : List ByteArray) : Prop where
  items : ∀ W, IReads W v0 l → IReads W u m
  alike : Alike m d
  sub : m.Sublist l
  path : pre ++ provP (128 - d) m ix d = proveP l ix
  rest : provL (128 - d) m ix d = proveL l ix
  res : Row3 wr w.heap.size (.slice none 0 0) (.string ⟨#[]⟩) (.string ⟨#[]⟩)
  far : w.heap.size < Bp
  box : Row3 wr Bp v (.string ⟨#[]⟩) (.string ⟨#[]⟩)
  own : Own wr (Bp + 1) 9 1 v pre.length (pre.map Value.string)
  below : Below w.heap.size w wr
  deep : pre.length = d
set_option maxRecDepth 20000 in
set_option maxHeartbeats 4000000 in
theorem tprove_no (v : Value) (l : List It) (ix : ByteArray) (w : World) (hv : IReads w v l) (h : ¬ (rightI l = true ∧ ix.size = 16)) : Calls Tryd.prog 85 #[v, .string ix] w (ProvePost l ix w) := by
  have hK : Hid (provK l ix = 1) := by unfold Hid provK; rw [if_neg h]
  have hP : Hid (provPath l ix = []) := by unfold Hid provPath; rw [hK.out]; rfl
  have hL : Hid (provLeaf l ix = ⟨⟨#[]⟩, ⟨#[]⟩⟩) := by unfold Hid provLeaf; rw [hK.out]; rfl
  have hb : Below w.heap.size w (w.alloc (.cells #[.slice none 0 0, .string ⟨#[]⟩, .string ⟨#[]⟩] 51)) := (Below.refl _ _).alloc (Nat.le_refl _) _
  have hR0 : Row3 (w.alloc (.cells #[.slice none 0 0, .string ⟨#[]⟩, .string ⟨#[]⟩] 51)) w.heap.size (.slice none 0 0) (.string ⟨#[]⟩) (.string ⟨#[]⟩) := Row3.of_row (T := 51) (heap_alloc_new _ _)
  have HR := Lib.hid (tright_any v l _ (hv.mono hb))
  unfold ProvePost
  unfold BoolPost at HR
  have fin : ∀ w1, Row3 w1 w.heap.size (.slice none 0 0) (.string ⟨#[]⟩) (.string ⟨#[]⟩) → Below w.heap.size w w1 → Row3 (((w1.setCell ⟨w.heap.size, 0, none⟩ (.slice none 0 0)).setCell ⟨w.heap.size, 1, none⟩ (.string ⟨#[]⟩)).setCell ⟨w.heap.size, 2, none⟩ (.string ⟨#[]⟩)) w.heap.size (.slice none 0 0) (.string ⟨#[]⟩) (.string ⟨#[]⟩) := fun w1 h1 _ => ((h1.set0 _).set1 _).set2 _
  cases hr : rightI l with
  | false =>
    rw [hr] at HR
    clear hv h hr
    go_enter Tryd.func85, Tryd.ntmps85
    go_wp2_with (go_at_call 75; refine HR.out.mono ?_; rintro e w1 ⟨rfl, hB1⟩; have hR1 := hR0.mono hB1; have hR1k := hR1; obtain ⟨d0, d1, d2, f0, f1, f2⟩ := hR1k; have hC1 := hb.trans (hB1.mono hb.size); clear hB1)
    have hF := fin _ hR1 hC1
    refine bodyPost_ret (v := .tuple #[.agg #[.slice none 0 0, .string ⟨#[]⟩, .string ⟨#[]⟩], .iface 31 (.int .i64 1)]) ?_ rfl ⟨_, by rw [hK.out, hL.out]; rfl, by rw [hP.out]; exact TReads.nil _ _ _, below_set (below_set (below_set hC1 (Nat.le_refl _) _) (Nat.le_refl _) _) (Nat.le_refl _) _⟩
    obtain ⟨g0, g1, g2, -, -, -⟩ := hF
    simp [results, Tryd.f85, go_sem, g0, g1, g2]
  | true =>
    rw [hr] at HR
    have h16 : ¬ ix.size = 16 := fun h16 => h ⟨hr, h16⟩
    have e1 : ((ix.size : Int) == 16) = false := by rw [beq_eq_false_iff_ne]; omega
    have e2 : ((ix.size : Int) != 16) = true := by rw [bne_iff_ne]; omega
    clear hv h hr h16
    go_enter Tryd.func85, Tryd.ntmps85
    go_wp2_with (go_at_call 75; refine HR.out.mono ?_; rintro e w1 ⟨rfl, hB1⟩; have hR1 := hR0.mono hB1; have hR1k := hR1; obtain ⟨d0, d1, d2, f0, f1, f2⟩ := hR1k; have hC1 := hb.trans (hB1.mono hb.size); clear hB1)
    have hF := fin _ hR1 hC1
    refine bodyPost_ret (v := .tuple #[.agg #[.slice none 0 0, .string ⟨#[]⟩, .string ⟨#[]⟩], .iface 31 (.int .i64 1)]) ?_ rfl ⟨_, by rw [hK.out, hL.out]; rfl, by rw [hP.out]; exact TReads.nil _ _ _, below_set (below_set (below_set hC1 (Nat.le_refl _) _) (Nat.le_refl _) _) (Nat.le_refl _) _⟩
    obtain ⟨g0, g1, g2, -, -, -⟩ := hF
    simp [results, Tryd.f85, go_sem, g0, g1, g2]

theorem own_cases (m : List It) (ix : ByteArray) (d : Nat) : (bitAt ix d = 1 ∧ ownI m ix d = hiI m d ∧ othI m ix d = loI m d) ∨ (bitAt ix d ≠ 1 ∧ ownI m ix d = loI m d ∧ othI m ix d = hiI m d) := by
  unfold ownI othI
  by_cases h : bitAt ix d = 1
  · left; simp [h]
  · right; simp [h]
/-- what is left of a round, once the mark beside the way is appended -/
theorem PRel.next {v0 : Value} {l : List It} {ix : ByteArray} {w : World} {Bp : Nat} {wr W w3 : World} {u u2 v v1 : Value} {d : Nat} {m : List It} {pre : List ByteArray} (h : PRel v0 l ix w Bp wr u d m v pre) (h2 : 2 ≤ m.length) (hW : Below wr.heap.size wr W) (hu : ∀ W, IReads W u m → IReads W u2 (ownI m ix d))
    (hg : W.grownBy w3 v.ownBlock) (ho : Own w3 (Bp + 1) 9 1 v1 (pre.length + 1) (pre.map Value.string ++ [.string (nodeS (othI m ix d) (d + 1))])) :
    PRel v0 l ix w Bp (w3.setCell ⟨Bp, 0, none⟩ v1) u2 (d + 1) (ownI m ix d) v1 (pre ++ [nodeS (othI m ix d) (d + 1)]) := by
  have hlt := h.alike.lt h2
  have hfar := h.far
  have hvb : ∀ k, v.ownBlock = some k → Bp + 1 ≤ k := fun k hk => (h.own.lt k hk).1
  have hne0 : v.ownBlock ≠ some w.heap.size := fun e => by have := hvb _ e; omega
  have hne1 : v.ownBlock ≠ some Bp := fun e => by have := hvb _ e; omega
  have hlw : Bp < wr.heap.size := World.block_lt_of_cell? _ _ h.box.c0
  refine ⟨fun W' hW' => hu _ (h.items _ hW'), h.alike.own ix, (ownI_sub m ix d).trans h.sub, ?_, ?_, ?_, h.far, ?_, ?_, ?_, by rw [List.length_append, h.deep]; rfl⟩
  · rw [← h.path, provP_two h2 hlt, List.append_assoc]; rfl
  · rw [← h.rest, provL_two h2 hlt]
  · exact ((h.res.mono hW).grown hg hne0).other (by omega) 0 _
  · exact ((h.box.mono hW).grown hg hne1).set0 v1
  · have h3 : Own (w3.setCell ⟨Bp, 0, none⟩ v1) (Bp + 1) 9 1 v1 (pre.length + 1) (pre.map Value.string ++ [.string (nodeS (othI m ix d) (d + 1))]) := ho.kept (grownBy_setCell _ _ _ _) (by
      cases hv : v1.ownBlock with
      | none => exact .inl rfl
      | some k => exact .inr (fun e => by have := (ho.lt k hv).1; have e2 := Option.some.inj e; omega))
    simpa using h3
  · exact below_set (((h.below.trans (hW.mono h.below.size)).grown hg (Nat.le_trans h.below.size hW.size) (fun k hk => by have := hvb k hk; omega))) (by omega) _
theorem Own.slice_ {w : World} {base : Nat} {e : TypeId} {size : Nat} {v : Value} {n : Nat} {xs : List Value} (h : Own w base e size v n xs) : ∃ a c, v = .slice a n c := by
  rcases h.shape with ⟨rfl, rfl, _⟩ | ⟨g, cap, rfl, _⟩
  · exact ⟨_, _, rfl⟩
  · exact ⟨_, _, rfl⟩
theorem one_str (s : ByteArray) : ∀ u ∈ [Value.string s], u.oneCell' = true := fun u hu => by rw [List.mem_singleton.1 hu]; rfl
theorem one_of {m : List It} (h : ¬ 2 ≤ m.length) : m = [] ∨ ∃ x, m = [x] := few_cases h
set_option maxRecDepth 100000 in
set_option maxHeartbeats 8000000 in
theorem tprove_ok (v : Value) (l : List It) (ix : ByteArray) (w : World) (hv : IReads w v l) (hr : rightI l = true) (h16 : ix.size = 16) (hk : KAt w 0) : Calls Tryd.prog 85 #[v, .string ix] w (ProvePost l ix w) := by
  have hK : Hid (provK l ix = 0) := by unfold Hid provK; rw [if_pos ⟨hr, h16⟩]
  have hP : Hid (provPath l ix = proveP l ix) := by unfold Hid provPath; rw [hK.out]; rfl
  have hL : Hid (provLeaf l ix = leafI (proveL l ix)) := by unfold Hid provLeaf; rw [hK.out]; rfl
  have hb : Below w.heap.size w (w.alloc (.cells #[.slice none 0 0, .string ⟨#[]⟩, .string ⟨#[]⟩] 51)) := (Below.refl _ _).alloc (Nat.le_refl _) _
  have hR0 : Row3 (w.alloc (.cells #[.slice none 0 0, .string ⟨#[]⟩, .string ⟨#[]⟩] 51)) w.heap.size (.slice none 0 0) (.string ⟨#[]⟩) (.string ⟨#[]⟩) := Row3.of_row (T := 51) (heap_alloc_new _ _)
  have HR := Lib.hid (tright_any v l _ (hv.mono hb))
  have HLd := Lib.hid (prove_led ix hr)
  have Hri := Lib.hid ((rightI_iff l).1 hr)
  have Hal := Lib.hid (alike_of_right hr)
  have Hv := Lib.hid hv
  have Hk := Lib.hid hk
  have H16 := Lib.hid h16
  have e1 : (ix.size : Int) = 16 := by omega
  have hsh := Lib.hid hv.shape
  unfold BoolPost at HR
  rw [hr] at HR
  clear hv hr hk h16
  go_enter Tryd.func85, Tryd.ntmps85
  go_wp2_with (go_at_call 75; refine HR.out.mono ?_; rintro e w1 ⟨rfl, hB1⟩; have hR1 := hR0.mono hB1; have hC1 := hb.trans (hB1.mono hb.size); clear hB1)
  obtain ⟨Bp, hBp⟩ : ∃ Bp, Bp = w1.heap.size := ⟨_, rfl⟩
  have hfar : w.heap.size < Bp := by rw [hBp]; exact World.block_lt_of_cell? _ _ hR1.c0
  have hP0 : PRel v l ix w Bp (w1.alloc (.cells #[.slice none 0 0, .string ⟨#[]⟩, .string ⟨#[]⟩] 51)) v 0 l (.slice none 0 0) [] := by
    refine ⟨fun _ h => h, Hal.out, List.Sublist.refl _, rfl, rfl, hR1.alloc _, hfar, ?_, Own.nil _ _ _ _, hC1.alloc hC1.size _, rfl⟩
    rw [hBp]
    exact Row3.of_row (T := 51) (heap_alloc_new _ _)
  rw [← hBp]
  have HBp := Lib.hid hBp
  generalize w1.alloc (.cells #[.slice none 0 0, .string ⟨#[]⟩, .string ⟨#[]⟩] 51) = W0 at hP0 ⊢
  clear hBp hR1 hC1 hR0 hb HR
  go_loopw [0, 7] (fun t0 t7 wr => ∃ (u : Value) (d : Nat) (m : List It) (pv : Value) (pre : List ByteArray), t0 = u ∧ t7 = .int .i64 d ∧ PRel v l ix w Bp wr u d m pv pre) (fun _ t7 _ => 128 - (intOf t7).toNat)
  case atStart => exact ⟨v, 0, l, _, [], rfl, rfl, hP0⟩
  case round =>
    obtain ⟨u, d, m, pv, pre, rfl, rfl, hrel⟩ := hrel
    have hIr := hrel.items _ (Hv.out.mono hrel.below)
    obtain ⟨a, cap, rfl, hncap⟩ := hIr.shape
    have HRel := Lib.hid hrel
    have HIr := Lib.hid hIr
    have hl60 : m.length ≤ 60 := Nat.le_trans hrel.sub.length_le Hri.out.1
    obtain ⟨n, hn⟩ : ∃ n, n = m.length := ⟨_, rfl⟩
    have Hn := Lib.hid hn
    rw [← hn] at hl60 HIr HRel
    by_cases h2 : 2 ≤ m.length
    · have hd := hrel.alike.lt h2
      have hn1 : (1 : Int) < n := by omega
      have HH := Lib.hid (thalves_any _ m d wr hIr (by omega) hrel.alike.size hd)
      have HB := Lib.hid (fun W => tbit_any ix d W H16.out hd)
      have HN := Lib.hid (fun (W : World) (u : Value) (hW : Below w.heap.size w W) (hu : IReads W u (othI m ix d)) => tnode_any (128 - (d + 1)) (d + 1) u (othI m ix d) W (by omega) (hrel.alike.oth ix) hu (by have h3 : (othI m ix d).length ≤ m.length := by { rcases own_cases m ix d with ⟨_, _, h⟩ | ⟨_, _, h⟩ <;> rw [h]; exact (List.takeWhile_sublist _).length_le; exact (List.dropWhile_sublist _).length_le }; omega) (fun x hx => by
        have h3 : x ∈ m := by
          rcases own_cases m ix d with ⟨_, _, h⟩ | ⟨_, _, h⟩ <;> rw [h] at hx
          · exact (List.takeWhile_sublist _).subset hx
          · exact (List.dropWhile_sublist _).subset hx
        have := (Hri.out.2.1 x (hrel.sub.subset h3)).2
        omega) (Hk.out.mono hW))
      rw [show (((d + 1 : Nat) : Int)) = (d : Int) + 1 by omega] at HN
      have i1 : IntKind.i64.wrap ((d : Int) + 1) = (d : Int) + 1 := IntWalk.i64_in _ (by omega)
      have hd1 : (d : Int) < 128 := by omega
      rw [← hn] at HH ⊢
      have H2 := Lib.hid h2
      clear hIr hrel hn h2
      go_wp2_with (go_at_call 139; refine HH.out.mono ?_; rintro e w2 ⟨v0, v1, rfl, hB2, hr⟩; have HHr := Lib.hid hr; clear hr)
      rcases own_cases m ix d with ⟨h1, hco, hct⟩ | ⟨h1, hco, hct⟩
      · have HBB := Lib.hid (HB.out w2)
        rw [decide_eq_true h1] at HBB
        have HOwn : Hid (∀ W, IReads W (.slice a n cap) m → IReads W v1 (ownI m ix d)) := fun W hW => by rw [hco]; exact (HHr.out W hW).2
        have HOth : Hid (∀ W, IReads W (.slice a n cap) m → IReads W v0 (othI m ix d)) := fun W hW => by rw [hct]; exact (HHr.out W hW).1
        have HS := Lib.hid (show (nodeS (othI m ix d) (d + 1)).size = 16 from (HRel.out.alike.oth ix).node_size)
        clear h1 hco hct
        go_wp2_with (go_at_call 140; refine HBB.out.mono ?_; rintro e w3 ⟨rfl, hw⟩; have hw2 := hw.symm; subst hw2)
        have q0 := (HRel.out.box.mono hB2).c0
        have y0 := fun x : Grown w2 => x.cell q0
        have hS := InGrown.drew w2
        have C2 := HRel.out.below.trans (hB2.mono HRel.out.below.size)
        refine wp_region_D (fun j => decide (j < 7)) (InGrown w2) 10 (by kernel_rfl) rfl ?_
        refine wpAnyD_take (i := 0) 8 (v := ?_) rfl (by kernel_rfl) (fun _ _ _ h => h) hS (Or.inl ⟨by rfl, ?_⟩) ?_
        case refine_2 => (rintro _ ⟨x, rfl⟩; go_simp <;> with_reducible rfl)
        refine wpAnyD_take (i := 1) 8 (v := ?_) rfl (by kernel_rfl) (fun _ _ _ h => h) hS (Or.inl ⟨by rfl, ?_⟩) ?_
        case refine_2 => (rintro _ ⟨x, rfl⟩; go_simp <;> with_reducible rfl)
        refine wpAnyD_take (i := 2) 8 (v := ?_) rfl (by kernel_rfl) (fun _ _ _ h => h) hS (Or.inl ⟨by rfl, ?_⟩) ?_
        case refine_2 => (rintro _ ⟨x, rfl⟩; go_simp <;> with_reducible rfl)
        refine wpAnyD_take (i := 3) 8 (v := ?_) rfl (by kernel_rfl) (fun _ _ _ h => h) hS (Or.inl ⟨by rfl, ?_⟩) ?_
        case refine_2 => (rintro _ ⟨x, rfl⟩; go_simp <;> with_reducible rfl)
        refine wpAnyD_take (i := 4) 8 (v := ?_) rfl (by kernel_rfl) (fun _ _ _ h => h) hS (Or.inl ⟨by rfl, ?_⟩) ?_
        case refine_2 => (rintro _ ⟨x, rfl⟩; go_simp <;> with_reducible rfl)
        refine wpAnyD_step 5 (by kernel_rfl) rfl (fun K hK => ?_)
        go_simp
        (go_at_call 137; refine (HN.out _ _ C2.drew (HOth.out _ (HIr.out.mono hB2.drew))).mono ?_; rintro e w3 ⟨rfl, hB3⟩; have C3 := C2.drew.trans (hB3.mono C2.drew.size); have G3 := (Below.refl w2.heap.size w2).drew.trans hB3)
        dsimp only
        refine hK _ _ ⟨fun _ => ?_, ?_⟩
        rotate_left
        clear hK K
        case refine_1 => exact .of G3
        refine wpAnyD_step 6 (by kernel_rfl) rfl (fun K hK => ?_)
        go_simp
        refine hK _ _ ⟨fun _ => ?_, ?_⟩
        rotate_left
        clear hK K
        case refine_1 => exact .of (G3.alloc G3.size _)
        refine wpAnyD_rest 7 (by kernel_rfl) (by kernel_rfl) ?_
        simp only [List.drop_succ_cons, List.drop_zero]
        clear y0 hS
        have hG : Below wr.heap.size wr w3 := hB2.trans (G3.mono hB2.size)
        have hOw := Lib.hid (HRel.out.own.below (B := wr.heap.size) hG (fun k hk => (HRel.out.own.lt k hk).2))
        have hbase : Bp + 1 ≤ w3.heap.size := Nat.le_trans (World.block_lt_of_cell? _ _ HRel.out.box.c0) hG.size
        have hNx := Lib.hid (fun v1 w4 hg ho => HRel.out.next (v1 := v1) (w3 := w4) H2.out hG HOwn.out hg ho)
        have hpl : pre.length < 1000 := by have := HRel.out.deep; omega
        have hrow := (HRel.out.box.mono hG).alloc (.cells #[.string (nodeS (othI m ix d) (d + 1))] 9)
        have hvb : Hid (pv.ownBlock ≠ some Bp) := fun e => by have := (HRel.out.own.lt _ e).1; omega
        have hvb2 : Hid (pv.ownBlock ≠ some w3.heap.size) := fun e => by have := (HRel.out.own.lt _ e).2; have := hG.size; omega
        generalize nodeS (othI m ix d) (d + 1) = S at *
        go_wp2_with (at_builtin; refine app_lit rfl _ _ 22 rfl (Bp + 1) 9 _ 1 16 u_strs i_str rfl (by decide) _ _ _ rfl hOw.out 1 _ rfl rfl (one_str S) (by omega) (by omega) hbase ?_; intro v4 w4 hown4 hgrow4; obtain ⟨g4, c4, rfl, -⟩ := hown4.some_ (Nat.succ_pos _); have HO4 := Lib.hid hown4; have HG4 := Lib.hid hgrow4; obtain ⟨p0, p1, p2, f0, f1, f2⟩ := (HRel.out.box.mono hG).grown hgrow4 hvb.out; clear hown4 hgrow4 p1 p2 f1 f2 hrow)
        go_roundw
        case rel => exact ⟨_, d + 1, _, _, _, rfl, by go_num, hNx.out _ _ HG4.out HO4.out⟩
        case measure => simp [intOf]; omega
      · have HBB := Lib.hid (HB.out w2)
        rw [decide_eq_false h1] at HBB
        have HOwn : Hid (∀ W, IReads W (.slice a n cap) m → IReads W v0 (ownI m ix d)) := fun W hW => by rw [hco]; exact (HHr.out W hW).1
        have HOth : Hid (∀ W, IReads W (.slice a n cap) m → IReads W v1 (othI m ix d)) := fun W hW => by rw [hct]; exact (HHr.out W hW).2
        have HS := Lib.hid (show (nodeS (othI m ix d) (d + 1)).size = 16 from (HRel.out.alike.oth ix).node_size)
        clear h1 hco hct
        go_wp2_with (go_at_call 140; refine HBB.out.mono ?_; rintro e w3 ⟨rfl, hw⟩; have hw2 := hw.symm; subst hw2)
        have q0 := (HRel.out.box.mono hB2).c0
        have y0 := fun x : Grown w2 => x.cell q0
        have hS := InGrown.drew w2
        have C2 := HRel.out.below.trans (hB2.mono HRel.out.below.size)
        refine wp_region_D (fun j => decide (j < 7)) (InGrown w2) 10 (by kernel_rfl) rfl ?_
        refine wpAnyD_take (i := 0) 8 (v := ?_) rfl (by kernel_rfl) (fun _ _ _ h => h) hS (Or.inl ⟨by rfl, ?_⟩) ?_
        case refine_2 => (rintro _ ⟨x, rfl⟩; go_simp <;> with_reducible rfl)
        refine wpAnyD_take (i := 1) 8 (v := ?_) rfl (by kernel_rfl) (fun _ _ _ h => h) hS (Or.inl ⟨by rfl, ?_⟩) ?_
        case refine_2 => (rintro _ ⟨x, rfl⟩; go_simp <;> with_reducible rfl)
        refine wpAnyD_take (i := 2) 8 (v := ?_) rfl (by kernel_rfl) (fun _ _ _ h => h) hS (Or.inl ⟨by rfl, ?_⟩) ?_
        case refine_2 => (rintro _ ⟨x, rfl⟩; go_simp <;> with_reducible rfl)
        refine wpAnyD_take (i := 3) 8 (v := ?_) rfl (by kernel_rfl) (fun _ _ _ h => h) hS (Or.inl ⟨by rfl, ?_⟩) ?_
        case refine_2 => (rintro _ ⟨x, rfl⟩; go_simp <;> with_reducible rfl)
        refine wpAnyD_take (i := 4) 8 (v := ?_) rfl (by kernel_rfl) (fun _ _ _ h => h) hS (Or.inl ⟨by rfl, ?_⟩) ?_
        case refine_2 => (rintro _ ⟨x, rfl⟩; go_simp <;> with_reducible rfl)
        refine wpAnyD_step 5 (by kernel_rfl) rfl (fun K hK => ?_)
        go_simp
        (go_at_call 137; refine (HN.out _ _ C2.drew (HOth.out _ (HIr.out.mono hB2.drew))).mono ?_; rintro e w3 ⟨rfl, hB3⟩; have C3 := C2.drew.trans (hB3.mono C2.drew.size); have G3 := (Below.refl w2.heap.size w2).drew.trans hB3)
        dsimp only
        refine hK _ _ ⟨fun _ => ?_, ?_⟩
        rotate_left
        clear hK K
        case refine_1 => exact .of G3
        refine wpAnyD_step 6 (by kernel_rfl) rfl (fun K hK => ?_)
        go_simp
        refine hK _ _ ⟨fun _ => ?_, ?_⟩
        rotate_left
        clear hK K
        case refine_1 => exact .of (G3.alloc G3.size _)
        refine wpAnyD_rest 7 (by kernel_rfl) (by kernel_rfl) ?_
        simp only [List.drop_succ_cons, List.drop_zero]
        clear y0 hS
        have hG : Below wr.heap.size wr w3 := hB2.trans (G3.mono hB2.size)
        have hOw := Lib.hid (HRel.out.own.below (B := wr.heap.size) hG (fun k hk => (HRel.out.own.lt k hk).2))
        have hbase : Bp + 1 ≤ w3.heap.size := Nat.le_trans (World.block_lt_of_cell? _ _ HRel.out.box.c0) hG.size
        have hNx := Lib.hid (fun v1 w4 hg ho => HRel.out.next (v1 := v1) (w3 := w4) H2.out hG HOwn.out hg ho)
        have hpl : pre.length < 1000 := by have := HRel.out.deep; omega
        have hrow := (HRel.out.box.mono hG).alloc (.cells #[.string (nodeS (othI m ix d) (d + 1))] 9)
        have hvb : Hid (pv.ownBlock ≠ some Bp) := fun e => by have := (HRel.out.own.lt _ e).1; omega
        have hvb2 : Hid (pv.ownBlock ≠ some w3.heap.size) := fun e => by have := (HRel.out.own.lt _ e).2; have := hG.size; omega
        generalize nodeS (othI m ix d) (d + 1) = S at *
        go_wp2_with (at_builtin; refine app_lit rfl _ _ 22 rfl (Bp + 1) 9 _ 1 16 u_strs i_str rfl (by decide) _ _ _ rfl hOw.out 1 _ rfl rfl (one_str S) (by omega) (by omega) hbase ?_; intro v4 w4 hown4 hgrow4; obtain ⟨g4, c4, rfl, -⟩ := hown4.some_ (Nat.succ_pos _); have HO4 := Lib.hid hown4; have HG4 := Lib.hid hgrow4; obtain ⟨p0, p1, p2, f0, f1, f2⟩ := (HRel.out.box.mono hG).grown hgrow4 hvb.out; clear hown4 hgrow4 p1 p2 f1 f2 hrow)
        go_roundw
        case rel => exact ⟨_, d + 1, _, _, _, rfl, by go_num, hNx.out _ _ HG4.out HO4.out⟩
        case measure => simp [intOf]; omega
    · have hn1 : ¬ (1 : Int) < n := by omega
      have hd1 : decide (1 < n) = false := decide_eq_false (by omega)
      have hpr : Hid (proveP l ix = pre) := by unfold Hid; rw [← hrel.path, provP_one h2, List.append_nil]
      have hrs : Hid (proveL l ix = m) := by unfold Hid; rw [← hrel.rest, provL_one h2]
      obtain ⟨pa, pc, rfl⟩ := hrel.own.slice_
      generalize pre.length = pn at *
      rcases few_cases h2 with rfl | ⟨x, rfl⟩
      · obtain rfl : n = 0 := Hn.out
        have hlf : Hid (provLeaf l ix = ⟨⟨#[]⟩, ⟨#[]⟩⟩) := by unfold Hid; rw [hL.out, hrs.out]; rfl
        obtain ⟨q0, q1, q2, f0, f1, f2⟩ := hrel.box
        obtain ⟨r0, r1, r2, g0, g1, g2⟩ := hrel.res
        clear hrel h2 hIr hn
        go_wp2_with fail
        have hF := ((HRel.out.res.set0 (.slice pa pn pc)).set1 (.string ⟨#[]⟩)).set2 (.string ⟨#[]⟩)
        refine bodyPost_ret (v := .tuple #[.agg #[.slice pa pn pc, .string ⟨#[]⟩, .string ⟨#[]⟩], .nilIface]) ?_ rfl ⟨_, by rw [hK.out, hlf.out]; rfl, ?_, below_set (below_set (below_set HRel.out.below (Nat.le_refl _) _) (Nat.le_refl _) _) (Nat.le_refl _) _⟩
        · obtain ⟨k0, k1, k2, -, -, -⟩ := hF
          simp [results, Tryd.f85, go_sem, k0, k1, k2]
        · rw [hP.out, hpr.out]
          refine TReads.of_own (base := Bp + 1) ?_
          have hne : (Value.slice pa pn pc).ownBlock = none ∨ (Value.slice pa pn pc).ownBlock ≠ some w.heap.size := by
            cases hv : (Value.slice pa pn pc).ownBlock with
            | none => exact .inl rfl
            | some k => exact .inr (fun e => by have := (HRel.out.own.lt k hv).1; have := HRel.out.far; have e2 := Option.some.inj e; omega)
          exact ((HRel.out.own.kept (grownBy_setCell _ _ _ _) hne).kept (grownBy_setCell _ _ _ _) hne).kept (grownBy_setCell _ _ _ _) hne
      · obtain rfl : n = 1 := Hn.out
        have hlf : Hid (provLeaf l ix = x) := by unfold Hid; rw [hL.out, hrs.out]; rfl
        obtain ⟨b, off, rfl, c0, c1⟩ := hIr.at (k := 0) (x := x) rfl
        rw [Nat.zero_mul, Nat.add_zero] at c0 c1
        obtain ⟨q0, q1, q2, f0, f1, f2⟩ := hrel.box
        obtain ⟨r0, r1, r2, g0, g1, g2⟩ := hrel.res
        have hB2 := ((hrel.box.set1 (.string x.ix)).set2 (.string x.cm))
        have hfar := hrel.far
        have hR2 := ((hrel.res.other (c := Bp) (by omega) 1 (.string x.ix)).other (c := Bp) (by omega) 2 (.string x.cm))
        obtain ⟨m0, m1, m2, -, -, -⟩ := hB2
        have hR2k := hR2
        obtain ⟨s0, s1, s2, t0, t1, t2⟩ := hR2k
        have HR2 := Lib.hid hR2
        have HF2 := Lib.hid hfar
        clear hrel h2 hIr hn hR2 hfar
        go_wp2_with fail
        have hF := ((HR2.out.set0 (.slice pa pn pc)).set1 (.string x.ix)).set2 (.string x.cm)
        have hfr := HF2.out
        refine bodyPost_ret (v := .tuple #[.agg #[.slice pa pn pc, .string x.ix, .string x.cm], .nilIface]) ?_ rfl ⟨_, by rw [hK.out, hlf.out]; rfl, ?_, below_set (below_set (below_set (below_set (below_set HRel.out.below (by omega) _) (by omega) _) (Nat.le_refl _) _) (Nat.le_refl _) _) (Nat.le_refl _) _⟩
        · obtain ⟨k0, k1, k2, -, -, -⟩ := hF
          simp [results, Tryd.f85, go_sem, k0, k1, k2]
        · rw [hP.out, hpr.out]
          refine TReads.of_own (base := Bp + 1) ?_
          have hne : (Value.slice pa pn pc).ownBlock = none ∨ (Value.slice pa pn pc).ownBlock ≠ some w.heap.size := by
            cases hv : (Value.slice pa pn pc).ownBlock with
            | none => exact .inl rfl
            | some k => exact .inr (fun e => by have := (HRel.out.own.lt k hv).1; have e2 := Option.some.inj e; omega)
          have hne2 : (Value.slice pa pn pc).ownBlock = none ∨ (Value.slice pa pn pc).ownBlock ≠ some Bp := by
            cases hv : (Value.slice pa pn pc).ownBlock with
            | none => exact .inl rfl
            | some k => exact .inr (fun e => by have := (HRel.out.own.lt k hv).1; have e2 := Option.some.inj e; omega)
          exact ((((HRel.out.own.kept (grownBy_setCell _ _ _ _) hne2).kept (grownBy_setCell _ _ _ _) hne2).kept (grownBy_setCell _ _ _ _) hne).kept (grownBy_setCell _ _ _ _) hne).kept (grownBy_setCell _ _ _ _) hne
theorem tprove_any (v : Value) (l : List It) (ix : ByteArray) (w : World) (hv : IReads w v l) (hk : KAt w 0) : Calls Tryd.prog 85 #[v, .string ix] w (ProvePost l ix w) := by
  by_cases h : rightI l = true ∧ ix.size = 16
  · exact tprove_ok v l ix w hv h.1 h.2 hk
  · exact tprove_no v l ix w hv h
end Go.Proofs.YtfhjnfocmlndpaaDoor
