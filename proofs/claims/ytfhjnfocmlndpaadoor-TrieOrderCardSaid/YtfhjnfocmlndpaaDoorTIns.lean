/- slices.Insert of one item into a row of the call's own. -/
import Derived.Test.YtfhjnfocmlndpaaDoorTSet
import Derived.Lib.Overlaps
import Derived.Laws.Externs
namespace Go.Proofs.YtfhjnfocmlndpaaDoor
open Go Go.RowKit Go.Proofs

def insI (l : List It) (k : Nat) (x : It) : List It := l.take k ++ x :: l.drop k
theorem insI_cells (l : List It) (k : Nat) (x : It) : icells (insI l k x) = (icells l).take (k * 2) ++ [.string x.ix, .string x.cm] ++ (icells l).drop (k * 2) := by
  unfold insI
  rw [icells_app, icells_cons, icells_take, icells_drop, List.append_assoc]
  rfl
theorem insI_length {l : List It} {k : Nat} (hk : k ≤ l.length) (x : It) : (insI l k x).length = l.length + 1 := by unfold insI; simp; omega
/-- what comes of an insertion: a row of the call's own -/
def InsPost (base : Nat) (l : List It) (w : World) (e : Ending) (w' : World) : Prop := ∃ v', e = .returned v' ∧ Own w' base 49 2 v' l.length (icells l) ∧ Below base w w'
theorem item_cells_one (x : It) : ∀ u ∈ [Value.string x.ix, Value.string x.cm], u.oneCell' = true := by
  intro u hu
  simp only [List.mem_cons, List.not_mem_nil, or_false] at hu
  rcases hu with rfl | rfl <;> rfl
set_option maxRecDepth 20000 in
set_option maxHeartbeats 2000000 in
theorem tins_end (base : Nat) (v : Value) (l : List It) (x : It) (w : World) (hown : Own w base 49 2 v l.length (icells l)) (hbase : base ≤ w.heap.size) (hl : l.length ≤ 1000) :
    Calls Tryd.prog 164 #[v, .int .i64 (l.length : Nat), .slice (some ⟨w.heap.size, 0, none⟩) 1 1] (w.alloc (.cells #[.string x.ix, .string x.cm] 49)) (InsPost base (insI l l.length x) w) := by
  have HI := Lib.hid (insI_cells l l.length x)
  have HL := Lib.hid (insI_length (Nat.le_refl l.length) x)
  have HC := Lib.hid (icells_length l)
  have HO := Lib.hid hown
  have hbw : Below base w (w.alloc (.cells #[.string x.ix, .string x.cm] 49)) := (Below.refl _ _).alloc hbase _
  obtain ⟨n, hn⟩ : ∃ n, n = l.length := ⟨_, rfl⟩
  rw [← hn] at HI HL HC HO hl ⊢
  have hsh := hown.shape
  rw [← hn] at hsh
  unfold InsPost
  rw [HI.out, HL.out, List.take_of_length_le (by rw [HC.out]; omega), List.drop_of_length_le (by rw [HC.out]; omega), List.append_nil]
  generalize icells l = C at *
  clear hown hn HI HL HC
  rcases hsh with ⟨rfl, h0, -⟩ | ⟨g, cap, rfl, ho, hbg, hg, hnc, hcm⟩
  · subst h0
    go_enter Tryd.func164, Tryd.ntmps164
    go_wp2_with (at_builtin; refine app_lit rfl _ _ 115 rfl base 49 _ 2 32 u_items i_item rfl (by decide) _ _ _ rfl HO.out 1 _ rfl rfl (item_cells_one x) (by omega) (by omega) hbase ?_; intro v1 w1 hown1 hgrow1)
    go_ret
    exact ⟨_, rfl, hown1, (Below.refl base w).grown hgrow1 hbase (fun k hk => by cases hk)⟩
  · have hcm2 : cap ≤ 9223372036854775807 := hcm
    clear hcm
    by_cases hck : cap = n
    · subst hck
      go_enter Tryd.func164, Tryd.ntmps164
      go_wp2_with (at_builtin; refine app_lit rfl _ _ 115 rfl base 49 _ 2 32 u_items i_item rfl (by decide) _ _ _ rfl HO.out 1 _ rfl rfl (item_cells_one x) (by omega) (by omega) hbase ?_; intro v1 w1 hown1 hgrow1)
      go_ret
      exact ⟨_, rfl, hown1, (Below.refl base w).grown hgrow1 hbase (fun k hk => by cases hk; exact hbg)⟩
    · have e1 : ((n : Int)) ≤ cap := by omega
      go_enter Tryd.func164, Tryd.ntmps164
      go_wp2_with (at_builtin; refine app_lit rfl _ _ 115 rfl base 49 _ 2 32 u_items i_item rfl (by decide) _ _ _ rfl HO.out 1 _ rfl rfl (item_cells_one x) (by omega) (by omega) hbase ?_; intro v1 w1 hown1 hgrow1)
      go_ret
      exact ⟨_, rfl, hown1, (Below.refl base w).grown hgrow1 hbase (fun k hk => by cases hk; exact hbg)⟩

theorem cells_of_row2 {w : World} {b : Nat} {cs : List Value} {T : TypeId} {fr : Nat × Nat} (h : w.heap[b]? = some (.cells cs.toArray T fr)) : ∀ j u, cs[j]? = some u → w.cell? ((⟨b, 0, none⟩ : Addr).add j) = some u := by
  intro j u hu
  rw [add_addr, cell_of_row _ _ _ _ _ _ h]
  simpa using hu
/-- a piece put into a list -/
theorem put_mid {α : Type} (A Z X : List α) (a : Nat) (ha : a = A.length) : (A ++ Z).take a ++ X ++ (A ++ Z).drop (a + X.length) = A ++ X ++ Z.drop X.length := by
  subst ha
  rw [List.take_left, List.drop_append, List.drop_of_length_le (by omega), List.nil_append, Nat.add_sub_cancel_left]
set_option maxRecDepth 20000 in
set_option maxHeartbeats 4000000 in
theorem tins_grow (base : Nat) (g cap k : Nat) (l : List It) (x : It) (w : World) (hown : Own w base 49 2 (.slice (some ⟨g, 0, none⟩) l.length cap) l.length (icells l)) (hbase : base ≤ w.heap.size) (hl : l.length ≤ 1000) (hk : k < l.length) (hcap : cap < l.length + 1) :
    Calls Tryd.prog 164 #[.slice (some ⟨g, 0, none⟩) l.length cap, .int .i64 (k : Nat), .slice (some ⟨w.heap.size, 0, none⟩) 1 1] (w.alloc (.cells #[.string x.ix, .string x.cm] 49)) (InsPost base (insI l k x) w) := by
  have HI := Lib.hid (insI_cells l k x)
  have HL := Lib.hid (insI_length (Nat.le_of_lt hk) x)
  have HC := Lib.hid (icells_length l)
  have H1 := Lib.hid (icells_one l)
  have hc1 := hown.cap_le
  have hglt := (hown.lt g rfl)
  obtain ⟨n, hn⟩ : ∃ n, n = l.length := ⟨_, rfl⟩
  rw [← hn] at HL HC hl hown hk hcap hc1 ⊢
  obtain rfl : cap = n := by omega
  unfold InsPost
  rw [HI.out, HL.out]
  generalize icells l = C at *
  clear hn HI HL hcap hc1
  have hbw : Below base w (w.alloc (.cells #[.string x.ix, .string x.cm] 49)) := (Below.refl _ _).alloc hbase _
  have hX0 := heap_alloc_new w (.cells #[.string x.ix, .string x.cm] 49)
  have hO := Lib.hid (hown.alloc (.cells #[.string x.ix, .string x.cm] 49))
  obtain ⟨W, hW⟩ : ∃ W, W = w.alloc (.cells #[.string x.ix, .string x.cm] 49) := ⟨_, rfl⟩
  have hz : W.heap.size = w.heap.size + 1 := by rw [hW]; simp
  rw [← hW] at hbw hX0 hO ⊢
  have e1 : ((k : Int) == cap) = false := by rw [beq_eq_false_iff_ne]; omega
  have e2 : (k : Int) ≤ cap := by omega
  have e3 : ¬ cap = k := by omega
  have e4 : (cap : Int) < (cap : Int) + 1 := by omega
  have i1 : IntKind.i64.wrap ((cap : Int) + 1 - k) = ((cap + 1 - k : Nat) : Int) := by rw [IntWalk.i64_in _ (by omega)]; omega
  have hmin1 : Hid (Nat.min 1 (cap + 1 - k) = 1) := Nat.min_eq_left (by omega)
  have hmin2 : Hid (Nat.min (cap - k) (cap - k) = cap - k) := Nat.min_self _
  have hdl : Hid ((C.drop (k * 2)).length = (cap - k) * 2) := by unfold Hid; rw [List.length_drop, HC.out, Nat.sub_mul]
  have hbnd : Hid (Own W base 49 2 (.slice (some ⟨g, 0, none⟩) cap cap) cap C) := hO
  have hcell : Hid (∀ (W' : World), (∀ j, j < W.heap.size → W'.heap[j]? = W.heap[j]?) → (∀ j u, [Value.string x.ix, Value.string x.cm][j]? = some u → W'.cell? ((⟨w.heap.size, 0, none⟩ : Addr).add j) = some u) ∧ ∀ j u, (C.drop (k * 2))[j]? = some u → W'.cell? ((⟨g, k * 2, none⟩ : Addr).add j) = some u) := fun W' hW' => by
    refine ⟨cells_of_row2 (T := 49) (fr := (0, 0)) (by rw [hW' _ (by omega)]; exact hX0), fun j u hu => ?_⟩
    rw [List.getElem?_drop] at hu
    have h := hO.out.cell (g := g) rfl hu
    rw [Addr.add_lit, World.cell?_of_block (w := W) (a := ⟨g, k * 2 + j, none⟩) (hW' g (by omega))]
    exact h
  have hWs : W.heap.size = w.heap.size + 1 := hz
  have HZz := Lib.hid hz
  clear hW hown hz hX0
  go_enter Tryd.func164, Tryd.ntmps164
  go_wp2_with (first
    | (at_builtin; refine app_zeros rfl _ _ 115 3 rfl base 49 _ 2 32 .i64 u_items u_int i_item rfl (by decide) g cap cap C hO.out k (cap + 1 - k) (cap + 1) (by omega) (by omega) rfl rfl (by omega) (by omega) (by omega) (by omega) (by omega) ?_; intro c1 w1 zs hzl hown1 hc1 hc2 hgrow1 hlt1; rw [HZz.out] at hown1 hlt1; have HZ := Lib.hid hzl; have HO1 := Lib.hid hown1; have HG1 := Lib.hid hgrow1; clear hzl hown1 hgrow1; have e5 : ¬ c1 = k := (by omega); have e6 : (k : Int) ≤ (cap : Int) + 1 := (by omega))
    | (refine copy_own rfl (.tmp 43) (.tmp 44) 115 115 rfl base 49 _ 2 32 u_items i_item (w.heap.size + 1) (cap + 1) c1 _ HO1.out (k * 2) (cap + 1 - k) (c1 - k) rfl ⟨w.heap.size, 0, none⟩ 1 1 [.string x.ix, .string x.cm] rfl 1 hmin1.out rfl (hcell.out w1 (fun j hj => HG1.out.block j hj (by simp))).1 (item_cells_one x) (by have := HZ.out; rw [List.length_append, this, List.length_take, HC.out]; simp; omega) ?_; intro w2 hown2 hgrow2; have HO2 := Lib.hid hown2; have HG2 := Lib.hid hgrow2; clear hown2 hgrow2; have e7 : (k : Int) + 1 ≤ (cap : Int) + 1 := (by omega); have e8 : ¬ c1 = k + 1 := (by omega)))
  have i2 : IntKind.i64.wrap ((k : Int) + 1) = (k : Int) + 1 := IntWalk.i64_in _ (by omega)
  have i3 : ((k : Int) + 1).toNat = k + 1 := by omega
  have i4 : (0 : Int) ≤ (k : Int) + 1 := by omega
  go_still_tail 8, (by kernel_rfl)
  change wpList _ _ _ _ _ w2.drew
  have hB1 : Below base w w1 := hbw.grown HG1.out (Nat.le_trans hbase hbw.size) (fun k hk => by cases hk)
  have hB2 : Below base w w2 := hB1.grown HG2.out (Nat.le_trans hbase hB1.size) (fun k hk => by cases hk; omega)
  have p1 := put_mid (C.take (k * 2)) zs [Value.string x.ix, Value.string x.cm] (k * 2) (by rw [List.length_take, HC.out]; omega)
  have hX2 : [Value.string x.ix, Value.string x.cm].length = 2 := rfl
  have p2 := put_mid (C.take (k * 2) ++ [Value.string x.ix, Value.string x.cm]) (zs.drop 2) (C.drop (k * 2)) ((k + 1) * 2) (by rw [List.length_append, List.length_take, HC.out, hX2]; omega)
  have hzd : ((zs.drop 2).drop (C.drop (k * 2)).length) = [] := by rw [List.drop_drop, hdl.out]; exact List.drop_of_length_le (by rw [HZ.out]; omega)
  have hfit : (k + 1) * 2 + (C.drop (k * 2)).length ≤ (C.take (k * 2) ++ [Value.string x.ix, Value.string x.cm] ++ zs.drop [Value.string x.ix, Value.string x.cm].length).length := by
    simp only [List.length_append, List.length_take, List.length_drop, HC.out, HZ.out, hX2]
    omega
  have HO3 := HO2.out.drew
  rw [p1] at HO3
  refine copy_own rfl (.tmp 50) (.tmp 53) 115 115 rfl base 49 _ 2 32 u_items i_item (w.heap.size + 1) (cap + 1) c1 _ HO3 ((k + 1) * 2) (cap - k) (c1 - (k + 1)) rfl ⟨g, k * 2, none⟩ (cap - k) (cap - k) (C.drop (k * 2)) rfl (cap - k) hmin2.out hdl.out (hcell.out w2.drew (fun j hj => (HG2.out.block j (Nat.lt_trans hj (by omega)) (by simp; omega)).trans (HG1.out.block j hj (by simp)))).2 (fun u hu => H1.out u (List.mem_of_mem_drop hu)) hfit ?_
  intro w3 hown3 hgrow3
  rw [show [Value.string x.ix, Value.string x.cm].length = 2 from rfl, p2, hzd, List.append_nil] at hown3
  have HO4 := Lib.hid hown3
  have hB3 := Lib.hid (hB2.drew.grown hgrow3 (Nat.le_trans hbase hB2.size) (fun k hk => by cases hk; omega))
  clear p1 p2 hzd HO3 hown3 hgrow3 hX2
  go_wp2_with fail
  go_ret
  exact ⟨_, rfl, HO4.out, hB3.out⟩

set_option maxRecDepth 20000 in
set_option maxHeartbeats 4000000 in
theorem tins_shift (base : Nat) (g cap k : Nat) (l : List It) (x : It) (w : World) (hown : Own w base 49 2 (.slice (some ⟨g, 0, none⟩) l.length cap) l.length (icells l)) (hbase : base ≤ w.heap.size) (hl : l.length ≤ 1000) (hk : k < l.length) (hcap : l.length + 1 ≤ cap) :
    Calls Tryd.prog 164 #[.slice (some ⟨g, 0, none⟩) l.length cap, .int .i64 (k : Nat), .slice (some ⟨w.heap.size, 0, none⟩) 1 1] (w.alloc (.cells #[.string x.ix, .string x.cm] 49)) (InsPost base (insI l k x) w) := by
  have HI := Lib.hid (insI_cells l k x)
  have HL := Lib.hid (insI_length (Nat.le_of_lt hk) x)
  have HC := Lib.hid (icells_length l)
  have H1 := Lib.hid (icells_one l)
  have hc1 := hown.cap_le
  have hglt := (hown.lt g rfl)
  obtain ⟨n, hn⟩ : ∃ n, n = l.length := ⟨_, rfl⟩
  rw [← hn] at HL HC hl hown hk hcap hc1 ⊢
  have hcm : cap ≤ 9223372036854775807 := hc1.2
  unfold InsPost
  rw [HI.out, HL.out]
  generalize icells l = C at *
  clear hn HI HL hc1
  have hbw : Below base w (w.alloc (.cells #[.string x.ix, .string x.cm] 49)) := (Below.refl _ _).alloc hbase _
  have hX0 := heap_alloc_new w (.cells #[.string x.ix, .string x.cm] 49)
  have hO := Lib.hid (hown.alloc (.cells #[.string x.ix, .string x.cm] 49))
  obtain ⟨W, hW⟩ : ∃ W, W = w.alloc (.cells #[.string x.ix, .string x.cm] 49) := ⟨_, rfl⟩
  have hz : W.heap.size = w.heap.size + 1 := by rw [hW]; simp
  rw [← hW] at hbw hX0 hO ⊢
  have hov : ∀ lb cb, (callFunc 186 #[.slice (some ⟨w.heap.size, 0, none⟩) 1 1, .slice (some ⟨g, (k + 1) * 2, none⟩) lb cb]).run Tryd.prog W = .ok (.value (.bool false)) W := fun lb cb => by
    obtain ⟨kB, hsb, hkB⟩ := hO.out.plain
    rw [run_callFunc_extern Tryd.func186 (by kernel_rfl) (by kernel_rfl) (by kernel_rfl) (e := Extern.SlicesOverlaps.overlaps #[115, 115] #[4]) (by kernel_rfl),
      Lib.run_overlaps_apart W 115 4 49 u_items 2 (fun w => by kernel_rfl) ⟨w.heap.size, 0, none⟩ ⟨g, (k + 1) * 2, none⟩ 1 1 lb cb (by show w.heap.size ≠ g; omega) 49 49 2 kB (by simp [World.shape?, hX0]) hsb (by omega) (by simp [World.frozen?, hX0]) (by simp [World.frozen?, hX0])]
    rfl
  obtain ⟨ys, hys, hE⟩ := hO.out.extend 1 (by omega)
  have HYs := Lib.hid hys
  have HE := Lib.hid hE
  clear hys hE
  have e1 : ((k : Int) == n) = false := by rw [beq_eq_false_iff_ne]; omega
  have e2 : (k : Int) ≤ cap := by omega
  have e3 : ¬ cap = k := by omega
  have e4 : ¬ (cap : Int) < (n : Int) + 1 := by omega
  have e5 : (n : Int) + 1 ≤ cap := by omega
  have e6 : (k : Int) ≤ (n : Int) + 1 := by omega
  have e7 : ¬ cap = k + 1 := by omega
  have e8 : (k : Int) + 1 ≤ (n : Int) + 1 := by omega
  have i2 : IntKind.i64.wrap ((k : Int) + 1) = (k : Int) + 1 := IntWalk.i64_in _ (by omega)
  have i3 : ((k : Int) + 1).toNat = k + 1 := by omega
  have i4 : (0 : Int) ≤ (k : Int) + 1 := by omega
  have hmin1 : Hid (Nat.min (n + 1 - k) (n - k) = n - k) := Nat.min_eq_right (by omega)
  have hmin2 : Hid (Nat.min 1 (n + 1 - k) = 1) := Nat.min_eq_left (by omega)
  have hdl : Hid ((C.drop (k * 2)).length = (n - k) * 2) := by unfold Hid; rw [List.length_drop, HC.out, Nat.sub_mul]
  have hlit : Hid (∀ (W' : World), W'.heap[w.heap.size]? = W.heap[w.heap.size]? → ∀ j u, [Value.string x.ix, Value.string x.cm][j]? = some u → W'.cell? ((⟨w.heap.size, 0, none⟩ : Addr).add j) = some u) := fun W' hW' => cells_of_row2 (T := 49) (fr := (0, 0)) (by rw [hW']; exact hX0)
  have hsrc : Hid (∀ j u, (C.drop (k * 2))[j]? = some u → W.drew.cell? ((⟨g, k * 2, none⟩ : Addr).add j) = some u) := fun j u hu => by
    rw [List.getElem?_drop] at hu
    have h := hO.out.cell (g := g) rfl hu
    rw [Addr.add_lit]
    exact h
  have HZz := Lib.hid hz
  clear hW hown hX0 hz
  go_enter Tryd.func164, Tryd.ntmps164
  go_wp2_with (simp only [hov])
  go_still_tail 8, (by kernel_rfl)
  change wpList _ _ _ _ _ W.drew
  refine copy_own rfl (.tmp 73) (.tmp 76) 115 115 rfl base 49 _ 2 32 u_items i_item g (n + 1) cap _ HE.out.drew ((k + 1) * 2) (n - k) (cap - (k + 1)) rfl ⟨g, k * 2, none⟩ (n + 1 - k) (cap - k) (C.drop (k * 2)) rfl (n - k) hmin1.out hdl.out hsrc.out (fun u hu => H1.out u (List.mem_of_mem_drop hu)) (by rw [List.length_append, HC.out, hdl.out, HYs.out]; omega) ?_
  intro w2 hown2 hgrow2
  have hB2 : Below base w w2 := hbw.drew.grown hgrow2 (Nat.le_trans hbase hbw.size) (fun j hj => by cases hj; exact hglt.1)
  have hL2 := Lib.hid (hlit.out w2 (hgrow2.block w.heap.size (by show w.heap.size < W.heap.size; have := HZz.out; omega) (by simp; omega)))
  have hlen : (C ++ ys).length = (n + 1) * 2 := by rw [List.length_append, HC.out, HYs.out]; omega
  have hd0 : (C ++ ys).drop ((k + 1) * 2 + (C.drop (k * 2)).length) = [] := List.drop_of_length_le (by rw [hlen, hdl.out]; omega)
  have ht0 : (C ++ ys).take ((k + 1) * 2) = C.take ((k + 1) * 2) := List.take_append_of_le_length (by rw [HC.out]; omega)
  rw [hd0, ht0, List.append_nil] at hown2
  have HO2 := Lib.hid hown2
  have HG2 := Lib.hid hgrow2
  clear hown2 hgrow2 hlen hd0 ht0
  go_wp2_with (refine copy_own rfl (.tmp 80) (.tmp 81) 115 115 rfl base 49 _ 2 32 u_items i_item g (n + 1) cap _ HO2.out (k * 2) (n + 1 - k) (cap - k) rfl ⟨w.heap.size, 0, none⟩ 1 1 [.string x.ix, .string x.cm] rfl 1 hmin2.out rfl hL2.out (item_cells_one x) (by rw [List.length_append, List.length_take, HC.out, hdl.out]; simp; omega) ?_; intro w3 hown3 hgrow3; have HO3 := Lib.hid hown3; have HB3 := Lib.hid (hB2.grown hgrow3 (Nat.le_trans hbase hB2.size) (fun j hj => by cases hj; exact hglt.1)); clear hown3 hgrow3)
  go_ret
  refine ⟨_, rfl, ?_, HB3.out⟩
  have h := HO3.out
  have h1 : (C.take ((k + 1) * 2) ++ C.drop (k * 2)).take (k * 2) = C.take (k * 2) := by
    rw [List.take_append_of_le_length (by rw [List.length_take, HC.out]; omega), List.take_take, Nat.min_eq_left (by omega)]
  have h2 : (C.take ((k + 1) * 2) ++ C.drop (k * 2)).drop (k * 2 + [Value.string x.ix, Value.string x.cm].length) = C.drop (k * 2) := by
    have h3 : k * 2 + [Value.string x.ix, Value.string x.cm].length = (C.take ((k + 1) * 2)).length := by rw [List.length_take, HC.out]; show k * 2 + 2 = _; omega
    rw [h3, List.drop_left]
  rw [h1, h2] at h
  exact h
theorem tins_any (base : Nat) (v : Value) (k : Nat) (l : List It) (x : It) (w : World) (hown : Own w base 49 2 v l.length (icells l)) (hbase : base ≤ w.heap.size) (hl : l.length ≤ 1000) (hk : k ≤ l.length) :
    Calls Tryd.prog 164 #[v, .int .i64 (k : Nat), .slice (some ⟨w.heap.size, 0, none⟩) 1 1] (w.alloc (.cells #[.string x.ix, .string x.cm] 49)) (InsPost base (insI l k x) w) := by
  rcases Nat.eq_or_lt_of_le hk with rfl | hlt
  · exact tins_end base v l x w hown hbase hl
  · obtain ⟨g, cap, rfl, _, _, hn, _⟩ := hown.some_ (by omega)
    by_cases hcap : l.length + 1 ≤ cap
    · exact tins_shift base g cap k l x w hown hbase hl hlt hcap
    · exact tins_grow base g cap k l x w hown hbase hl hlt (by omega)
end Go.Proofs.YtfhjnfocmlndpaaDoor
