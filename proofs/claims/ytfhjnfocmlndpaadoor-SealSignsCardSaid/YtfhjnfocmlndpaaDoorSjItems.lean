/- Items, in plain Lean: their order by their indexes' bits, which may be, one more. -/
import Derived.Test.YtfhjnfocmlndpaaDoorSjIndex
import Derived.Test.YtfhjnfocmlndpaaDoorSjSha
namespace Go.Proofs.YtfhjnfocmlndpaaDoor
open Go

/-- an item: both are marks -/
structure It where
  ix : ByteArray
  cm : ByteArray
instance : DecidableEq It := fun a b => decidable_of_iff (a.ix = b.ix ∧ a.cm = b.cm) ⟨fun ⟨h1, h2⟩ => by cases a; cases b; simp_all, fun h => by rw [h]; exact ⟨rfl, rfl⟩⟩

/-! ### the order of texts -/
def ltB (a b : ByteArray) : Bool := Op.bytesLess a.toList b.toList
theorem bytesLess_is : ∀ x y : List UInt8, Op.bytesLess x y = decide (x < y)
  | [], [] => by simp [Op.bytesLess]
  | _ :: _, [] => by simp [Op.bytesLess]
  | [], _ :: _ => by simp [Op.bytesLess]
  | a :: x, b :: y => by
    rw [Op.bytesLess, bytesLess_is x y]
    simp only [List.cons_lt_cons_iff]
    by_cases h1 : a < b <;> by_cases h2 : a = b <;> by_cases h3 : x < y <;> simp [h1, h2, h3]
theorem ltL_irrefl (l : List UInt8) : Op.bytesLess l l = false := by
  rw [bytesLess_is]; exact decide_eq_false (List.lt_irrefl _)
theorem ltL_trans {a b c : List UInt8} (h1 : Op.bytesLess a b = true) (h2 : Op.bytesLess b c = true) : Op.bytesLess a c = true := by
  rw [bytesLess_is, decide_eq_true_iff] at *
  exact List.lt_trans h1 h2
theorem ltL_tri (a b : List UInt8) : Op.bytesLess a b = true ∨ a = b ∨ Op.bytesLess b a = true := by
  rw [bytesLess_is, bytesLess_is, decide_eq_true_iff, decide_eq_true_iff]
  rcases Decidable.em (a < b) with h | h
  · exact .inl h
  · rcases Decidable.em (b < a) with h2 | h2
    · exact .inr (.inr h2)
    · exact .inr (.inl (List.le_antisymm (List.not_lt.1 h2) (List.not_lt.1 h)))
theorem ba_ext {a b : ByteArray} (h : a.toList = b.toList) : a = b := by
  rw [ByteArray.toList_eq, ByteArray.toList_eq] at h
  exact ByteArray.ext (Array.ext' h)
theorem ltB_irrefl (a : ByteArray) : ltB a a = false := ltL_irrefl _
theorem ltB_trans {a b c : ByteArray} (h1 : ltB a b = true) (h2 : ltB b c = true) : ltB a c = true := ltL_trans h1 h2
theorem ltB_tri (a b : ByteArray) : ltB a b = true ∨ a = b ∨ ltB b a = true := (ltL_tri a.toList b.toList).imp id (Or.imp ba_ext id)
theorem ltB_asymm {a b : ByteArray} (h : ltB a b = true) : ltB b a = false := by
  cases h2 : ltB b a with
  | false => rfl
  | true => rw [← ltB_irrefl a, ltB_trans h h2]
theorem ltB_ne {a b : ByteArray} (h : ltB a b = true) : a ≠ b := fun e => by rw [e, ltB_irrefl] at h; cases h
theorem ltL_at : ∀ (i : Nat) (l m : List UInt8), l.length = m.length → i < l.length → (∀ j, j < i → l.getD j 0 = m.getD j 0) → l.getD i 0 ≠ m.getD i 0 →
    Op.bytesLess l m = decide ((l.getD i 0).toNat < (m.getD i 0).toNat)
  | i, [], m, _, hi, _, _ => by simp at hi
  | i, a :: l, [], hl, _, _, _ => by simp at hl
  | 0, a :: l, b :: m, _, _, _, hne => by
    simp only [List.getD_cons_zero] at hne ⊢
    unfold Op.bytesLess
    have : (a == b) = false := by simpa using hne
    rw [this, Bool.false_and, Bool.or_false]
    rfl
  | i + 1, a :: l, b :: m, hl, hi, hj, hne => by
    have h0 := hj 0 (by omega)
    simp only [List.getD_cons_zero] at h0
    subst h0
    have ih := ltL_at i l m (by simpa using hl) (by simpa using hi) (fun j h => by simpa using hj (j + 1) (by omega)) (by simpa using hne)
    unfold Op.bytesLess
    rw [ih]
    simp
theorem byte_lt (x y : Nat) (hx : x < 256) (hy : y < 256) (j : Nat) (hj : j < 8) (h : ∀ t, t < j → x / 2 ^ (7 - t) % 2 = y / 2 ^ (7 - t) % 2) (h0 : x / 2 ^ (7 - j) % 2 = 0) (h1 : y / 2 ^ (7 - j) % 2 = 1) : x < y := by
  have hh : ∀ t, t < j → x / 2 ^ (7 - t) % 2 = y / 2 ^ (7 - t) % 2 := h
  have g := fun t (ht : t < j) => h t ht
  rcases (by omega : j = 0 ∨ j = 1 ∨ j = 2 ∨ j = 3 ∨ j = 4 ∨ j = 5 ∨ j = 6 ∨ j = 7) with rfl | rfl | rfl | rfl | rfl | rfl | rfl | rfl
  · simp only [Nat.reduceSub, Nat.reducePow] at *; omega
  · have g0 := g 0 (by decide)
    simp only [Nat.reduceSub, Nat.reducePow] at *; omega
  · have g0 := g 0 (by decide)
    have g1 := g 1 (by decide)
    simp only [Nat.reduceSub, Nat.reducePow] at *; omega
  · have g0 := g 0 (by decide)
    have g1 := g 1 (by decide)
    have g2 := g 2 (by decide)
    simp only [Nat.reduceSub, Nat.reducePow] at *; omega
  · have g0 := g 0 (by decide)
    have g1 := g 1 (by decide)
    have g2 := g 2 (by decide)
    have g3 := g 3 (by decide)
    simp only [Nat.reduceSub, Nat.reducePow] at *; omega
  · have g0 := g 0 (by decide)
    have g1 := g 1 (by decide)
    have g2 := g 2 (by decide)
    have g3 := g 3 (by decide)
    have g4 := g 4 (by decide)
    simp only [Nat.reduceSub, Nat.reducePow] at *; omega
  · have g0 := g 0 (by decide)
    have g1 := g 1 (by decide)
    have g2 := g 2 (by decide)
    have g3 := g 3 (by decide)
    have g4 := g 4 (by decide)
    have g5 := g 5 (by decide)
    simp only [Nat.reduceSub, Nat.reducePow] at *; omega
  · have g0 := g 0 (by decide)
    have g1 := g 1 (by decide)
    have g2 := g 2 (by decide)
    have g3 := g 3 (by decide)
    have g4 := g 4 (by decide)
    have g5 := g 5 (by decide)
    have g6 := g 6 (by decide)
    simp only [Nat.reduceSub, Nat.reducePow] at *; omega
/-- the first bit in which two differ tells which is the lesser -/
theorem ltB_of_bit {a b : ByteArray} (ha : a.size = 16) (hb : b.size = 16) (hne : cmn a b < 128) (h0 : bitAt a (cmn a b) = 0) : ltB a b = true := by
  have hc := cmn_is a b
  have h1 : bitAt b (cmn a b) = 1 := by
    have := hc.2.2 hne
    have h2 := bitAt_lt b (cmn a b)
    omega
  generalize cmn a b = n at *
  have hla : a.data.toList.length = 16 := by simpa using ha
  have hlb : b.data.toList.length = 16 := by simpa using hb
  have hi : n / 8 < 16 := by omega
  have hby : ∀ j, j < n / 8 → a.data.toList.getD j 0 = b.data.toList.getD j 0 := fun j hj => by
    apply UInt8.toNat_inj.1
    apply byte_of_bits _ _ (UInt8.toNat_lt _) (UInt8.toNat_lt _)
    intro t ht
    have := hc.2.1 (8 * j + t) (by omega)
    unfold bitAt at this
    rw [show (8 * j + t) / 8 = j from by omega, show (8 * j + t) % 8 = t from by omega] at this
    exact this
  have hlt : (a.data.toList.getD (n / 8) 0).toNat < (b.data.toList.getD (n / 8) 0).toNat := by
    refine byte_lt _ _ (UInt8.toNat_lt _) (UInt8.toNat_lt _) (n % 8) (Nat.mod_lt _ (by decide)) (fun t ht => ?_) ?_ ?_
    · have := hc.2.1 (8 * (n / 8) + t) (by omega)
      unfold bitAt at this
      rw [show (8 * (n / 8) + t) / 8 = n / 8 from by omega, show (8 * (n / 8) + t) % 8 = t from by omega] at this
      exact this
    · exact h0
    · exact h1
  unfold ltB
  rw [ByteArray.toList_eq, ByteArray.toList_eq, ltL_at (n / 8) _ _ (by rw [hla, hlb]) (by rw [hla]; exact hi) hby (fun e => by rw [e] at hlt; exact Nat.lt_irrefl _ hlt)]
  exact decide_eq_true hlt
theorem bit_of_ltB {a b : ByteArray} (ha : a.size = 16) (hb : b.size = 16) (h : ltB a b = true) : cmn a b < 128 ∧ bitAt a (cmn a b) = 0 ∧ bitAt b (cmn a b) = 1 := by
  have hlt : cmn a b < 128 := by
    have h1 := cmn_le a b
    have h2 : cmn a b ≠ 128 := fun e => ltB_ne h ((cmn_128 ha hb).1 e)
    omega
  have hd := (cmn_is a b).2.2 hlt
  have l1 := bitAt_lt a (cmn a b)
  have l2 := bitAt_lt b (cmn a b)
  by_cases h0 : bitAt a (cmn a b) = 0
  · exact ⟨hlt, h0, by omega⟩
  · exfalso
    have hba : ltB b a = true := ltB_of_bit hb ha (by rw [cmn_comm]; exact hlt) (by rw [cmn_comm b a]; omega)
    rw [ltB_asymm h] at hba
    cases hba

/-! ### which items may be -/
def okIt (x : It) : Bool := decide (x.ix.size = 16) && decide (x.cm.size = 16)
def Rising (l : List It) : Prop := l.Pairwise fun x y => ltB x.ix y.ix = true
def okAt (l : List It) (j : Nat) : Bool := match l[j]? with
  | none => true
  | some x => okIt x && (decide (j = 0) || match l[j - 1]? with
    | none => true
    | some y => ltB y.ix x.ix)
def rightI (l : List It) : Bool := decide (l.length ≤ 60) && (List.range l.length).all (okAt l)
theorem rightI_false_long {l : List It} (h : 60 < l.length) : rightI l = false := by
  unfold rightI; rw [decide_eq_false (by omega)]; rfl
theorem rightI_false_at {l : List It} {k : Nat} (hk : k < l.length) (h : okAt l k = false) : rightI l = false := by
  unfold rightI
  rw [Bool.and_eq_false_iff]
  right
  rw [Bool.eq_false_iff]
  intro h2
  rw [List.all_eq_true.1 h2 k (List.mem_range.2 hk)] at h
  cases h
theorem rightI_true {l : List It} (h0 : l.length ≤ 60) (h : ∀ k, k < l.length → okAt l k = true) : rightI l = true := by
  unfold rightI
  rw [decide_eq_true h0, Bool.true_and, List.all_eq_true]
  exact fun k hk => h k (List.mem_range.1 hk)
theorem rightI_iff (l : List It) : rightI l = true ↔ l.length ≤ 60 ∧ (∀ x ∈ l, x.ix.size = 16 ∧ x.cm.size = 16) ∧ Rising l := by
  unfold rightI
  rw [Bool.and_eq_true, decide_eq_true_iff, List.all_eq_true]
  have hor : (∀ k ∈ List.range l.length, okAt l k = true) ↔ (∀ x ∈ l, x.ix.size = 16 ∧ x.cm.size = 16) ∧ ∀ j, (h : j + 1 < l.length) → ltB l[j].ix l[j + 1].ix = true := by
    constructor
    · intro h
      refine ⟨fun x hx => ?_, fun j hj => ?_⟩
      · obtain ⟨k, hk, rfl⟩ := List.mem_iff_getElem.1 hx
        have := h k (List.mem_range.2 hk)
        unfold okAt at this
        rw [List.getElem?_eq_getElem hk] at this
        simp only [okIt, Bool.and_eq_true, decide_eq_true_iff] at this
        exact this.1
      · have := h (j + 1) (List.mem_range.2 hj)
        unfold okAt at this
        rw [List.getElem?_eq_getElem hj] at this
        simp only [Bool.and_eq_true, Nat.add_sub_cancel, List.getElem?_eq_getElem (show j < l.length by omega)] at this
        simpa using this.2
    · rintro ⟨h1, h2⟩ k hk
      have hk := List.mem_range.1 hk
      unfold okAt
      rw [List.getElem?_eq_getElem hk]
      simp only [okIt, Bool.and_eq_true, Bool.or_eq_true, decide_eq_true_iff]
      refine ⟨h1 _ (List.getElem_mem hk), ?_⟩
      rcases k with _ | k
      · exact .inl rfl
      · right
        rw [Nat.add_sub_cancel, List.getElem?_eq_getElem (show k < l.length by omega)]
        exact h2 k hk
  rw [hor]
  refine and_congr_right fun _ => and_congr_right fun _ => ?_
  unfold Rising
  constructor
  · intro h
    rw [List.pairwise_iff_getElem]
    intro i j hi hj hij
    obtain ⟨n, rfl⟩ : ∃ n, j = i + 1 + n := ⟨j - i - 1, by omega⟩
    clear hij
    induction n with
    | zero => exact h i hj
    | succ n ih => exact ltB_trans (ih (by omega)) (h (i + 1 + n) hj)
  · intro h j hj
    exact List.pairwise_iff_getElem.1 h j (j + 1) (by omega) hj (by omega)

/-! ### parting by a bit -/
/-- those ahead of the first whose bit at a depth is 1, and the others -/
def loI (l : List It) (d : Nat) : List It := l.takeWhile fun x => decide (bitAt x.ix d = 0)
def hiI (l : List It) (d : Nat) : List It := l.dropWhile fun x => decide (bitAt x.ix d = 0)
theorem lo_hi (l : List It) (d : Nat) : loI l d ++ hiI l d = l := List.takeWhile_append_dropWhile
/-- alike ahead of a depth -/
structure Alike (l : List It) (d : Nat) : Prop where
  size : ∀ x ∈ l, x.ix.size = 16
  rise : Rising l
  same : ∀ x ∈ l, ∀ y ∈ l, ∀ j, j < d → bitAt x.ix j = bitAt y.ix j
theorem Alike.sub {l m : List It} {d : Nat} (h : Alike l d) (hs : m.Sublist l) : Alike m d :=
  ⟨fun x hx => h.size x (hs.subset hx), h.rise.sublist hs, fun x hx y hy => h.same x (hs.subset hx) y (hs.subset hy)⟩
theorem Alike.lt {l : List It} {d : Nat} (h : Alike l d) (h2 : 2 ≤ l.length) : d < 128 := by
  match l, h2 with
  | x :: y :: r, _ =>
    have hxy : ltB x.ix y.ix = true := (List.pairwise_cons.1 h.rise).1 y (by simp)
    have hb := bit_of_ltB (h.size x (by simp)) (h.size y (by simp)) hxy
    rcases Nat.lt_or_ge (cmn x.ix y.ix) d with h3 | h3
    · have := h.same x (by simp) y (by simp) _ h3
      omega
    · omega
/-- the lesser of two that are alike has no greater bit -/
theorem Alike.bit_le {l : List It} {d : Nat} (h : Alike l d) {x y : It} (hx : x ∈ l) (hy : y ∈ l) (hxy : ltB x.ix y.ix = true) : bitAt x.ix d ≤ bitAt y.ix d := by
  have hb := bit_of_ltB (h.size x hx) (h.size y hy) hxy
  have hc := cmn_is x.ix y.ix
  rcases Nat.lt_trichotomy (cmn x.ix y.ix) d with h3 | h3 | h3
  · have := h.same x hx y hy _ h3
    omega
  · rw [← h3]; omega
  · rw [hc.2.1 d h3]; exact Nat.le_refl _
theorem loI_bit {l : List It} {d : Nat} : ∀ x ∈ loI l d, bitAt x.ix d = 0 := by
  unfold loI
  induction l with
  | nil => simp
  | cons x l ih =>
    intro y hy
    rw [List.takeWhile_cons] at hy
    split at hy
    · rcases List.mem_cons.1 hy with rfl | hy
      · rename_i h; simpa using h
      · exact ih y hy
    · cases hy
theorem hiI_bit {l : List It} {d : Nat} (h : Alike l d) : ∀ x ∈ hiI l d, bitAt x.ix d = 1 := by
  unfold hiI
  induction l with
  | nil => simp
  | cons x l ih =>
    intro y hy
    have h' : Alike l d := h.sub (List.sublist_cons_self _ _)
    rw [List.dropWhile_cons] at hy
    split at hy
    · exact ih h' y hy
    · rename_i hx
      have hx1 : bitAt x.ix d = 1 := by
        have := bitAt_lt x.ix d
        simp at hx
        omega
      rcases List.mem_cons.1 hy with rfl | hy
      · exact hx1
      · have := h.bit_le (List.mem_cons_self) (List.mem_cons_of_mem _ hy) ((List.pairwise_cons.1 h.rise).1 y hy)
        have h2 := bitAt_lt y.ix d
        omega
theorem Alike.lo {l : List It} {d : Nat} (h : Alike l d) : Alike (loI l d) (d + 1) := by
  have hs : (loI l d).Sublist l := List.takeWhile_sublist _
  refine ⟨fun x hx => h.size x (hs.subset hx), h.rise.sublist hs, fun x hx y hy j hj => ?_⟩
  rcases Nat.lt_or_ge j d with h1 | h1
  · exact h.same x (hs.subset hx) y (hs.subset hy) j h1
  · rw [show j = d by omega, loI_bit x hx, loI_bit y hy]
theorem Alike.hi {l : List It} {d : Nat} (h : Alike l d) : Alike (hiI l d) (d + 1) := by
  have hs : (hiI l d).Sublist l := List.dropWhile_sublist _
  refine ⟨fun x hx => h.size x (hs.subset hx), h.rise.sublist hs, fun x hx y hy j hj => ?_⟩
  rcases Nat.lt_or_ge j d with h1 | h1
  · exact h.same x (hs.subset hx) y (hs.subset hy) j h1
  · rw [show j = d by omega, hiI_bit h x hx, hiI_bit h y hy]
theorem lo_filter {l : List It} {d : Nat} (h : Alike l d) : loI l d = l.filter fun x => decide (bitAt x.ix d = 0) := by
  have e : (l.filter fun x => decide (bitAt x.ix d = 0)) = ((loI l d ++ hiI l d).filter fun x => decide (bitAt x.ix d = 0)) := by rw [lo_hi]
  rw [e, List.filter_append, List.filter_eq_self.2 (fun x hx => by simpa using loI_bit x hx), List.filter_eq_nil_iff.2 (fun x hx => by simp [hiI_bit h x hx]), List.append_nil]
theorem hi_filter {l : List It} {d : Nat} (h : Alike l d) : hiI l d = l.filter fun x => decide (bitAt x.ix d = 1) := by
  have e : (l.filter fun x => decide (bitAt x.ix d = 1)) = ((loI l d ++ hiI l d).filter fun x => decide (bitAt x.ix d = 1)) := by rw [lo_hi]
  rw [e, List.filter_append, List.filter_eq_nil_iff.2 (fun x hx => by simp [loI_bit x hx]), List.filter_eq_self.2 (fun x hx => by simpa using hiI_bit h x hx), List.nil_append]
theorem alike_of_right {l : List It} (h : rightI l = true) : Alike l 0 := by
  rw [rightI_iff] at h
  exact ⟨fun x hx => (h.2.1 x hx).1, h.2.2, fun _ _ _ _ j hj => absurd hj (Nat.not_lt_zero _)⟩
/-- where the parting lies -/
def parti (l : List It) (d : Nat) : Nat := (loI l d).length
theorem parti_le (l : List It) (d : Nat) : parti l d ≤ l.length := (List.takeWhile_sublist _).length_le
theorem lo_take (l : List It) (d : Nat) : loI l d = l.take (parti l d) := by
  have h : (loI l d ++ hiI l d).take (loI l d).length = loI l d := List.take_left
  rw [lo_hi] at h
  exact h.symm
theorem hi_drop (l : List It) (d : Nat) : hiI l d = l.drop (parti l d) := by
  have h : (loI l d ++ hiI l d).drop (loI l d).length = hiI l d := List.drop_left
  rw [lo_hi] at h
  exact h.symm

/-! ### one more -/
/-- where an index lies, or would -/
def posI (l : List It) (ix : ByteArray) : Nat := (l.takeWhile fun y => ltB y.ix ix).length
def thereI (l : List It) (ix : ByteArray) : Bool := match l[posI l ix]? with
  | none => false
  | some y => decide (y.ix = ix)
def setAt (l : List It) (x : It) : List It := l.take (posI l x.ix) ++ x :: l.drop (posI l x.ix + if thereI l x.ix then 1 else 0)
/-- 1: they may not be, or it may not; 4's: there would be too many -/
def setK (l : List It) (x : It) : Int := if rightI l && rightI [x] then if thereI l x.ix then 0 else if l.length = 60 then 12 else 0 else 1
def setO (l : List It) (x : It) : List It := if setK l x = 0 then setAt l x else []
theorem posI_le (l : List It) (ix : ByteArray) : posI l ix ≤ l.length := (List.takeWhile_sublist _).length_le
theorem posI_lt {l : List It} {ix : ByteArray} {j : Nat} (hj : j < posI l ix) (hl : j < l.length) : ltB l[j].ix ix = true := by
  unfold posI at hj
  have h1 : (l.takeWhile fun y => ltB y.ix ix)[j] = l[j] := by
    have h2 : (l.takeWhile fun y => ltB y.ix ix) <+: l := List.takeWhile_prefix _
    exact h2.getElem hj
  rw [← h1]
  have : ∀ l : List It, ∀ x ∈ l.takeWhile (fun y => ltB y.ix ix), ltB x.ix ix = true := by
    intro l
    induction l with
    | nil => simp
    | cons x l ih =>
      intro y hy
      rw [List.takeWhile_cons] at hy
      split at hy
      · rcases List.mem_cons.1 hy with rfl | hy
        · rename_i h; exact h
        · exact ih y hy
      · cases hy
  exact this l _ (List.getElem_mem hj)
theorem posI_at {l : List It} {ix : ByteArray} (hl : posI l ix < l.length) : ltB l[posI l ix].ix ix = false := by
  unfold posI at *
  induction l with
  | nil => simp at hl
  | cons x l ih =>
    by_cases hx : ltB x.ix ix = true
    · simp only [List.takeWhile_cons, hx, if_true, List.length_cons] at hl ⊢
      exact ih (by omega)
    · simp only [List.takeWhile_cons, hx] at hl ⊢
      simpa using hx
theorem posI_ge {l : List It} {ix : ByteArray} (h : Rising l) {j : Nat} (hj : posI l ix ≤ j) (hl : j < l.length) : ltB l[j].ix ix = false := by
  have h0 := posI_at (l := l) (ix := ix) (by omega)
  rcases Nat.eq_or_lt_of_le hj with h1 | h1
  · simp only [← h1]; exact h0
  · have h2 := List.pairwise_iff_getElem.1 h (posI l ix) j (by omega) hl h1
    cases h3 : ltB l[j].ix ix with
    | false => rfl
    | true => rw [← h0, ltB_trans h2 h3]
theorem posI_uniq {l : List It} {ix : ByteArray} {k : Nat} (hk : k ≤ l.length) (h1 : ∀ j (h : j < l.length), j < k → ltB l[j].ix ix = true) (h2 : ∀ h : k < l.length, ltB l[k].ix ix = false) : posI l ix = k := by
  rcases Nat.lt_trichotomy (posI l ix) k with h | h | h
  · have h3 := posI_at (l := l) (ix := ix) (by omega)
    rw [h1 _ (by omega) h] at h3
    cases h3
  · exact h
  · have hkl : k < l.length := Nat.lt_of_lt_of_le h (posI_le _ _)
    have h3 := posI_lt h hkl
    rw [h2 hkl] at h3
    cases h3
end Go.Proofs.YtfhjnfocmlndpaaDoor
