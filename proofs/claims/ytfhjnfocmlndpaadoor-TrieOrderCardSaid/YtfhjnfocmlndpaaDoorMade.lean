/- Items that are set one behind the other, in plain Lean: which come out; that the order is nothing. -/
import Derived.Test.YtfhjnfocmlndpaaDoorItems
namespace Go.Proofs.YtfhjnfocmlndpaaDoor
open Go

theorem Rising.take_drop {l : List It} (h : Rising l) {x : It} {k m : Nat} (h1 : ∀ j (hj : j < l.length), j < k → ltB l[j].ix x.ix = true) (h2 : ∀ j (hj : j < l.length), m ≤ j → ltB x.ix l[j].ix = true) : Rising (l.take k ++ x :: l.drop m) := by
  unfold Rising at *
  rw [List.pairwise_append, List.pairwise_cons]
  refine ⟨h.sublist (List.take_sublist _ _), ⟨fun y hy => ?_, h.sublist (List.drop_sublist _ _)⟩, fun a ha b hb => ?_⟩
  · obtain ⟨j, hj, rfl⟩ := List.mem_iff_getElem.1 hy
    rw [List.length_drop] at hj
    rw [List.getElem_drop]
    exact h2 _ (by omega) (by omega)
  · obtain ⟨i, hi, rfl⟩ := List.mem_iff_getElem.1 ha
    rw [List.length_take] at hi
    have h3 : ltB (l.take k)[i].ix x.ix = true := by rw [List.getElem_take]; exact h1 _ (by omega) (by omega)
    rcases List.mem_cons.1 hb with rfl | hb
    · exact h3
    · obtain ⟨j, hj, rfl⟩ := List.mem_iff_getElem.1 hb
      rw [List.length_drop] at hj
      refine ltB_trans h3 ?_
      rw [List.getElem_drop]
      exact h2 _ (by omega) (by omega)
theorem there_iff {l : List It} (h : Rising l) (ix : ByteArray) : thereI l ix = true ↔ ∃ y ∈ l, y.ix = ix := by
  unfold thereI
  constructor
  · intro ht
    cases hp : l[posI l ix]? with
    | none => rw [hp] at ht; cases ht
    | some y => rw [hp] at ht; exact ⟨y, List.mem_of_getElem? hp, by simpa using ht⟩
  · rintro ⟨y, hy, rfl⟩
    obtain ⟨j, hj, rfl⟩ := List.mem_iff_getElem.1 hy
    have : posI l l[j].ix = j := posI_uniq (Nat.le_of_lt hj) (fun i hi hij => List.pairwise_iff_getElem.1 h i _ hi hj hij) (fun _ => ltB_irrefl _)
    rw [this, List.getElem?_eq_getElem hj]
    simp
/-- behind the place all are greater -/
theorem behind {l : List It} (h : Rising l) (ix : ByteArray) {j : Nat} (hj : j < l.length) (hp : posI l ix + (if thereI l ix then 1 else 0) ≤ j) : ltB ix l[j].ix = true := by
  have h1 := posI_ge (ix := ix) h (j := j) (by omega) hj
  rcases ltB_tri ix l[j].ix with h2 | h2 | h2
  · exact h2
  · exfalso
    have ht : thereI l ix = true := (there_iff h ix).2 ⟨l[j], List.getElem_mem hj, h2.symm⟩
    rw [if_pos ht] at hp
    have h4 : posI l ix = j := by
      subst h2
      exact posI_uniq (Nat.le_of_lt hj) (fun i hi hij => List.pairwise_iff_getElem.1 h i _ hi hj hij) (fun _ => ltB_irrefl _)
    omega
  · rw [h1] at h2; cases h2
theorem setAt_rising {l : List It} (h : Rising l) (x : It) : Rising (setAt l x) :=
  h.take_drop (fun _ hj hlt => posI_lt hlt hj) (fun _ hj hle => behind h x.ix hj hle)
theorem mem_setAt {l : List It} (h : Rising l) (x y : It) : y ∈ setAt l x ↔ y = x ∨ (y ∈ l ∧ y.ix ≠ x.ix) := by
  have hd : l = l.take (posI l x.ix) ++ l.drop (posI l x.ix) := (List.take_append_drop _ _).symm
  unfold setAt
  rw [List.mem_append, List.mem_cons]
  constructor
  · rintro (hy | rfl | hy)
    · obtain ⟨j, hj, rfl⟩ := List.mem_iff_getElem.1 hy
      rw [List.length_take] at hj
      rw [List.getElem_take]
      exact .inr ⟨List.getElem_mem _, ltB_ne (posI_lt (by omega) (by omega))⟩
    · exact .inl rfl
    · obtain ⟨j, hj, rfl⟩ := List.mem_iff_getElem.1 hy
      rw [List.length_drop] at hj
      rw [List.getElem_drop]
      exact .inr ⟨List.getElem_mem _, fun e => ltB_ne (behind h x.ix (by omega) (by omega)) e.symm⟩
  · rintro (rfl | ⟨hy, hne⟩)
    · exact .inr (.inl rfl)
    · obtain ⟨j, hj, rfl⟩ := List.mem_iff_getElem.1 hy
      rcases Nat.lt_or_ge j (posI l x.ix) with h1 | h1
      · left
        rw [List.mem_iff_getElem]
        exact ⟨j, by rw [List.length_take]; omega, by rw [List.getElem_take]⟩
      · right; right
        have hle : posI l x.ix + (if thereI l x.ix then 1 else 0) ≤ j := by
          cases ht : thereI l x.ix with
          | false => simpa using h1
          | true =>
            rcases Nat.eq_or_lt_of_le h1 with h2 | h2
            · exfalso
              unfold thereI at ht
              rw [h2, List.getElem?_eq_getElem hj] at ht
              exact hne (by simpa using ht)
            · simp only [if_true]; omega
        rw [List.mem_iff_getElem]
        exact ⟨j - (posI l x.ix + (if thereI l x.ix then 1 else 0)), by rw [List.length_drop]; omega, by rw [List.getElem_drop]; congr 1; omega⟩
theorem setAt_length {l : List It} (x : It) : (setAt l x).length = if thereI l x.ix then l.length else l.length + 1 := by
  have h1 := posI_le l x.ix
  unfold setAt
  cases ht : thereI l x.ix with
  | false => simp; omega
  | true =>
    have : posI l x.ix < l.length := by
      unfold thereI at ht
      rcases Nat.lt_or_ge (posI l x.ix) l.length with h2 | h2
      · exact h2
      · rw [List.getElem?_eq_none h2] at ht; cases ht
    simp; omega
theorem rightI_one (x : It) : rightI [x] = okIt x := by
  unfold rightI
  simp [List.range_succ, okAt]
theorem okIt_iff (x : It) : okIt x = true ↔ x.ix.size = 16 ∧ x.cm.size = 16 := by unfold okIt; simp
theorem setAt_right {l : List It} {x : It} (h : rightI l = true) (hx : okIt x = true) (hf : thereI l x.ix = true ∨ l.length < 60) : rightI (setAt l x) = true := by
  rw [rightI_iff] at *
  refine ⟨?_, ?_, setAt_rising h.2.2 x⟩
  · rw [setAt_length]
    split
    · exact h.1
    · rename_i h2
      rcases hf with h3 | h3
      · exact absurd h3 h2
      · omega
  · intro y hy
    rcases (mem_setAt h.2.2 x y).1 hy with rfl | ⟨hy, _⟩
    · exact (okIt_iff _).1 hx
    · exact h.2.1 y hy
theorem rising_ext {a b : List It} (ha : Rising a) (hb : Rising b) (h : ∀ y, y ∈ a ↔ y ∈ b) : a = b := by
  induction a generalizing b with
  | nil =>
    cases b with
    | nil => rfl
    | cons y b => exact absurd ((h y).2 (by simp)) (by simp)
  | cons x a ih =>
    cases b with
    | nil => exact absurd ((h x).1 (by simp)) (by simp)
    | cons y b =>
      have hxa := List.pairwise_cons.1 ha
      have hyb := List.pairwise_cons.1 hb
      have hxy : x = y := by
        rcases List.mem_cons.1 ((h x).1 (by simp)) with e | h1
        · exact e
        · rcases List.mem_cons.1 ((h y).2 (by simp)) with e | h2
          · exact e.symm
          · have := ltB_trans (hxa.1 y h2) (hyb.1 x h1)
            rw [ltB_irrefl] at this
            cases this
      subst hxy
      rw [ih hxa.2 hyb.2 fun z => ?_]
      have hz := h z
      simp only [List.mem_cons] at hz
      constructor
      · intro h1
        rcases hz.1 (.inr h1) with rfl | h2
        · exact absurd rfl (ltB_ne (hxa.1 z h1))
        · exact h2
      · intro h1
        rcases hz.2 (.inr h1) with rfl | h2
        · exact absurd rfl (ltB_ne (hyb.1 z h1))
        · exact h2

/-! ### one behind the other -/
def stepI (out : List It) (x : It) : List It := if setK out x = 0 then setAt out x else out
def madeI (l : List It) : List It := l.foldl stepI []
theorem madeI_snoc (l : List It) (x : It) : madeI (l ++ [x]) = stepI (madeI l) x := by unfold madeI; rw [List.foldl_append]; rfl
/-- y was set in l, and none of its index behind it -/
def LastOf (l : List It) (y : It) : Prop := okIt y = true ∧ ∃ a b, l = a ++ y :: b ∧ ∀ z ∈ b, okIt z = true → z.ix ≠ y.ix
theorem lastOf_snoc {l : List It} {x y : It} : LastOf (l ++ [x]) y ↔ if okIt x = true then y = x ∨ (LastOf l y ∧ y.ix ≠ x.ix) else LastOf l y := by
  unfold LastOf
  constructor
  · rintro ⟨hy, a, b, he, hb⟩
    rcases List.eq_nil_or_concat b with rfl | ⟨b', z, rfl⟩
    · obtain ⟨rfl, h2⟩ := List.append_inj' he rfl
      simp only [List.cons.injEq, and_true] at h2
      subst h2
      rw [if_pos hy]
      exact .inl rfl
    · rw [List.concat_eq_append] at *
      rw [← List.cons_append, ← List.append_assoc] at he
      obtain ⟨rfl, h2⟩ := List.append_inj' he rfl
      simp only [List.cons.injEq, and_true] at h2
      subst h2
      split
      · rename_i hx
        exact .inr ⟨⟨hy, a, b', rfl, fun z hz => hb z (by simp [hz])⟩, fun e => hb x (by simp) hx e.symm⟩
      · exact ⟨hy, a, b', rfl, fun z hz => hb z (by simp [hz])⟩
  · split
    · rename_i hx
      rintro (rfl | ⟨⟨hy, a, b, rfl, hb⟩, hne⟩)
      · exact ⟨hx, l, [], rfl, by simp⟩
      · refine ⟨hy, a, b ++ [x], by simp, fun z hz hok => ?_⟩
        rcases List.mem_append.1 hz with hz | hz
        · exact hb z hz hok
        · rw [List.mem_singleton.1 hz]; exact fun e => hne e.symm
    · rename_i hx
      rintro ⟨hy, a, b, rfl, hb⟩
      refine ⟨hy, a, b ++ [x], by simp, fun z hz hok => ?_⟩
      rcases List.mem_append.1 hz with hz | hz
      · exact hb z hz hok
      · rw [List.mem_singleton.1 hz] at hok; exact absurd hok hx
theorem made_is : ∀ (n : Nat) (l : List It), l.length = n → n ≤ 60 → rightI (madeI l) = true ∧ (madeI l).length ≤ n ∧ ∀ y, y ∈ madeI l ↔ LastOf l y := by
  intro n
  induction n with
  | zero =>
    intro l hl _
    rw [List.length_eq_zero_iff.1 hl]
    refine ⟨rfl, Nat.le_refl _, fun y => ⟨fun h => (by cases h), fun ⟨_, a, b, h, _⟩ => (by simp at h)⟩⟩
  | succ n ih =>
    intro l hl h60
    rcases List.eq_nil_or_concat l with rfl | ⟨l', x, rfl⟩
    · simp at hl
    · rw [List.concat_eq_append] at *
      have hl' : l'.length = n := by simpa using hl
      obtain ⟨h1, h2, h3⟩ := ih l' hl' (by omega)
      have h1' := (rightI_iff _).1 h1
      rw [madeI_snoc]
      unfold stepI setK
      rw [h1, rightI_one, Bool.true_and]
      cases hx : okIt x with
      | false =>
        simp only [Bool.false_eq_true, if_false]
        rw [if_neg (show ¬ (1 : Int) = 0 by decide)]
        refine ⟨h1, by omega, fun y => ?_⟩
        rw [lastOf_snoc, if_neg (by rw [hx]; decide)]
        exact h3 y
      | true =>
        rw [if_pos rfl]
        have hz : (if thereI (madeI l') x.ix = true then (0 : Int) else if (madeI l').length = 60 then 12 else 0) = 0 := by
          split
          · rfl
          · rw [if_neg (by omega)]
        rw [if_pos hz]
        refine ⟨setAt_right h1 hx (.inr (by omega)), ?_, fun y => ?_⟩
        · rw [setAt_length]; split <;> omega
        · rw [lastOf_snoc, hx, if_pos rfl, mem_setAt h1'.2.2, h3]
/-- where no index comes twice, what comes out is what may be -/
theorem lastOf_once {l : List It} (h : l.Pairwise fun x y => x.ix ≠ y.ix) (y : It) : LastOf l y ↔ okIt y = true ∧ y ∈ l := by
  constructor
  · rintro ⟨h1, a, b, rfl, _⟩
    exact ⟨h1, by simp⟩
  · rintro ⟨h1, h2⟩
    obtain ⟨a, b, rfl⟩ := List.append_of_mem h2
    refine ⟨h1, a, b, rfl, fun z hz _ => ?_⟩
    have := (List.pairwise_cons.1 (List.pairwise_append.1 h).2.1).1 z hz
    exact fun e => this e.symm
theorem made_perm {l m : List It} (hl : l.length ≤ 60) (h : l.Pairwise fun x y => x.ix ≠ y.ix) (hp : l.Perm m) : madeI l = madeI m := by
  have hm : m.Pairwise fun x y => x.ix ≠ y.ix := hp.pairwise h (fun h e => h e.symm)
  obtain ⟨a1, _, a3⟩ := made_is _ l rfl hl
  obtain ⟨b1, _, b3⟩ := made_is _ m rfl (by rw [← hp.length_eq]; exact hl)
  refine rising_ext ((rightI_iff _).1 a1).2.2 ((rightI_iff _).1 b1).2.2 fun y => ?_
  rw [a3, b3, lastOf_once h, lastOf_once hm, hp.mem_iff]
end Go.Proofs.YtfhjnfocmlndpaaDoor
