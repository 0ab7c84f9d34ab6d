/- Plain Lean: numbers of digits of 2^16; roots; the first primes. What the reference's times, above, root, primes reckon. -/
import Derived.Test.YtfhjnfocmlndpaaDoorSjMark
namespace Go.Proofs.YtfhjnfocmlndpaaDoor
open Go

def dval : List Nat → Nat
  | [] => 0
  | d :: l => d + 65536 * dval l
theorem dval_app (a b : List Nat) : dval (a ++ b) = dval a + 65536 ^ a.length * dval b := by
  induction a with
  | nil => simp [dval]
  | cons x a ih => simp only [List.cons_append, dval, ih, List.length_cons, Nat.pow_succ, Nat.mul_add]; rw [Nat.mul_comm (65536 ^ a.length) 65536, Nat.mul_assoc]; omega
theorem dval_lt (l : List Nat) (h : ∀ d ∈ l, d < 65536) : dval l < 65536 ^ l.length := by
  induction l with
  | nil => simp [dval]
  | cons x l ih =>
    have h1 := h x (by simp)
    have h2 := ih (fun d hd => h d (by simp [hd]))
    simp only [dval, List.length_cons, Nat.pow_succ]
    omega
theorem dval_zeros (n : Nat) : dval (List.replicate n 0) = 0 := by
  induction n with
  | zero => rfl
  | succ n ih => simp [List.replicate_succ, dval, ih]
/-- two numbers of as many digits, alike above digit i: the greater is that of the greater digit i -/
theorem dval_split (l : List Nat) (i : Nat) (h : i < l.length) : dval l = dval (l.take i) + 65536 ^ i * (l.getD i 0 + 65536 * dval (l.drop (i + 1))) := by
  have e : l = l.take i ++ l.getD i 0 :: l.drop (i + 1) := by
    rw [List.getD_eq_getElem?_getD, List.getElem?_eq_getElem h, Option.getD_some, ← List.drop_eq_getElem_cons h, List.take_append_drop]
  conv => lhs; rw [e]
  rw [dval_app, dval, List.length_take, Nat.min_eq_left (Nat.le_of_lt h)]
theorem dval_cmp (v u : List Nat) (i : Nat) (hl : v.length = u.length) (h : i < v.length) (hv : ∀ d ∈ v, d < 65536) (hu : ∀ d ∈ u, d < 65536) (he : v.drop (i + 1) = u.drop (i + 1)) (hne : v.getD i 0 ≠ u.getD i 0) :
    (dval v > dval u ↔ v.getD i 0 > u.getD i 0) := by
  have a := dval_split v i h
  have b := dval_split u i (by omega)
  have la : dval (v.take i) < 65536 ^ i := by
    have := dval_lt (v.take i) (fun d hd => hv d (List.mem_of_mem_take hd))
    rwa [List.length_take, Nat.min_eq_left (Nat.le_of_lt h)] at this
  have lb : dval (u.take i) < 65536 ^ i := by
    have := dval_lt (u.take i) (fun d hd => hu d (List.mem_of_mem_take hd))
    rwa [List.length_take, Nat.min_eq_left (by omega)] at this
  rw [he] at a
  generalize dval (u.drop (i + 1)) = r at a b
  generalize v.getD i 0 = x at *
  generalize u.getD i 0 = y at *
  generalize 65536 ^ i = q at *
  rw [a, b]
  constructor
  · intro hgt
    by_cases hc : x > y
    · exact hc
    · exfalso
      have hxy : x + 1 + 65536 * r ≤ y + 65536 * r := by omega
      have := Nat.mul_le_mul_left q hxy
      rw [show x + 1 + 65536 * r = (x + 65536 * r) + 1 from by omega, Nat.mul_add, Nat.mul_one] at this
      omega
  · intro hgt
    have hxy : y + 1 + 65536 * r ≤ x + 65536 * r := by omega
    have := Nat.mul_le_mul_left q hxy
    rw [show y + 1 + 65536 * r = (y + 65536 * r) + 1 from by omega, Nat.mul_add, Nat.mul_one] at this
    omega

/-! ### a product, digit by digit -/
/-- what 'times' has behind i rounds: the digits so far, and what is carried -/
def timesTo (v : List Nat) (x : Nat) : Nat → List Nat × Nat
  | 0 => ([], 0)
  | i + 1 =>
    let (out, c) := timesTo v x i
    let n := c + (if i < v.length then v.getD i 0 * x else 0)
    (out ++ [n % 65536], n / 65536)
theorem timesTo_length (v : List Nat) (x i : Nat) : (timesTo v x i).1.length = i := by
  induction i with
  | zero => rfl
  | succ i ih => simp [timesTo, ih]
theorem timesTo_digits (v : List Nat) (x i : Nat) : ∀ d ∈ (timesTo v x i).1, d < 65536 := by
  induction i with
  | zero => intro d hd; cases hd
  | succ i ih =>
    intro d hd
    simp only [timesTo, List.mem_append, List.mem_singleton] at hd
    rcases hd with hd | rfl
    · exact ih d hd
    · exact Nat.mod_lt _ (by decide)
theorem timesTo_carry (v : List Nat) (x : Nat) (hx : x < 2 ^ 41) (hv : ∀ d ∈ v, d < 65536) (i : Nat) : (timesTo v x i).2 < 2 ^ 42 := by
  induction i with
  | zero => simp [timesTo]
  | succ i ih =>
    simp only [timesTo]
    have hd : v.getD i 0 < 65536 := by
      rw [List.getD_eq_getElem?_getD]
      by_cases h : i < v.length
      · rw [List.getElem?_eq_getElem h]; exact hv _ (List.getElem_mem h)
      · rw [List.getElem?_eq_none (by omega)]; decide
    have : v.getD i 0 * x ≤ 65535 * 2 ^ 41 := Nat.mul_le_mul (by omega) (by omega)
    have hle : (if i < v.length then v.getD i 0 * x else 0) ≤ 65535 * 2 ^ 41 := by split <;> omega
    omega
theorem timesTo_val (v : List Nat) (x i : Nat) : dval (timesTo v x i).1 + 65536 ^ i * ((timesTo v x i).2 + x * dval (v.drop i)) = x * dval v := by
  induction i with
  | zero => simp [timesTo, dval]
  | succ i ih =>
    rw [← ih]
    simp only [timesTo]
    rw [dval_app, timesTo_length]
    simp only [dval]
    generalize (timesTo v x i).2 = c
    generalize dval (timesTo v x i).1 = o
    rw [Nat.pow_succ]
    generalize 65536 ^ i = q
    by_cases h : i < v.length
    · have e : v.drop i = v.getD i 0 :: v.drop (i + 1) := by
        rw [List.getD_eq_getElem?_getD, List.getElem?_eq_getElem h, Option.getD_some, ← List.drop_eq_getElem_cons h]
      rw [if_pos h, e]
      simp only [dval]
      generalize v.getD i 0 = d
      generalize dval (v.drop (i + 1)) = r
      have h1 : c + d * x = (c + d * x) % 65536 + 65536 * ((c + d * x) / 65536) := (Nat.mod_add_div _ _).symm
      generalize (c + d * x) % 65536 = m at *
      generalize (c + d * x) / 65536 = k at *
      have h2 : c + x * (d + 65536 * r) = m + 65536 * (k + x * r) := by
        rw [Nat.mul_add, Nat.mul_add, Nat.mul_left_comm x 65536 r, Nat.mul_comm x d]; omega
      rw [h2]
      simp only [Nat.mul_add, Nat.mul_assoc, Nat.mul_zero, Nat.add_zero]
      omega
    · have e1 : v.drop i = [] := List.drop_eq_nil_of_le (by omega)
      have e2 : v.drop (i + 1) = [] := List.drop_eq_nil_of_le (by omega)
      rw [if_neg h, e1, e2]
      simp only [dval, Nat.mul_zero, Nat.add_zero]
      have h1 : c = c % 65536 + 65536 * (c / 65536) := (Nat.mod_add_div _ _).symm
      generalize c % 65536 = m at *
      generalize c / 65536 = k at *
      rw [h1]
      simp only [Nat.mul_add, Nat.mul_assoc]
      omega

theorem timesTo_past (v : List Nat) (x : Nat) (hx : x < 2 ^ 41) (hv : ∀ d ∈ v, d < 65536) (j : Nat) : (timesTo v x (v.length + j)).2 * 65536 ^ j < 2 ^ 42 := by
  induction j with
  | zero => rw [Nat.pow_zero, Nat.mul_one]; exact timesTo_carry v x hx hv _
  | succ j ih =>
    refine Nat.lt_of_le_of_lt ?_ ih
    show (timesTo v x ((v.length + j) + 1)).2 * 65536 ^ (j + 1) ≤ _
    simp only [timesTo]
    rw [if_neg (by omega), Nat.add_zero, Nat.pow_succ, Nat.mul_comm (65536 ^ j), ← Nat.mul_assoc]
    exact Nat.mul_le_mul_right _ (Nat.div_mul_le_self _ _)
theorem timesTo_few (v : List Nat) (x : Nat) (hx : x < 2 ^ 41) (hv : ∀ d ∈ v, d < 65536) (i : Nat) (hi : v.length ≤ i) (hc : 0 < (timesTo v x i).2) : i ≤ v.length + 2 := by
  obtain ⟨j, rfl⟩ : ∃ j, i = v.length + j := ⟨i - v.length, by omega⟩
  have h := timesTo_past v x hx hv j
  have h2 : 65536 ^ j ≤ (timesTo v x (v.length + j)).2 * 65536 ^ j := Nat.le_mul_of_pos_left _ hc
  have h3 : 65536 ^ j < 2 ^ 42 := Nat.lt_of_le_of_lt h2 h
  by_cases hj : j ≤ 2
  · omega
  · have : 65536 ^ 3 ≤ 65536 ^ j := Nat.pow_le_pow_right (by decide) (by omega)
    have h4 : (65536 : Nat) ^ 3 = 281474976710656 := rfl
    omega
/-- the product is there when nothing is carried behind all digits -/
theorem timesTo_done (v : List Nat) (x i : Nat) (hi : v.length ≤ i) (hc : (timesTo v x i).2 = 0) : dval (timesTo v x i).1 = x * dval v := by
  have := timesTo_val v x i
  rw [hc, List.drop_eq_nil_of_le hi] at this
  simpa [dval] using this

theorem timesTo_in (v : List Nat) (x k d q : Nat) (h : v[k]? = some d) (hq : q = (timesTo v x k).2) : timesTo v x (k + 1) = ((timesTo v x k).1 ++ [(q + d * x) % 65536], (q + d * x) / 65536) := by
  have hk : k < v.length := (List.getElem?_eq_some_iff.1 h).1
  have hg : v.getD k 0 = d := by rw [List.getD_eq_getElem?_getD, h]; rfl
  simp only [timesTo, if_pos hk, hg, ← hq]
theorem timesTo_out (v : List Nat) (x k q : Nat) (h : v.length ≤ k) (hq : q = (timesTo v x k).2) : timesTo v x (k + 1) = ((timesTo v x k).1 ++ [q % 65536], q / 65536) := by
  simp only [timesTo, if_neg (show ¬ k < v.length by omega), ← hq, Nat.add_zero]

/-! ### the first primes -/
def isP (k : Nat) (l : List Nat) : Bool := l.all fun p => k % p != 0
/-- the primes from 2 on below 2 + j -/
def pB : Nat → List Nat
  | 0 => []
  | j + 1 => if isP (2 + j) (pB j) then pB j ++ [2 + j] else pB j
theorem pB_mono (j : Nat) : (pB j).length ≤ (pB (j + 1)).length := by
  simp only [pB]; split <;> simp
theorem pB_mono' (i j : Nat) (h : i ≤ j) : (pB i).length ≤ (pB j).length := by
  induction j with
  | zero => have : i = 0 := by omega
            subst this; exact Nat.le_refl _
  | succ j ih =>
    rcases Nat.lt_or_ge i (j + 1) with h1 | h1
    · exact Nat.le_trans (ih (by omega)) (pB_mono j)
    · have : i = j + 1 := by omega
      subst this; exact Nat.le_refl _
theorem pB_pos (j : Nat) : ∀ p ∈ pB j, 2 ≤ p ∧ p < 2 + j := by
  induction j with
  | zero => intro p hp; cases hp
  | succ j ih =>
    intro p hp
    simp only [pB] at hp
    split at hp
    · rw [List.mem_append, List.mem_singleton] at hp
      rcases hp with hp | rfl
      · have := ih p hp; omega
      · omega
    · have := ih p hp; omega
def P64 : List Nat := [2, 3, 5, 7, 11, 13, 17, 19, 23, 29, 31, 37, 41, 43, 47, 53, 59, 61, 67, 71, 73, 79, 83, 89, 97, 101, 103, 107, 109, 113, 127, 131, 137, 139, 149, 151, 157, 163, 167, 173, 179, 181, 191, 193, 197, 199, 211, 223, 227, 229, 233, 239, 241, 251, 257, 263, 269, 271, 277, 281, 283, 293, 307, 311]
set_option maxRecDepth 100000 in
theorem pB_309 : (pB 309).length = 63 := by decide +kernel
set_option maxRecDepth 100000 in
theorem pB_310 : pB 310 = P64 := by decide +kernel
theorem pB_short (j : Nat) (h : j < 310) : (pB j).length < 64 := by
  have := pB_mono' j 309 (by omega)
  rw [pB_309] at this; omega
/-- the third roots of the primes, and the second ones of the first eight, times 2^32, rounded down -/
def R3 : List Nat := [5411319704, 6194414737, 7344290767, 8215976869, 9551921755, 10098905585, 11043570340, 11460697813, 12214315672, 13195500289, 13492127166, 14311783875, 14809980276, 15046980094, 15499789991, 16133124468, 16720292289, 16907126662, 17444216262, 17784676812, 17950125167, 18429019306, 18734950876, 19175934170, 19734090066, 20001703533, 20132865992, 20390182855, 20516441075, 20764397895, 21588763473, 21813078375, 22141143685, 22248366392, 22769593852, 22871018771, 23170020180, 23461497531, 23651862830, 23931792517, 24205322401, 24295138891, 24734567280, 24820601251, 24990902297, 25075189284, 25569408389, 26045227120, 26200031510, 26276752392, 26428864332, 26653801653, 26727943347, 27092625994, 27306805839, 27517677555, 27725365998, 27793908591, 27997534228, 28131656200, 28198240250, 28526537963, 28973835255, 29099129074]
def R2 : List Nat := [6074000999, 7439101573, 9603838834, 11363415354, 14244795007, 15485724812, 17708603819, 18721328409]
set_option maxRecDepth 100000 in
theorem R3_all : ((List.range 64).all fun i => decide ((R3.getD i 0) ^ 3 ≤ P64.getD i 0 * 65536 ^ 6) && decide (P64.getD i 0 * 65536 ^ 6 < (R3.getD i 0 + 1) ^ 3) && decide (P64.getD i 0 < 65536) && decide (P64.getD i 0 * 65536 ^ 6 < 1099511627776 ^ 3) && (BitVec.ofNat 32 (R3.getD i 0) == K0.getD i 0)) = true := by decide +kernel
set_option maxRecDepth 100000 in
theorem R2_all : ((List.range 8).all fun i => decide ((R2.getD i 0) ^ 2 ≤ P64.getD i 0 * 65536 ^ 4) && decide (P64.getD i 0 * 65536 ^ 4 < (R2.getD i 0 + 1) ^ 2) && decide (P64.getD i 0 < 65536) && decide (P64.getD i 0 * 65536 ^ 4 < 1099511627776 ^ 2) && (BitVec.ofNat 32 (R2.getD i 0) == H0.getD i 0)) = true := by decide +kernel
theorem R3_at (i : Nat) (h : i < 64) : (R3.getD i 0) ^ 3 ≤ P64.getD i 0 * 65536 ^ (2 * 3) ∧ P64.getD i 0 * 65536 ^ (2 * 3) < (R3.getD i 0 + 1) ^ 3 ∧ P64.getD i 0 < 65536 ∧ P64.getD i 0 * 65536 ^ (2 * 3) < 1099511627776 ^ 3 ∧ BitVec.ofNat 32 (R3.getD i 0) = K0.getD i 0 := by
  have := List.all_eq_true.1 R3_all i (List.mem_range.2 h)
  simp only [Bool.and_eq_true, decide_eq_true_eq, beq_iff_eq] at this
  exact ⟨this.1.1.1.1, this.1.1.1.2, this.1.1.2, this.1.2, this.2⟩
theorem R2_at (i : Nat) (h : i < 8) : (R2.getD i 0) ^ 2 ≤ P64.getD i 0 * 65536 ^ (2 * 2) ∧ P64.getD i 0 * 65536 ^ (2 * 2) < (R2.getD i 0 + 1) ^ 2 ∧ P64.getD i 0 < 65536 ∧ P64.getD i 0 * 65536 ^ (2 * 2) < 1099511627776 ^ 2 ∧ BitVec.ofNat 32 (R2.getD i 0) = H0.getD i 0 := by
  have := List.all_eq_true.1 R2_all i (List.mem_range.2 h)
  simp only [Bool.and_eq_true, decide_eq_true_eq, beq_iff_eq] at this
  exact ⟨this.1.1.1.1, this.1.1.1.2, this.1.1.2, this.1.2, this.2⟩
/-- the reference's numbers as they stand behind k rounds: 8 of the beginning, 64 of the rounds -/
def rowTo (k : Nat) : List W32 := (List.range 72).map fun j => if j < 8 then (if j < k then H0.getD j 0 else 0) else (if j - 8 < k then K0.getD (j - 8) 0 else 0)
theorem rowTo_length (k : Nat) : (rowTo k).length = 72 := by simp [rowTo]
theorem rowTo_get (k i : Nat) (hi : i < 72) : (rowTo k)[i]? = some (if i < 8 then (if i < k then H0.getD i 0 else 0) else (if i - 8 < k then K0.getD (i - 8) 0 else 0)) := by
  simp only [rowTo, List.getElem?_map, List.getElem?_range hi, Option.map_some]
theorem rowTo_big (k : Nat) (h8 : 8 ≤ k) (h : k < 64) : (rowTo k).set (8 + k) (K0.getD k 0) = rowTo (k + 1) := by
  apply List.ext_getElem?
  intro i
  rw [List.getElem?_set, rowTo_length]
  by_cases hi : i < 72
  · rw [rowTo_get _ _ hi, rowTo_get _ _ hi]
    by_cases e : 8 + k = i
    · subst e
      rw [if_pos rfl, if_pos (by omega), if_neg (by omega), if_pos (by omega)]
      rw [show 8 + k - 8 = k from by omega]
    · rw [if_neg e]
      by_cases c : i < 8
      · rw [if_pos c, if_pos c, if_pos (by omega), if_pos (by omega)]
      · rw [if_neg c, if_neg c]
        by_cases d : i - 8 < k
        · rw [if_pos d, if_pos (by omega)]
        · rw [if_neg d, if_neg (by omega)]
  · rw [List.getElem?_eq_none (by rw [rowTo_length]; omega), List.getElem?_eq_none (by rw [rowTo_length]; omega), if_neg (by omega)]
theorem rowTo_small (k : Nat) (h : k < 8) : ((rowTo k).set (8 + k) (K0.getD k 0)).set k (H0.getD k 0) = rowTo (k + 1) := by
  apply List.ext_getElem?
  intro i
  rw [List.getElem?_set, List.getElem?_set, List.length_set, rowTo_length]
  by_cases hi : i < 72
  · rw [rowTo_get _ _ hi, rowTo_get _ _ hi]
    by_cases e2 : k = i
    · subst e2
      rw [if_pos rfl, if_pos (by omega), if_pos h, if_pos (by omega)]
    rw [if_neg e2]
    by_cases e : 8 + k = i
    · subst e
      rw [if_pos rfl, if_pos (by omega), if_neg (by omega), if_pos (by omega)]
      rw [show 8 + k - 8 = k from by omega]
    · rw [if_neg e]
      by_cases c : i < 8
      · rw [if_pos c, if_pos c]
        by_cases d : i < k
        · rw [if_pos d, if_pos (by omega)]
        · rw [if_neg d, if_neg (by omega)]
      · rw [if_neg c, if_neg c]
        by_cases d : i - 8 < k
        · rw [if_pos d, if_pos (by omega)]
        · rw [if_neg d, if_neg (by omega)]
  · rw [List.getElem?_eq_none (by rw [rowTo_length]; omega), List.getElem?_eq_none (by rw [rowTo_length]; omega), if_neg (by omega), if_neg (by omega)]
set_option maxRecDepth 100000 in
theorem rowTo_64 : rowTo 64 = H0 ++ K0 := by decide +kernel
set_option maxRecDepth 100000 in
theorem rowTo_0 : rowTo 0 = List.replicate 72 0 := by decide +kernel
/-- a root, rounded down: which one it is -/
theorem root_unique (k N a b : Nat) (_hk : 0 < k) (h1 : a ^ k ≤ N) (h2 : N < (a + 1) ^ k) (h3 : b ^ k ≤ N) (h4 : N < (b + 1) ^ k) : a = b := by
  rcases Nat.lt_trichotomy a b with h | h | h
  · have := Nat.pow_le_pow_left (show a + 1 ≤ b by omega) k; omega
  · exact h
  · have := Nat.pow_le_pow_left (show b + 1 ≤ a by omega) k; omega
end Go.Proofs.YtfhjnfocmlndpaaDoor
