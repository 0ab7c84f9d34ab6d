/- once: what a chain's steps, a key's public mark, its signature and what a signature leads to come to (the program's). -/
import Derived.Test.YtfhjnfocmlndpaaDoorSjMark
import Derived.Test.YtfhjnfocmlndpaaDoorSjQuiet
namespace Go.Proofs.YtfhjnfocmlndpaaDoor
open Go Go.RowKit Go.Proofs

theorem u_strs : Tryd.prog.underlying 22 = some (.slice 9) := by kernel_rfl
theorem i_str : (Tryd.prog.info? 9).map (fun i => (i.zero, i.size, i.bytes)) = some (some (.string ⟨#[]⟩), 1, 16) := by kernel_rfl
theorem u_ints : Tryd.prog.underlying 141 = some (.slice 3) := by kernel_rfl
theorem i_int : (Tryd.prog.info? 3).map (fun i => (i.zero, i.size, i.bytes)) = some (some (.int .i64 0), 1, 8) := by kernel_rfl

/-! ### what they come to -/
def stepS (s : ByteArray) (c k : Nat) : ByteArray := markS 119 [s, numS c, numS k]
def chainS (s : ByteArray) (c f : Nat) : Nat → ByteArray
  | 0 => s
  | n + 1 => stepS (chainS s c f n) c (f + n)
def secretS (seed : ByteArray) (key : Int) (c : Nat) : ByteArray := markS 115 [seed, numS key, numS c]
theorem stepS_size (s : ByteArray) (c k : Nat) : (stepS s c k).size = 16 := markS_size _ _
theorem secretS_size (seed : ByteArray) (key : Int) (c : Nat) : (secretS seed key c).size = 16 := markS_size _ _
theorem chainS_size (s : ByteArray) (c f n : Nat) (h : s.size ≤ 60) : (chainS s c f n).size ≤ 60 := by
  cases n with
  | zero => exact h
  | succ n => rw [chainS, stepS_size]; decide
theorem small_mark (c : UInt8) (l : List ByteArray) (h1 : l.length ≤ 1000) (h2 : ∀ p ∈ l, p.size ≤ 1000) : (markL c l).length ≤ 1000000000 := by
  have : ∀ l : List ByteArray, (∀ p ∈ l, p.size ≤ 1000) → (l.flatMap fun p => numL p.size ++ p.data.toList).length ≤ 1008 * l.length := by
    intro l
    induction l with
    | nil => intro _; simp
    | cons x l ih =>
      intro h
      have h3 := ih (fun p hp => h p (List.mem_cons_of_mem _ hp))
      have h4 := h x List.mem_cons_self
      have h5 : x.data.toList.length = x.size := by simp
      simp only [List.flatMap_cons, List.length_cons, List.length_append, numL_length]
      omega
  have h3 := this l h2
  unfold markL
  simp only [List.length_cons]
  omega
/-- a mark of three texts that lie in a literal -/
theorem mark3 (c : UInt8) (n : Int) (hn : n = (c.toNat : Int)) (p q r : ByteArray) (w : World) (hp : p.size ≤ 1000) (hq : q.size ≤ 1000) (hr : r.size ≤ 1000) (hk : KAt w 0) :
    Calls Tryd.prog 21 #[.int .u8 n, .slice (some ⟨w.heap.size, 0, none⟩) 3 3] (w.alloc (.cells #[.string p, .string q, .string r] 9)) fun e w' => e = .returned (.string (markS c [p, q, r])) ∧ Below w.heap.size w w' := by
  subst hn
  have hb : Below w.heap.size w (w.alloc (.cells #[.string p, .string q, .string r] 9)) := (Below.refl _ _).alloc (Nat.le_refl _) _
  refine (mark_any c _ [p, q, r] _ (Reads.lit w 9 3 1 [.string p, .string q, .string r] rfl) (small_mark c _ (show 3 ≤ 1000 by decide) ?_) (hk.mono hb)).mono ?_
  · intro x hx
    simp only [List.mem_cons, List.not_mem_nil, or_false] at hx
    rcases hx with rfl | rfl | rfl <;> assumption
  · rintro e w' ⟨he, hb2⟩
    exact ⟨he, hb.trans (hb2.mono hb.size)⟩

theorem step_any (s : ByteArray) (c k : Nat) (w : World) (hs : s.size ≤ 60) (hc : c ≤ 1000) (hk : k ≤ 1000) (hK : KAt w 0) :
    Calls Tryd.prog 146 #[.string s, .int .i64 c, .int .i64 k] w fun e w' => e = .returned (.string (stepS s c k)) ∧ Below w.heap.size w w' := by
  have HK := Lib.hid hK
  have hC := Below.refl w.heap.size w
  have hn1 := numS_size (c : Int)
  have hn2 := numS_size (k : Int)
  clear hK
  go_enter Tryd.func146, Tryd.ntmps146
  go_wp2_with (first
    | (go_at_call 19; refine (num_any _ _ (by omega) (by omega)).mono ?_; rintro e w1 ⟨rfl, hB1⟩; have hC := hC.trans (hB1.mono hC.size))
    | (go_at_call 21; refine (mark3 119 _ rfl _ _ _ _ (by omega) (by omega) (by omega) (HK.out.mono hC)).mono ?_; rintro e w1 ⟨rfl, hB1⟩; have hC := hC.trans (hB1.mono hC.size)))
  go_ret
  exact ⟨rfl, hC⟩
theorem secret_any (seed : ByteArray) (key : Int) (c : Nat) (w : World) (hs : seed.size ≤ 60) (h0 : -9223372036854775808 ≤ key) (h1 : key ≤ 9223372036854775807) (hc : c ≤ 1000) (hK : KAt w 0) :
    Calls Tryd.prog 101 #[.string seed, .int .i64 key, .int .i64 c] w fun e w' => e = .returned (.string (secretS seed key c)) ∧ Below w.heap.size w w' := by
  have HK := Lib.hid hK
  have hC := Below.refl w.heap.size w
  have hn1 := numS_size (c : Int)
  have hn2 := numS_size key
  clear hK
  go_enter Tryd.func101, Tryd.ntmps101
  go_wp2_with (first
    | (go_at_call 19; refine (num_any _ _ (by omega) (by omega)).mono ?_; rintro e w1 ⟨rfl, hB1⟩; have hC := hC.trans (hB1.mono hC.size))
    | (go_at_call 21; refine (mark3 115 _ rfl _ _ _ _ (by omega) (by omega) (by omega) (HK.out.mono hC)).mono ?_; rintro e w1 ⟨rfl, hB1⟩; have hC := hC.trans (hB1.mono hC.size)))
  go_ret
  exact ⟨rfl, hC⟩

theorem walk_any (s : ByteArray) (c f t : Nat) (w : World) (hs : s.size ≤ 60) (hc : c ≤ 1000) (_hf : f ≤ 1000) (ht : t ≤ 1000) (hK : KAt w 0) :
    Calls Tryd.prog 100 #[.string s, .int .i64 c, .int .i64 f, .int .i64 t] w fun e w' => e = .returned (.string (chainS s c f (t - f))) ∧ Below w.heap.size w w' := by
  have HK := Lib.hid hK
  clear hK
  go_enter Tryd.func100, Tryd.ntmps100
  go_wp2_with fail
  go_loopw [0, 9] (fun v i wr => ∃ n : Nat, n ≤ t - f ∧ i = .int .i64 ((f + n : Nat) : Int) ∧ v = .string (chainS s c f n) ∧ Below w.heap.size w wr) (fun _ i _ => t - (intOf i).toNat)
  case atStart => exact ⟨0, Nat.zero_le _, rfl, rfl, Below.refl _ _⟩
  case round =>
    obtain ⟨n, hn, rfl, rfl, hB⟩ := hrel
    have HB := Lib.hid hB
    obtain ⟨m, hm⟩ : ∃ m, m = f + n := ⟨_, rfl⟩
    have hsz := chainS_size s c f n hs
    obtain ⟨y, hy⟩ : ∃ y, y = chainS s c f n := ⟨_, rfl⟩
    rw [← hm, ← hy]
    rw [← hy] at hsz
    have HM := Lib.hid hm
    have HY := Lib.hid hy
    by_cases hlt : m < t
    · have e1 : (m : Int) < t := by omega
      have hST := Lib.hid (step_any y c m wr hsz hc (by omega) (HK.out.mono hB))
      clear hm hy hB
      go_wp2_with (go_at_call 146; refine hST.out.mono ?_; rintro e w1 ⟨rfl, hB1⟩)
      go_roundw
      case rel => exact ⟨n + 1, by have := HM.out; omega, by have := HM.out; congr 1; omega, by rw [chainS, ← HM.out, ← HY.out], HB.out.trans (hB1.mono HB.out.size)⟩
      case measure => simp [intOf]; omega
    · have e1 : ¬ (m : Int) < t := by omega
      have hd1 : decide (m < t) = false := decide_eq_false hlt
      have hfin : Hid (chainS s c f (t - f) = y) := by unfold Hid; rw [hy, show t - f = n from by omega]
      clear hm hy hB hlt
      go_wp2_with fail
      go_ret
      exact ⟨by rw [hfin.out]; rfl, HB.out⟩

/-! ### digits -/
def digL (l : List UInt8) : List Nat := l.flatMap fun c => [c.toNat / 16, c.toNat % 16]
def lackL (l : List UInt8) : Nat := (l.map fun c => 30 - c.toNat / 16 - c.toNat % 16).sum
def digitsL (l : List UInt8) : List Nat := digL l ++ [lackL l / 256, lackL l / 16 % 16, lackL l % 16]
def ic (l : List Nat) : List Value := l.map fun d : Nat => Value.int .i64 (d : Int)
theorem digL_length (l : List UInt8) : (digL l).length = 2 * l.length := by
  induction l with
  | nil => rfl
  | cons x l ih => simp only [digL, List.flatMap_cons, List.length_append, List.length_cons] at ih ⊢; rw [ih]; simp; omega
theorem digL_snoc (l : List UInt8) (k : Nat) (c : UInt8) (h : l[k]? = some c) : digL (l.take (k + 1)) = digL (l.take k) ++ [c.toNat / 16] ++ [c.toNat % 16] := by
  have hk : k < l.length := (List.getElem?_eq_some_iff.1 h).1
  have he : l[k] = c := (List.getElem?_eq_some_iff.1 h).2
  unfold digL
  rw [List.take_succ_eq_append_getElem hk, List.flatMap_append, List.flatMap_singleton, he, List.append_assoc]
  rfl
theorem lackL_snoc (l : List UInt8) (k : Nat) (c : UInt8) (h : l[k]? = some c) : lackL (l.take (k + 1)) = lackL (l.take k) + (30 - c.toNat / 16 - c.toNat % 16) := by
  have hk : k < l.length := (List.getElem?_eq_some_iff.1 h).1
  have he : l[k] = c := (List.getElem?_eq_some_iff.1 h).2
  unfold lackL
  rw [List.take_succ_eq_append_getElem hk, List.map_append, List.sum_append, he]
  simp
theorem lackL_le (l : List UInt8) : lackL l ≤ 30 * l.length := by
  induction l with
  | nil => exact Nat.le_refl _
  | cons x l ih => unfold lackL at ih ⊢; simp only [List.map_cons, List.sum_cons, List.length_cons]; omega
theorem idx2a (a b : Int) (W : World) : (Instr.index 199 (.agg #[.int .i64 a, .int .i64 b]) (.int .i64 0)).run Tryd.prog W = .ok (.int .i64 a) W := by kernel_rfl
theorem idx2b (a b : Int) (W : World) : (Instr.index 199 (.agg #[.int .i64 a, .int .i64 b]) (.int .i64 1)).run Tryd.prog W = .ok (.int .i64 b) W := by kernel_rfl
theorem and15i (u : Nat) (h : u < 9223372036854775808) : bits .and .i64 (u : Int) 15 = ((u % 16 : Nat) : Int) := by
  have h1 : (BitVec.ofInt 64 (u : Int)).toNat = u := by
    rw [BitVec.ofInt_natCast, BitVec.toNat_ofNat]; exact Nat.mod_eq_of_lt (by omega)
  have h2 : (BitVec.ofInt 64 ((15 : Nat) : Int)).toNat = 15 := by
    rw [BitVec.ofInt_natCast, BitVec.toNat_ofNat]
  have h3 : u &&& 15 = u % 16 := by rw [show (15 : Nat) = 2 ^ 4 - 1 from rfl, Nat.and_two_pow_sub_one_eq_mod]
  show IntKind.i64.wrap ((BitVec.ofInt 64 (u : Int) &&& BitVec.ofInt 64 ((15 : Nat) : Int)).toNat : Int) = _
  rw [BitVec.toNat_and, h1, h2, h3, IntWalk.i64_in _ (by omega)]
def DigitsPost (w : World) (s : ByteArray) (e : Ending) (w' : World) : Prop :=
  ∃ v, e = .returned v ∧ Own w' w.heap.size 3 1 v (2 * s.size + 3) (ic (digitsL s.data.toList)) ∧ Below w.heap.size w w'
set_option maxRecDepth 100000 in
set_option maxHeartbeats 2000000 in
theorem digits_any (s : ByteArray) (hs : s.size ≤ 1000) (w : World) : Calls Tryd.prog 104 #[.string s] w (DigitsPost w s) := by
  go_enter Tryd.func104, Tryd.ntmps104
  go_wp2_with fail
  go_loopw [3, 4, 10] (fun v a i wr => ∃ k L : Nat, k ≤ s.size ∧ i = .int .i64 k ∧ a = .int .i64 L ∧ L = lackL (s.data.toList.take k) ∧ Own wr w.heap.size 3 1 v (2 * k) (ic (digL (s.data.toList.take k))) ∧ Below w.heap.size w wr) (fun _ _ i _ => s.size - (intOf i).toNat)
  case atStart => exact ⟨0, 0, Nat.zero_le _, rfl, rfl, rfl, Own.nil _ _ _ _, Below.refl _ _⟩
  case round =>
    obtain ⟨k, L, hk, rfl, rfl, hL, hO, hB⟩ := hrel
    have HB := Lib.hid hB
    have HO := Lib.hid hO
    have HL := Lib.hid hL
    have hbw := hB.size
    have hL1 : L ≤ 30000 := by
      have := lackL_le (s.data.toList.take k)
      rw [List.length_take] at this
      omega
    clear hL hO hB
    by_cases hlt : k < s.size
    · have hkl : k < s.data.toList.length := by simpa using hlt
      obtain ⟨c, hc⟩ : ∃ c, s.data.toList[k]? = some c := ⟨_, List.getElem?_eq_getElem hkl⟩
      have hsn : Hid (digL (s.data.toList.take (k + 1)) = digL (s.data.toList.take k) ++ [c.toNat / 16] ++ [c.toNat % 16]) := digL_snoc _ k c hc
      have hln : Hid (lackL (s.data.toList.take (k + 1)) = lackL (s.data.toList.take k) + (30 - c.toNat / 16 - c.toNat % 16)) := lackL_snoc _ k c hc
      have hsk : s[k] = c := by
        have := (List.getElem?_eq_some_iff.1 hc).2
        rw [← this]; rfl
      have hx2 : c.toNat < 256 := c.toNat_lt
      obtain ⟨hi, hhi⟩ : ∃ hi, hi = c.toNat / 16 := ⟨_, rfl⟩
      obtain ⟨lo, hlo⟩ : ∃ lo, lo = c.toNat % 16 := ⟨_, rfl⟩
      have e1 : ((c.toNat : Int) / 16) = (hi : Int) := by omega
      have e2 : bits .and .u8 (c.toNat : Int) 15 = (lo : Int) := by rw [hlo]; exact nib_lo c
      have l1 : hi ≤ 15 := by omega
      have l2 : lo ≤ 15 := by omega
      rw [← hhi, ← hlo] at hsn hln
      generalize hmm : digL (s.data.toList.take k) = m at *
      have HHI := Lib.hid hhi
      have HLO := Lib.hid hlo
      clear hhi hlo hc hmm
      have e3 : (k : Int) < s.size := by omega
      go_wp2_with fail
      go_quiet (fail)
      go_wp2_with fail
      have i0 := fun W => idx2a (hi : Int) (lo : Int) W
      have i1 := fun W => idx2b (hi : Int) (lo : Int) W
      have HO2 : Hid (Own (wr.drewN nq) w.heap.size 3 1 u3 (2 * k) (ic m)) := HO.out
      have HB2 : Hid (Below w.heap.size w (wr.drewN nq)) := belowN HB.out nq
      have hbw2 : w.heap.size ≤ (wr.drewN nq).heap.size := hbw
      generalize wr.drewN nq = wq at *
      refine wp_loop_rounds 3 ?_
      rw [rounds_succ]
      go_wp2_with (first | (at_builtin; refine app_lit rfl _ _ 141 rfl w.heap.size 3 (.int .i64 0) 1 8 u_ints i_int rfl (by decide) _ _ _ rfl HO2.out 1 _ rfl rfl (by intro u hu; simp at hu; subst hu; rfl) (by omega) (by omega) hbw2 ?_; intro v1 w1 hown1 hgrow1))
      have hrow1 : ∀ j, u3.ownBlock = some j → w.heap.size ≤ j := fun j hj => (HO2.out.lt j hj).1
      have hC1 := HB2.out.grown hgrow1 hbw2 hrow1
      have HC1 := Lib.hid hC1
      have HO3 := Lib.hid hown1
      have hbw3 := hC1.size
      clear hC1 hown1 hgrow1 hrow1
      rw [rounds_succ]
      go_wp2_with (first | (at_builtin; refine app_lit rfl _ _ 141 rfl w.heap.size 3 (.int .i64 0) 1 8 u_ints i_int rfl (by decide) _ _ _ rfl HO3.out 1 _ rfl rfl (by intro u hu; simp at hu; subst hu; rfl) (by omega) (by omega) hbw3 ?_; intro v2 w2 hown2 hgrow2))
      have hrow2 : ∀ j, v1.ownBlock = some j → w.heap.size ≤ j := fun j hj => (HO3.out.lt j hj).1
      have HC2 := Lib.hid (HC1.out.grown hgrow2 hbw3 hrow2)
      have HO4 := Lib.hid hown2
      clear hgrow2 hown2 hrow2
      rw [rounds_succ]
      go_wp2_with fail
      go_roundw
      case rel =>
        refine ⟨k + 1, L + (30 - hi - lo), hlt, by go_num, by congr 1; omega, by rw [hln.out, ← HL.out], ?_, HC2.out⟩
        rw [hsn.out]
        unfold ic
        rw [List.map_append, List.map_append]
        exact HO4.out
      case measure => simp [intOf]; omega
    · have e3 : ¬ (k : Int) < s.size := by omega
      have hfl : s.data.toList.take k = s.data.toList := List.take_of_length_le (by simp; omega)
      have hk2 : k = s.size := by omega
      rw [hfl] at HO HL
      obtain ⟨a, ha⟩ : ∃ a, a = L / 256 := ⟨_, rfl⟩
      obtain ⟨b, hb⟩ : ∃ b, b = L / 16 % 16 := ⟨_, rfl⟩
      obtain ⟨b0, hb0⟩ : ∃ b0, b0 = L / 16 := ⟨_, rfl⟩
      obtain ⟨d, hd⟩ : ∃ d, d = L % 16 := ⟨_, rfl⟩
      have f1 : (L : Int) / 256 = (a : Int) := by omega
      have f2 : (L : Int) / 16 = (b0 : Int) := by omega
      have f3 : bits .and .i64 (b0 : Int) 15 = (b : Int) := by rw [and15i b0 (by omega)]; omega
      have f4 : bits .and .i64 (L : Int) 15 = (d : Int) := by rw [and15i L (by omega)]; omega
      have HA := Lib.hid ha
      have HBb := Lib.hid hb
      have HD := Lib.hid hd
      have HK2 := Lib.hid hk2
      clear ha hb hb0 hd hfl hk2 hlt
      go_wp2_with (first | (at_builtin; refine app_lit rfl _ _ 141 rfl w.heap.size 3 (.int .i64 0) 1 8 u_ints i_int rfl (by decide) _ _ _ rfl HO.out 3 _ rfl rfl (by intro u hu; simp at hu; rcases hu with rfl | rfl | rfl <;> rfl) (by omega) (by omega) hbw ?_; intro v1 w1 hown1 hgrow1))
      have hrow1 : ∀ j, u3.ownBlock = some j → w.heap.size ≤ j := fun j hj => (HO.out.lt j hj).1
      go_ret
      refine ⟨v1, rfl, ?_, HB.out.grown hgrow1 hbw hrow1⟩
      rw [← HK2.out]
      unfold digitsL ic
      rw [List.map_append, ← HL.out, ← HA.out, ← HBb.out, ← HD.out]
      exact hown1
end Go.Proofs.YtfhjnfocmlndpaaDoor
