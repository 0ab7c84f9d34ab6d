/- SHA-256 in plain Lean, over words of 32 bits and lists of bytes; no program and no memory is named here. -/
import Derived.WalkKit
namespace Go.Proofs.YtfhjnfocmlndpaaDoor
open Go

abbrev W32 := BitVec 32

/-! ### the model's arithmetic of uint32, on words -/
theorem w_lt (x : W32) : (x.toNat : Int) < 4294967296 := by have := x.isLt; omega
theorem w_bits (op : BinOp) (x y : W32) : bits op .u32 (x.toNat : Int) (y.toNat : Int) =
    (match op with | .and => (x &&& y).toNat | .or => (x ||| y).toNat | .xor => (x ^^^ y).toNat | .andNot => (x &&& ~~~y).toNat | _ => bits op .u32 (x.toNat : Int) (y.toNat : Int)) := by
  have e : ∀ z : W32, IntKind.u32.wrap (z.toNat : Int) = z.toNat := fun z => by rw [IntKind.wrap_u32]; have := z.isLt; omega
  have o : ∀ z : W32, BitVec.ofInt IntKind.u32.bits (z.toNat : Int) = z := fun z => by
    show BitVec.ofInt 32 (z.toNat : Int) = z
    rw [BitVec.ofInt_natCast, BitVec.ofNat_toNat]; simp
  cases op <;> first | rfl | (unfold bits; simp only [o]; exact e _)
theorem w_or (x y : W32) : bits .or .u32 (x.toNat : Int) (y.toNat : Int) = ((x ||| y).toNat : Int) := w_bits .or x y
theorem w_and (x y : W32) : bits .and .u32 (x.toNat : Int) (y.toNat : Int) = ((x &&& y).toNat : Int) := w_bits .and x y
theorem w_xor (x y : W32) : bits .xor .u32 (x.toNat : Int) (y.toNat : Int) = ((x ^^^ y).toNat : Int) := w_bits .xor x y
theorem w_add (x y : W32) : ((x.toNat : Int) + (y.toNat : Int)) % 4294967296 = ((x + y).toNat : Int) := by
  rw [BitVec.toNat_add]; omega
theorem w_shr (x : W32) (n : Nat) : (x.toNat : Int) / 2 ^ n = ((x >>> n).toNat : Int) := by
  rw [BitVec.toNat_ushiftRight, Nat.shiftRight_eq_div_pow]; norm_cast
theorem w_shl (x : W32) (n : Nat) : (x.toNat : Int) * 2 ^ n % 4294967296 = ((x <<< n).toNat : Int) := by
  rw [BitVec.toNat_shiftLeft, Nat.shiftLeft_eq]
  simp only [Int.natCast_emod, Int.natCast_mul, Int.natCast_pow]
  rfl

/-! ### the words of SHA-256 -/
def rr (x : W32) (n : Nat) : W32 := (x >>> n) ||| (x <<< (32 - n))
def bs0 (x : W32) : W32 := rr x 2 ^^^ rr x 13 ^^^ rr x 22
def bs1 (x : W32) : W32 := rr x 6 ^^^ rr x 11 ^^^ rr x 25
def ss0 (x : W32) : W32 := rr x 7 ^^^ rr x 18 ^^^ x >>> 3
def ss1 (x : W32) : W32 := rr x 17 ^^^ rr x 19 ^^^ x >>> 10
def ch (e f g : W32) : W32 := (e &&& f) ^^^ (~~~e &&& g)
def mj (a b c : W32) : W32 := (a &&& b) ^^^ (a &&& c) ^^^ (b &&& c)

/-- a word's bits stand where another one's don't: their sum is what either has -/
theorem add_or (x y : W32) (h : x &&& y = 0#32) : x + y = x ||| y := BitVec.add_eq_or_of_and_eq_zero x y h

theorem rr_add (x : W32) (n : Nat) (h0 : 0 < n) (h1 : n < 32) : (x >>> n) + (x <<< (32 - n)) = rr x n := by
  unfold rr
  refine add_or _ _ ?_
  apply BitVec.eq_of_getLsbD_eq
  intro i hi
  simp only [BitVec.getLsbD_and, BitVec.getLsbD_ushiftRight, BitVec.getLsbD_shiftLeft, BitVec.getLsbD_zero, Bool.and_eq_false_iff]
  by_cases hc : i < 32 - n
  · right; simp [hc]
  · left; exact BitVec.getLsbD_of_ge _ _ (by omega)

theorem ch_ref (e f g : W32) : g ^^^ (e &&& (f ^^^ g)) = ch e f g := by
  unfold ch
  apply BitVec.eq_of_getLsbD_eq
  intro i hi
  simp only [BitVec.getLsbD_and, BitVec.getLsbD_xor, BitVec.getLsbD_not, hi, decide_true, Bool.true_and]
  cases e.getLsbD i <;> cases f.getLsbD i <;> cases g.getLsbD i <;> rfl

theorem mj_ref (a b c : W32) : (a &&& b) ||| (c &&& (a ||| b)) = mj a b c := by
  unfold mj
  apply BitVec.eq_of_getLsbD_eq
  intro i hi
  simp only [BitVec.getLsbD_and, BitVec.getLsbD_xor, BitVec.getLsbD_or]
  cases a.getLsbD i <;> cases b.getLsbD i <;> cases c.getLsbD i <;> rfl

/-- a byte of a list (0 beyond it), as a word -/
def byteAt (s : List UInt8) (i : Nat) : W32 := BitVec.ofNat 32 (s.getD i 0).toNat
/-- word i of bytes, the greatest first -/
def wordAt (s : List UInt8) (i : Nat) : W32 := byteAt s (4 * i) <<< 24 ||| byteAt s (4 * i + 1) <<< 16 ||| byteAt s (4 * i + 2) <<< 8 ||| byteAt s (4 * i + 3)
def words (s : List UInt8) (n : Nat) : List W32 := (List.range n).map (wordAt s)
def nextW (l : List W32) (i : Nat) : W32 := l.getD (i - 16) 0 + ss0 (l.getD (i - 15) 0) + l.getD (i - 7) 0 + ss1 (l.getD (i - 2) 0)
/-- the schedule, n words behind the first 16 -/
def sched (m : List W32) : Nat → List W32
  | 0 => m
  | n + 1 => sched m n ++ [nextW (sched m n) (16 + n)]
def rnd (v : List W32) (k w : W32) : List W32 :=
  let one := v.getD 7 0 + bs1 (v.getD 4 0) + ch (v.getD 4 0) (v.getD 5 0) (v.getD 6 0) + k + w
  let two := bs0 (v.getD 0 0) + mj (v.getD 0 0) (v.getD 1 0) (v.getD 2 0)
  [one + two, v.getD 0 0, v.getD 1 0, v.getD 2 0, v.getD 3 0 + one, v.getD 4 0, v.getD 5 0, v.getD 6 0]
def rounds (K w v : List W32) : Nat → List W32
  | 0 => v
  | n + 1 => rnd (rounds K w v n) (K.getD n 0) (w.getD n 0)
def addW (h v : List W32) (n : Nat) : List W32 := (List.range 8).map fun i => if i < n then h.getD i 0 + v.getD i 0 else h.getD i 0
/-- 64 bytes taken in -/
def blk (K h : List W32) (s : List UInt8) : List W32 := addW h (rounds K (sched (words s 16) 48) h 64) 8
/-- the blocks of bytes, n of them, taken in -/
def blks (K h : List W32) (s : List UInt8) : Nat → List W32
  | 0 => h
  | n + 1 => blk K (blks K h s n) ((s.drop (64 * n)).take 64)
/-- how many zeros stand behind n bytes, so that there are 56 of 64 -/
def zerosFor (n : Nat) : Nat := (120 - n % 64) % 64
def be64 (n : Nat) : List UInt8 := (List.range 8).map fun i => UInt8.ofNat (n / 256 ^ (7 - i))
def pad (s : List UInt8) : List UInt8 := s ++ [0x80] ++ List.replicate (zerosFor (s.length + 1)) 0 ++ be64 (s.length * 8)
def be32 (x : W32) : List UInt8 := [UInt8.ofNat (x.toNat / 2 ^ 24), UInt8.ofNat (x.toNat / 2 ^ 16), UInt8.ofNat (x.toNat / 2 ^ 8), UInt8.ofNat x.toNat]
def H0 : List W32 := [0x6a09e667, 0xbb67ae85, 0x3c6ef372, 0xa54ff53a, 0x510e527f, 0x9b05688c, 0x1f83d9ab, 0x5be0cd19]
def K0 : List W32 := [
  0x428a2f98, 0x71374491, 0xb5c0fbcf, 0xe9b5dba5, 0x3956c25b, 0x59f111f1, 0x923f82a4, 0xab1c5ed5,
  0xd807aa98, 0x12835b01, 0x243185be, 0x550c7dc3, 0x72be5d74, 0x80deb1fe, 0x9bdc06a7, 0xc19bf174,
  0xe49b69c1, 0xefbe4786, 0x0fc19dc6, 0x240ca1cc, 0x2de92c6f, 0x4a7484aa, 0x5cb0a9dc, 0x76f988da,
  0x983e5152, 0xa831c66d, 0xb00327c8, 0xbf597fc7, 0xc6e00bf3, 0xd5a79147, 0x06ca6351, 0x14292967,
  0x27b70a85, 0x2e1b2138, 0x4d2c6dfc, 0x53380d13, 0x650a7354, 0x766a0abb, 0x81c2c92e, 0x92722c85,
  0xa2bfe8a1, 0xa81a664b, 0xc24b8b70, 0xc76c51a3, 0xd192e819, 0xd6990624, 0xf40e3585, 0x106aa070,
  0x19a4c116, 0x1e376c08, 0x2748774c, 0x34b0bcb5, 0x391c0cb3, 0x4ed8aa4a, 0x5b9cca4f, 0x682e6ff3,
  0x748f82ee, 0x78a5636f, 0x84c87814, 0x8cc70208, 0x90befffa, 0xa4506ceb, 0xbef9a3f7, 0xc67178f2]
def sumL (s : List UInt8) : List UInt8 := (blks K0 H0 (pad s) ((pad s).length / 64)).flatMap be32
/-- a text's sum: 32 bytes -/
def sumS (s : ByteArray) : ByteArray := ⟨(sumL s.data.toList).toArray⟩
def numL (n : Int) : List UInt8 := be64 (n % 18446744073709551616).toNat
def numS (n : Int) : ByteArray := ⟨(numL n).toArray⟩
/-- what is summed of a mark: the kind, and of each part how many bytes it has, and it -/
def markL (kind : UInt8) (parts : List ByteArray) : List UInt8 := kind :: parts.flatMap fun p => numL p.size ++ p.data.toList
def markS (kind : UInt8) (parts : List ByteArray) : ByteArray := ⟨((sumL (markL kind parts)).take 16).toArray⟩

theorem be64_length (n : Nat) : (be64 n).length = 8 := by simp [be64]
theorem numL_length (n : Int) : (numL n).length = 8 := be64_length _
theorem numS_size (n : Int) : (numS n).size = 8 := by show (numL n).toArray.size = 8; simp [numL_length]
theorem pad_length (s : List UInt8) : (pad s).length = s.length + 9 + zerosFor (s.length + 1) := by simp [pad, be64_length]; omega
theorem pad_64 (s : List UInt8) : (pad s).length % 64 = 0 := by rw [pad_length, zerosFor]; omega
theorem rounds_length (K w v : List W32) (hv : v.length = 8) (n : Nat) : (rounds K w v n).length = 8 := by
  cases n <;> simp [rounds, rnd, hv]
theorem addW_length (h v : List W32) (n : Nat) : (addW h v n).length = 8 := by simp [addW]
theorem blks_length (K h : List W32) (hh : h.length = 8) (s : List UInt8) (n : Nat) : (blks K h s n).length = 8 := by
  cases n <;> simp [blks, blk, addW, hh]
theorem be32_flat (l : List W32) : (l.flatMap be32).length = 4 * l.length := by
  induction l with
  | nil => rfl
  | cons x l ih => simp [List.flatMap_cons, be32, ih]; omega
theorem sumL_length (s : List UInt8) : (sumL s).length = 32 := by
  rw [sumL, be32_flat, blks_length _ _ rfl]
theorem sumS_size (s : ByteArray) : (sumS s).size = 32 := by show (sumL s.data.toList).toArray.size = 32; simp [sumL_length]
theorem markS_size (k : UInt8) (l : List ByteArray) : (markS k l).size = 16 := by
  show ((sumL (markL k l)).take 16).toArray.size = 16; simp [sumL_length]

/-! ### rows that fill up -/
theorem getD_app_left (l m : List W32) (i : Nat) (h : i < l.length) : (l ++ m).getD i 0 = l.getD i 0 := by
  simp [List.getD, List.getElem?_append_left h]
theorem words_length (s : List UInt8) (n : Nat) : (words s n).length = n := by simp [words]
theorem sched_length (m : List W32) (n : Nat) : (sched m n).length = m.length + n := by
  induction n with
  | zero => rfl
  | succ n ih => simp [sched, ih]; omega
theorem set_mid (l : List W32) (k n : Nat) (hl : l.length = k) (hn : k < n) (x : W32) :
    (l ++ List.replicate (n - k) 0).set k x = l ++ [x] ++ List.replicate (n - (k + 1)) 0 := by
  obtain ⟨d, hd⟩ : ∃ d, n - k = d + 1 := ⟨n - k - 1, by omega⟩
  rw [hd, show n - (k + 1) = d from by omega, List.set_append_right _ _ (by omega), hl, Nat.sub_self, List.replicate_succ]
  simp
theorem words_snoc (s : List UInt8) (n : Nat) : words s (n + 1) = words s n ++ [wordAt s n] := by
  simp [words, List.range_succ]
theorem sched_step (m : List W32) (hm : m.length = 16) (k : Nat) (h0 : 16 ≤ k) (hk : k < 64) :
    let l := sched m (k - 16) ++ List.replicate (64 - k) 0
    l.set k (l.getD (k - 16) 0 + ss0 (l.getD (k - 15) 0) + l.getD (k - 7) 0 + ss1 (l.getD (k - 2) 0)) = sched m (k + 1 - 16) ++ List.replicate (64 - (k + 1)) 0 := by
  intro l
  have hs : (sched m (k - 16)).length = k := by rw [sched_length, hm]; omega
  have g : ∀ i, i < k → l.getD i 0 = (sched m (k - 16)).getD i 0 := fun i hi => getD_app_left _ _ _ (by omega)
  rw [g _ (by omega), g _ (by omega), g _ (by omega), g _ (by omega), set_mid _ _ _ hs hk, show k + 1 - 16 = (k - 16) + 1 from by omega, sched, nextW, show 16 + (k - 16) = k from by omega]
theorem addW_zero (h v : List W32) (hh : h.length = 8) : addW h v 0 = h := by
  obtain ⟨a, b, c, d, e, f, g, i, rfl⟩ : ∃ a b c d e f g i : W32, h = [a, b, c, d, e, f, g, i] := by
    match h, hh with
    | [a, b, c, d, e, f, g, i], _ => exact ⟨a, b, c, d, e, f, g, i, rfl⟩
  rfl
theorem addW_get (h v : List W32) (n i : Nat) (hi : i < 8) : (addW h v n)[i]? = some (if i < n then h.getD i 0 + v.getD i 0 else h.getD i 0) := by
  simp only [addW, List.getElem?_map, List.getElem?_range hi, Option.map_some]
theorem addW_step (h v : List W32) (k : Nat) (hk : k < 8) : (addW h v k).set k ((addW h v k).getD k 0 + v.getD k 0) = addW h v (k + 1) := by
  apply List.ext_getElem?
  intro i
  rw [List.getElem?_set, addW_length]
  have gk : (addW h v k).getD k 0 = h.getD k 0 := by
    rw [List.getD_eq_getElem?_getD, addW_get _ _ _ _ hk, if_neg (by omega)]; rfl
  by_cases e : k = i
  · subst e
    rw [if_pos rfl, if_pos hk, gk, addW_get _ _ _ _ hk, if_pos (by omega)]
  · rw [if_neg e]
    by_cases hi : i < 8
    · rw [addW_get _ _ _ _ hi, addW_get _ _ _ _ hi]
      by_cases c : i < k
      · rw [if_pos c, if_pos (by omega)]
      · rw [if_neg c, if_neg (by omega)]
    · rw [List.getElem?_eq_none (by rw [addW_length]; omega), List.getElem?_eq_none (by rw [addW_length]; omega)]
theorem len8 (l : List W32) (h : l.length = 8) : ∃ a b c d e f g i : W32, l = [a, b, c, d, e, f, g, i] := by
  match l, h with
  | [a, b, c, d, e, f, g, i], _ => exact ⟨a, b, c, d, e, f, g, i, rfl⟩
end Go.Proofs.YtfhjnfocmlndpaaDoor
