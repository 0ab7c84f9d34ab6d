/- Rows of uint32 in memory, and what becomes of them when memory is written or grows. -/
import Derived.WalkKit
import Derived.Lib.Hide
import Derived.IntWalk
import Derived.Deep.QuietTactic
import Derived.BigQuiet
import Derived.StillTailTactics
import Derived.Test.YtfhjnfocmlndpaaDoorSjSha
namespace Go.Proofs.YtfhjnfocmlndpaaDoor
open Go Go.RowKit

/-- a word as the model's number (kept shut: the walk spells a word's arithmetic by the rules below) -/
def iv (x : W32) : Int := (x.toNat : Int)
/-- a byte as a word; a word's last byte -/
def bW (c : UInt8) : W32 := BitVec.ofNat 32 c.toNat
def loB (x : W32) : UInt8 := UInt8.ofNat x.toNat
theorem iv_lo (x : W32) : 0 ≤ iv x := Int.natCast_nonneg _
theorem iv_hi (x : W32) : iv x < 4294967296 := w_lt x
theorem iv_zero : (0 : Int) = iv 0 := rfl
section
variable (t : TypeId) (x y : W32)
@[go_sem 10000] theorem bo_add : binOp .add t (.int .u32 (iv x)) (.int .u32 (iv y)) = pure (.int .u32 (iv (x + y))) := by
  rw [binOp_add]; show pure (Value.int .u32 (IntKind.u32.wrap (iv x + iv y))) = _
  rw [IntKind.wrap_u32]; unfold iv; rw [w_add]
@[go_sem 10000] theorem bo_and : binOp .and t (.int .u32 (iv x)) (.int .u32 (iv y)) = pure (.int .u32 (iv (x &&& y))) := by
  rw [binOp_and]; show pure (Value.int .u32 (bits .and .u32 (iv x) (iv y))) = _
  unfold iv; rw [w_and]
@[go_sem 10000] theorem bo_or : binOp .or t (.int .u32 (iv x)) (.int .u32 (iv y)) = pure (.int .u32 (iv (x ||| y))) := by
  rw [binOp_or]; show pure (Value.int .u32 (bits .or .u32 (iv x) (iv y))) = _
  unfold iv; rw [w_or]
@[go_sem 10000] theorem bo_xor : binOp .xor t (.int .u32 (iv x)) (.int .u32 (iv y)) = pure (.int .u32 (iv (x ^^^ y))) := by
  rw [binOp_xor]; show pure (Value.int .u32 (bits .xor .u32 (iv x) (iv y))) = _
  unfold iv; rw [w_xor]
theorem min_pow_shl (a : Nat) (h : 32 ≤ a) : x <<< a = x <<< 32 := by
  rw [BitVec.shiftLeft_eq_zero h, BitVec.shiftLeft_eq_zero (Nat.le_refl _)]
theorem min_pow_shr (a : Nat) (h : 32 ≤ a) : x >>> a = x >>> 32 := by
  rw [BitVec.ushiftRight_eq_zero h, BitVec.ushiftRight_eq_zero (Nat.le_refl _)]
@[go_sem 10000] theorem bo_shl (k : IntKind) (n : Int) (h : 0 ≤ n) : binOp .shl t (.int .u32 (iv x)) (.int k n) = pure (.int .u32 (iv (x <<< n.toNat))) := by
  rw [binOp_shl, shift_shl_any _ _ _ _ h, IntKind.wrap_u32]
  unfold iv
  rw [w_shl]
  show pure (Value.int .u32 ((x <<< min n.toNat 32).toNat : Int)) = _
  rcases Nat.le_total n.toNat 32 with h2 | h2
  · rw [Nat.min_eq_left h2]
  · rw [Nat.min_eq_right h2, min_pow_shl x _ h2]
@[go_sem 10000] theorem bo_shr (k : IntKind) (n : Int) (h : 0 ≤ n) : binOp .shr t (.int .u32 (iv x)) (.int k n) = pure (.int .u32 (iv (x >>> n.toNat))) := by
  rw [binOp_shr, shift_shr_any _ _ _ _ h]
  unfold iv
  rw [w_shr]
  show pure (Value.int .u32 ((x >>> min n.toNat 32).toNat : Int)) = _
  rcases Nat.le_total n.toNat 32 with h2 | h2
  · rw [Nat.min_eq_left h2]
  · rw [Nat.min_eq_right h2, min_pow_shr x _ h2]
@[go_sem 10000] theorem bo_mul256 : binOp .mul t (.int .u32 (iv x)) (.int .u32 256) = pure (.int .u32 (iv (x <<< 8))) := by
  rw [binOp_mul]; show pure (Value.int .u32 (IntKind.u32.wrap (iv x * 256))) = _
  rw [IntKind.wrap_u32]; unfold iv
  have := w_shl x 8
  rw [show (2 : Int) ^ 8 = 256 from rfl] at this
  rw [this]
@[go_sem 10000] theorem uo_not : Op.unary .xor (.int .u32 (iv x)) = pure (.int .u32 (iv (~~~x))) := by
  have e : iv (BitVec.allOnes 32) = 4294967295 := rfl
  show pure (Value.int .u32 (bits .xor .u32 4294967295 (iv x))) = _
  rw [← e]
  unfold iv
  rw [w_xor, BitVec.xor_comm, BitVec.xor_allOnes]
end
@[go_sem 10000] theorem wrap_u32_byte (c : UInt8) : IntKind.u32.wrap (c.toNat : Int) = iv (bW c) := by
  have := c.toNat_lt
  rw [IntKind.wrap_u32]; unfold iv bW
  rw [BitVec.toNat_ofNat]; omega
@[go_sem 10000] theorem wrap_u8_iv (x : W32) : IntKind.u8.wrap (iv x) = ((loB x).toNat : Int) := by
  rw [IntKind.wrap_u8]; unfold iv loB
  rw [UInt8.toNat_ofNat']; omega
theorem be32_lo (x : W32) : be32 x = [loB (x >>> 24), loB (x >>> 16), loB (x >>> 8), loB x] := by
  simp only [be32, loB, BitVec.toNat_ushiftRight, Nat.shiftRight_eq_div_pow]
/-- a word as a cell -/
def u32v (x : W32) : Value := .int .u32 (iv x)
def u32c (l : List W32) : Array Value := (l.map u32v).toArray
/-- block b is a row of words -/
def U32At (w : World) (b : Nat) (T : TypeId) (l : List W32) : Prop := w.heap[b]? = some (.cells (u32c l) T (0, 0))

theorem setCell_heap (w : World) (b i : Nat) (v : Value) (cs : Array Value) (T : TypeId) (fr : Nat × Nat) (h : w.heap[b]? = some (.cells cs T fr)) :
    (w.setCell ⟨b, i, none⟩ v).heap[b]? = some (.cells (cs.setIfInBounds i v) T fr) := by
  simp [World.setCell, Array.getElem?_modify, h]

namespace U32At
variable {w w' : World} {b : Nat} {T : TypeId} {l : List W32}
theorem cell (h : U32At w b T l) (i : Nat) (hi : i < l.length) : w.cell? ⟨b, i, none⟩ = some (.int .u32 (iv (l.getD i 0))) := by
  unfold U32At at h
  simp [World.cell?, h, u32c, u32v, hi]
theorem free (h : U32At w b T l) (i : Nat) : w.frozen? ⟨b, i, none⟩ = false := by
  unfold U32At at h
  simp [World.frozen?, h]
theorem lt (h : U32At w b T l) : b < w.heap.size := (Array.getElem?_eq_some_iff.1 h).1
theorem set (h : U32At w b T l) (i : Nat) (x : W32) : U32At (w.setCell ⟨b, i, none⟩ (.int .u32 (iv x))) b T (l.set i x) := by
  unfold U32At at h ⊢
  rw [setCell_heap _ _ _ _ _ _ _ h]
  congr 2
  unfold u32c u32v
  apply Array.ext'
  simp [List.map_set]
theorem other (h : U32At w b T l) {a : Addr} (ha : a.block ≠ b) (v : Value) : U32At (w.setCell a v) b T l := by
  unfold U32At at h ⊢
  rw [Below.heap_setCell _ _ _ _ (fun e => ha e.symm)]; exact h
theorem below (h : U32At w b T l) {B : Nat} (hb : Below B w w') (hB : b < B) : U32At w' b T l := by
  unfold U32At at h ⊢
  rw [hb.block b hB]; exact h
theorem alloc (h : U32At w b T l) (o : Obj) : U32At (w.alloc o) b T l := by
  have hl := h.lt
  unfold U32At at h ⊢
  rw [Below.heap_alloc _ _ _ hl]; exact h
theorem drewN (h : U32At w b T l) (n : Nat) : U32At (w.drewN n) b T l := h
theorem drew (h : U32At w b T l) : U32At w.drew b T l := h
theorem grown (h : U32At w b T l) {row : Option Nat} (hg : w.grownBy w' row) (hne : some b ≠ row) : U32At w' b T l := by
  have hl := h.lt
  unfold U32At at h ⊢
  rw [hg.block b hl hne]; exact h
end U32At

/-- the table of FIPS 180-4's constants, as it is laid: its cells, and nothing of its block -/
def KAt (w : World) (b : Nat) : Prop := ∀ i, i < 64 → w.cell? ⟨b, i, none⟩ = some (.int .u32 (iv (K0.getD i 0)))
namespace KAt
variable {w w' : World} {b : Nat}
theorem cell (h : KAt w b) (i : Nat) (hi : i < 64) : w.cell? ⟨b, i, none⟩ = some (.int .u32 (iv (K0.getD i 0))) := h i hi
theorem lt (h : KAt w b) : b < w.heap.size := World.block_lt_of_cell? w ⟨b, 0, none⟩ (h 0 (by decide))
theorem below (h : KAt w b) {B : Nat} (hb : Below B w w') (hB : b < B) : KAt w' b := fun i hi => by
  rw [hb.cell (by show b < B; exact hB)]; exact h i hi
theorem mono (h : KAt w b) (hb : Below w.heap.size w w') : KAt w' b := h.below hb h.lt
end KAt

theorem belowN {B : Nat} {a w : World} (h : Below B a w) (n : Nat) : Below B a (w.drewN n) := ⟨h.os, h.tape, h.output, h.size, h.block⟩
/-- what lies below all blocks of w, as it was: nothing of w has turned -/
theorem grown_below {w w' : World} (h : Below w.heap.size w w') (row : Option Nat) : w.grownBy w' row := ⟨h.os, h.tape, h.output, h.size, fun k hk _ => h.block k hk⟩
theorem below_grown {w w' : World} (h : w.grownBy w' none) : Below w.heap.size w w' := ⟨h.os, h.tape, h.output, h.size, fun k hk => h.block k hk (by simp)⟩
theorem grownBy_trans {a b c : World} {row : Option Nat} (h : a.grownBy b row) (k : b.grownBy c row) : a.grownBy c row :=
  ⟨k.os.trans h.os, k.tape.trans h.tape, k.output.trans h.output, Nat.le_trans h.size k.size, fun i hi hne => (k.block i (Nat.lt_of_lt_of_le hi h.size) hne).trans (h.block i hi hne)⟩
theorem grownBy_setCell (w : World) (b i : Nat) (v : Value) : w.grownBy (w.setCell ⟨b, i, none⟩ v) (some b) :=
  ⟨rfl, rfl, rfl, by simp [World.setCell], fun k _ hne => Below.heap_setCell _ _ _ _ (fun e => hne (by simp at e; rw [e]))⟩
theorem grownBy_drewN (w : World) (n : Nat) (row : Option Nat) : w.grownBy (w.drewN n) row := ⟨rfl, rfl, rfl, Nat.le_refl _, fun _ _ _ => rfl⟩

/-- a callee's contract met in a second region that draws -/
theorem quiet_add {P : Program} {f : FuncId} {args : Array Value} {w : World} {a n : Nat} {v : Value}
    (h : Calls P f args (w.drewN (a + n)) fun e w' => e = .returned v ∧ ∃ m, w' = (w.drewN (a + n)).drewN m) :
    Calls P f args (w.drewN (a + n)) fun e w'' => e = .returned v ∧ ∃ m, w'' = w.drewN (a + m) :=
  h.mono fun _ _ ⟨he, m, hm⟩ => ⟨he, n + m, by rw [hm, World.drewN_drewN, Nat.add_assoc]⟩
theorem quiet_add2 {P : Program} {f : FuncId} {args : Array Value} {w : World} {a b n : Nat} {v : Value}
    (h : Calls P f args (w.drewN (a + (b + n))) fun e w' => e = .returned v ∧ ∃ m, w' = (w.drewN (a + (b + n))).drewN m) :
    Calls P f args (w.drewN (a + (b + n))) fun e w'' => e = .returned v ∧ ∃ m, w'' = w.drewN (a + (b + m)) :=
  h.mono fun _ _ ⟨he, m, hm⟩ => ⟨he, n + m, by rw [hm, World.drewN_drewN, Nat.add_assoc, Nat.add_assoc]⟩
theorem quiet_add3 {P : Program} {f : FuncId} {args : Array Value} {w : World} {a b n : Nat} {v : Value}
    (h : Calls P f args (w.drewN (a + b + n)) fun e w' => e = .returned v ∧ ∃ m, w' = (w.drewN (a + b + n)).drewN m) :
    Calls P f args (w.drewN (a + b + n)) fun e w'' => e = .returned v ∧ ∃ m, w'' = w.drewN (a + (b + m)) :=
  h.mono fun _ _ ⟨he, m, hm⟩ => ⟨he, n + m, by rw [hm, World.drewN_drewN, Nat.add_assoc, Nat.add_assoc]⟩
theorem quiet_add4 {P : Program} {f : FuncId} {args : Array Value} {w : World} {a b n : Nat} {v : Value}
    (h : Calls P f args (w.drewN (a + (b + n))) fun e w' => e = .returned v ∧ ∃ m, w' = (w.drewN (a + (b + n))).drewN m) :
    Calls P f args (w.drewN (a + (b + n))) fun e w'' => e = .returned v ∧ ∃ m, w'' = w.drewN (a + b + m) :=
  h.mono fun _ _ ⟨he, m, hm⟩ => ⟨he, n + m, by rw [hm, World.drewN_drewN]; congr 1; omega⟩
theorem byteAt_word (s : ByteArray) (i : Nat) (h : i < s.size) : bW s[i] = byteAt s.data.toList i := by
  unfold bW byteAt
  congr 2
  have h' : i < s.data.toList.length := by simpa using h
  rw [List.getD_eq_getElem?_getD, List.getElem?_eq_getElem h']
  rfl
theorem word_is (s : ByteArray) (k : Nat) (h : 4 * k + 3 < s.size) :
    bW (s[4 * k]'(by omega)) <<< 24 ||| bW (s[4 * k + 1]'(by omega)) <<< 16 ||| bW (s[4 * k + 2]'(by omega)) <<< 8 ||| bW s[4 * k + 3] = wordAt s.data.toList k := by
  rw [byteAt_word, byteAt_word, byteAt_word, byteAt_word]; rfl
theorem fill_word {w : World} {b : Nat} {T : TypeId} {s : ByteArray} {k : Nat} (h : U32At w b T (words s.data.toList k ++ List.replicate (64 - k) 0)) (hk : 4 * k + 3 < s.size) (hk2 : k < 64) :
    U32At (w.setCell ⟨b, k, none⟩ (.int .u32 (iv (bW (s[4 * k]'(by omega)) <<< 24 ||| bW (s[4 * k + 1]'(by omega)) <<< 16 ||| bW (s[4 * k + 2]'(by omega)) <<< 8 ||| bW s[4 * k + 3])))) b T (words s.data.toList (k + 1) ++ List.replicate (64 - (k + 1)) 0) := by
  have := h.set k (bW (s[4 * k]'(by omega)) <<< 24 ||| bW (s[4 * k + 1]'(by omega)) <<< 16 ||| bW (s[4 * k + 2]'(by omega)) <<< 8 ||| bW s[4 * k + 3])
  rw [set_mid _ _ _ (words_length _ _) hk2, word_is _ _ hk, ← words_snoc] at this
  rw [word_is _ _ hk]
  exact this
theorem below_set {B : Nat} {a w : World} (h : Below B a w) {b i : Nat} (hb : B ≤ b) (v : Value) : Below B a (w.setCell ⟨b, i, none⟩ v) := h.setCell hb v
theorem u32_made (w : World) (T : TypeId) (n : Nat) (cs : Array Value) (h : cs = u32c (List.replicate n 0)) : U32At (w.alloc (.cells cs T)) w.heap.size T (List.replicate n 0) := by
  unfold U32At; rw [h]; exact heap_alloc_new w _
end Go.Proofs.YtfhjnfocmlndpaaDoor
