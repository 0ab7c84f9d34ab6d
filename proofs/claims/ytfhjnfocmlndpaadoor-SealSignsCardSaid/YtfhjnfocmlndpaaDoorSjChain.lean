/- Heads: which may be, and their marks (the program's). -/
import Derived.Test.YtfhjnfocmlndpaaDoorShelf
import Derived.Test.YtfhjnfocmlndpaaDoorSjMark
import Derived.Test.YtfhjnfocmlndpaaDoorSjLaid
import Derived.Test.YtfhjnfocmlndpaaDoorSjQuiet
import Derived.Test.YtfhjnfocmlndpaaDoorSjMem
import Derived.Test.YtfhjnfocmlndpaaDoorSjOnce
namespace Go.Proofs.YtfhjnfocmlndpaaDoor
open Go Go.RowKit Go.Proofs Go.Shelf

/-! ### in plain Lean -/
def lowB (c : UInt8) : Bool := decide (97 ≤ c.toNat) && decide (c.toNat ≤ 122)
def digB (c : UInt8) : Bool := decide (48 ≤ c.toNat) && decide (c.toNat ≤ 57)
def lettersL : List UInt8 := [97, 98, 99, 100, 101, 102, 103, 104, 105, 106, 107, 108, 109, 110, 111, 112, 113, 114, 115, 116, 117, 118, 119, 120, 121, 122]
def lettersDigitsL : List UInt8 := [97, 98, 99, 100, 101, 102, 103, 104, 105, 106, 107, 108, 109, 110, 111, 112, 113, 114, 115, 116, 117, 118, 119, 120, 121, 122, 48, 49, 50, 51, 52, 53, 54, 55, 56, 57]
/-- 2.1: who may be called so -/
def nameL : List UInt8 → Bool
  | [] => false
  | c :: l => lowB c && l.all (fun c => lowB c || digB c) && decide (l.length + 1 ≤ 12)
def nameOk (s : ByteArray) : Bool := nameL s.data.toList
set_option maxRecDepth 100000 in
theorem idx_low (c : UInt8) : (0 ≤ Lib.indexByte lettersL c) ↔ lowB c = true := by
  have h : ∀ n : Fin 256, decide (0 ≤ Lib.indexByte lettersL (UInt8.ofNat n.val)) = lowB (UInt8.ofNat n.val) := by decide
  have h1 := h ⟨c.toNat, c.toNat_lt⟩
  simp only [UInt8.ofNat_toNat] at h1
  rw [← h1, decide_eq_true_iff]
set_option maxRecDepth 100000 in
theorem set_low (c : UInt8) : lettersDigitsL.contains c = (lowB c || digB c) := by
  have h : ∀ n : Fin 256, lettersDigitsL.contains (UInt8.ofNat n.val) = (lowB (UInt8.ofNat n.val) || digB (UInt8.ofNat n.val)) := by decide
  have h1 := h ⟨c.toNat, c.toNat_lt⟩
  simpa only [UInt8.ofNat_toNat] using h1
theorem dropWhile_nil {p : UInt8 → Bool} : ∀ {l : List UInt8}, l.dropWhile p = [] → ∀ x ∈ l, p x = true
  | [], _ => fun _ h => by cases h
  | a :: l, h => by
    rw [List.dropWhile_cons] at h
    split at h
    · intro x hx
      rcases List.mem_cons.1 hx with rfl | hx
      · assumption
      · exact dropWhile_nil h x hx
    · cases h
theorem nil_dropWhile {p : UInt8 → Bool} : ∀ {l : List UInt8}, (∀ x ∈ l, p x = true) → l.dropWhile p = []
  | [], _ => rfl
  | a :: l, h => by
    rw [List.dropWhile_cons, if_pos (h a List.mem_cons_self)]
    exact nil_dropWhile fun x hx => h x (List.mem_cons_of_mem _ hx)
theorem head_dropWhile {p : UInt8 → Bool} : ∀ {l : List UInt8} {a : UInt8} {r : List UInt8}, l.dropWhile p = a :: r → p a = false
  | b :: l, a, r, h => by
    rw [List.dropWhile_cons] at h
    split at h
    · exact head_dropWhile h
    · rename_i hb
      simp only [List.cons.injEq] at h
      rw [← h.1]; simpa using hb
theorem trim_nil (l cs : List UInt8) : Lib.trimS l cs = [] ↔ ∀ x ∈ l, cs.contains x = true := by
  unfold Lib.trimS Lib.trimLeftS Lib.trimRightS
  constructor
  · intro h
    have h1 := dropWhile_nil h
    have h2 : l.reverse.dropWhile (cs.contains ·) = [] := by
      rcases hd : l.reverse.dropWhile (cs.contains ·) with _ | ⟨a, r⟩
      · rfl
      · have h3 := head_dropWhile hd
        have h4 := h1 a (by rw [hd]; simp)
        rw [h3] at h4; cases h4
    intro x hx
    exact dropWhile_nil h2 x (List.mem_reverse.2 hx)
  · intro h
    rw [nil_dropWhile (l := l.reverse) (fun x hx => h x (List.mem_reverse.1 hx))]
    rfl
theorem trim_name (l : List UInt8) : Lib.trimS l lettersDigitsL = [] ↔ l.all (fun c => lowB c || digB c) = true := by
  rw [trim_nil, List.all_eq_true]
  constructor
  · intro h x hx; rw [← set_low]; exact h x hx
  · intro h x hx; rw [set_low]; exact h x hx

/-! ### index.Name -/
def lettersS : ByteArray := ⟨#[97, 98, 99, 100, 101, 102, 103, 104, 105, 106, 107, 108, 109, 110, 111, 112, 113, 114, 115, 116, 117, 118, 119, 120, 121, 122]⟩
def lettersDigitsS : ByteArray := ⟨#[97, 98, 99, 100, 101, 102, 103, 104, 105, 106, 107, 108, 109, 110, 111, 112, 113, 114, 115, 116, 117, 118, 119, 120, 121, 122, 48, 49, 50, 51, 52, 53, 54, 55, 56, 57]⟩
theorem idx_any (c : UInt8) (w : World) : Calls Tryd.prog 141 #[.string lettersS, .int .u8 (c.toNat : Int)] w fun e w' => ∃ j : Int, e = .returned (.int .i64 j) ∧ w' = w ∧ ((0 ≤ j) ↔ lowB c = true) := by
  have h := Any.strings_IndexByte Tryd.lays137 lettersS (c.toNat : Int) w
  refine Calls.mono (f := 141) h ?_
  rintro e w' ⟨rfl, rfl⟩
  refine ⟨_, rfl, rfl, ?_⟩
  have : ((c.toNat : Int)).toNat.toUInt8 = c := by simp
  rw [this]
  exact idx_low c
theorem trim_any (s : ByteArray) (hs : s.size ≤ 1000000) (w : World) : Calls Tryd.prog 142 #[.string s, .string lettersDigitsS] w fun e w' => ∃ r : ByteArray, e = .returned (.string r) ∧ Below w.heap.size w w' ∧ (r.toList = [] ↔ s.data.toList.all (fun c => lowB c || digB c) = true) := by
  have h := Any.strings_Trim_laid Tryd.lays160 (by kernel_rfl) s lettersDigitsS w (by omega) (by decide) (ascii_of_all (by decide))
  refine Calls.mono (f := 142) h ?_
  rintro e w' ⟨rfl, hb⟩
  refine ⟨_, rfl, hb, ?_⟩
  rw [← trim_name]
  rw [ByteArray.toList_mk]
  exact Iff.rfl
theorem size0 {s : ByteArray} (h : s.size = 0) : s = ⟨#[]⟩ := by
  apply ByteArray.ext
  exact Array.eq_empty_of_size_eq_zero h
set_option maxHeartbeats 1000000 in
theorem name_any (s : ByteArray) (w : World) (hs : s.size ≤ 1000000) : Calls Tryd.prog 89 #[.string s] w fun e w' => e = .returned (.bool (nameOk s)) ∧ Below w.heap.size w w' := by
  by_cases h0 : s.size = 0
  · obtain rfl := size0 h0
    go_enter Tryd.func89, Tryd.ntmps89
    go_wp2_with fail
    go_ret
    exact ⟨rfl, Below.refl _ _⟩
  · obtain ⟨c, l, hcl⟩ : ∃ c l, s.data.toList = c :: l := by
      rcases hd : s.data.toList with _ | ⟨c, l⟩
      · exfalso; apply h0; have : s.data.toList.length = s.size := by simp
        rw [hd] at this; exact this.symm
      · exact ⟨c, l, rfl⟩
    have hne3 : s.toList.isEmpty = false := by rw [ByteArray.toList_eq, hcl]; rfl
    have hne : ¬ s.toList = [] := by rw [ByteArray.toList_eq, hcl]; simp
    have e4 : 0 < s.size := by omega
    have hlen : s.size = l.length + 1 := by have : s.data.toList.length = s.size := by simp
                                            rw [hcl] at this; simpa using this.symm
    have hsk : s[0]'e4 = c := by
      have : s.data.toList[0]? = some c := by rw [hcl]; rfl
      have := (List.getElem?_eq_some_iff.1 this).2
      rw [← this]; rfl
    have hok : nameOk s = (lowB c && l.all (fun c => lowB c || digB c) && decide (l.length + 1 ≤ 12)) := by unfold nameOk; rw [hcl]; rfl
    by_cases h12 : s.size ≤ 12
    rotate_left
    · have e1 : ¬ (s.size : Int) ≤ 12 := by omega
      have e2 : nameOk s = false := by rw [hok, decide_eq_false (by omega), Bool.and_false]
      clear hok hcl hlen
      go_enter Tryd.func89, Tryd.ntmps89
      go_wp2_with fail
      go_ret
      exact ⟨by simp, Below.refl _ _⟩
    have e1 : (s.size : Int) ≤ 12 := by omega
    have e3 : (0 : Int) < s.size := by omega
    have HI := Lib.hid (idx_any c w)
    by_cases hlo : lowB c = true
    rotate_left
    · have e2 : Hid (nameOk s = false) := by unfold Hid; rw [hok]; simp [hlo]
      have Hlo := Lib.hid hlo
      clear hok hcl hlen hlo
      go_enter Tryd.func89, Tryd.ntmps89
      go_wp2_with (go_at_call 141; refine HI.out.mono ?_; rintro e w1 ⟨j, rfl, rfl, hj⟩; have hj1 : ¬ (0 : Int) ≤ j := (fun h => Hlo.out (hj.1 h)); clear hj)
      go_ret
      exact ⟨by simp [e2.out], Below.refl _ _⟩
    · have HT := Lib.hid (trim_any s hs w)
      have Hlo := Lib.hid hlo
      have hok2 : nameOk s = s.data.toList.all (fun c => lowB c || digB c) := by
        rw [hok, hcl, List.all_cons, hlo, decide_eq_true (by omega)]; simp
      have Hok := Lib.hid hok2
      clear hok hcl hlen hlo hok2
      go_enter Tryd.func89, Tryd.ntmps89
      go_wp2_with (first
        | (go_at_call 141; refine HI.out.mono ?_; rintro e w1 ⟨j, rfl, rfl, hj⟩; have hj1 : (0 : Int) ≤ j := hj.2 Hlo.out; clear hj)
        | (go_at_call 142; refine HT.out.mono ?_; rintro e w2 ⟨r, rfl, hB, hr⟩; have Hr := Lib.hid hr; clear hr))
      go_ret
      refine ⟨?_, hB⟩
      rw [Hok.out]
      by_cases hr : r.toList = []
      · rw [Hr.out.1 hr]; simp [hr]
      · have h1 : s.data.toList.all (fun c => lowB c || digB c) = false := by
          rw [Bool.eq_false_iff]; exact fun h => hr (Hr.out.2 h)
        rw [h1]
        simp [hr]

/-! ### index.Of -/
def ofS (name : ByteArray) : ByteArray := if nameOk name then markS 105 [name] else ⟨#[]⟩
def ofK (name : ByteArray) : Int := if nameOk name then 0 else 5
/-- the error of an Errno: none for OK -/
def errV (k : Int) : Value := if k = 0 then .nilIface else .iface 31 (.int .i64 k)
theorem errV_0 : errV 0 = .nilIface := rfl
theorem errV_is (k : Int) : ErrV (errV k) k := by
  unfold errV
  split
  · exact .inl ⟨rfl, by assumption⟩
  · exact .inr rfl
/-- a text and an error -/
def StrPost (s : ByteArray) (k : Int) (w : World) (e : Ending) (w' : World) : Prop := e = .returned (.tuple #[.string s, errV k]) ∧ Below w.heap.size w w'
theorem mark1_small (c : UInt8) (p : ByteArray) (hp : p.size ≤ 1000000) : (markL c [p]).length ≤ 1000000000 := by
  have h5 : p.data.toList.length = p.size := by simp
  unfold markL
  simp only [List.flatMap_cons, List.flatMap_nil, List.length_cons, List.length_append, List.length_nil, numL_length]
  omega
theorem mark1 (c : UInt8) (n : Int) (hn : n = (c.toNat : Int)) (p : ByteArray) (w : World) (hp : p.size ≤ 1000000) (hk : KAt w 0) :
    Calls Tryd.prog 21 #[.int .u8 n, .slice (some ⟨w.heap.size, 0, none⟩) 1 1] (w.alloc (.cells #[.string p] 9)) fun e w' => e = .returned (.string (markS c [p])) ∧ Below w.heap.size w w' := by
  subst hn
  have hb : Below w.heap.size w (w.alloc (.cells #[.string p] 9)) := (Below.refl _ _).alloc (Nat.le_refl _) _
  refine (mark_any c _ [p] _ (Reads.lit w 9 1 1 [.string p] rfl) (mark1_small c p hp) (hk.mono hb)).mono ?_
  rintro e w' ⟨rfl, h⟩
  exact ⟨rfl, hb.trans (h.mono hb.size)⟩
theorem of_any (name : ByteArray) (w : World) (hs : name.size ≤ 1000000) (hk : KAt w 0) : Calls Tryd.prog 47 #[.string name] w (StrPost (ofS name) (ofK name) w) := by
  have HN := Lib.hid (name_any name w hs)
  have Hk := Lib.hid hk
  clear hk
  unfold StrPost ofS ofK
  cases hok : nameOk name with
  | false =>
    rw [hok] at HN
    go_enter Tryd.func47, Tryd.ntmps47
    go_wp2_with (go_at_call 89; refine HN.out.mono ?_; rintro e w1 ⟨rfl, hB⟩)
    go_ret2
    exact ⟨rfl, hB⟩
  | true =>
    rw [hok] at HN
    go_enter Tryd.func47, Tryd.ntmps47
    go_wp2_with (first
      | (go_at_call 89; refine HN.out.mono ?_; rintro e w1 ⟨rfl, hB⟩)
      | (go_at_call 21; refine (mark1 105 _ rfl name _ hs (Hk.out.mono hB)).mono ?_; rintro e w2 ⟨rfl, hB2⟩))
    go_ret2
    exact ⟨rfl, hB.trans (hB2.mono hB.size)⟩
end Go.Proofs.YtfhjnfocmlndpaaDoor

namespace Go.Proofs.YtfhjnfocmlndpaaDoor
open Go Go.RowKit Go.Proofs

/-- the worlds in which nothing of w has turned -/
def Grown (w : World) : Type := { W : World // Below w.heap.size w W }
instance (w : World) : Nonempty (Grown w) := ⟨⟨w, Below.refl _ _⟩⟩
theorem Grown.below {w : World} (x : Grown w) : Below w.heap.size w x.val := x.property
theorem Grown.step {w w' : World} (x : Grown w) (hb : Below x.val.heap.size x.val w') : ∃ y : Grown w, w' = y.val := ⟨⟨w', x.below.trans (hb.mono x.below.size)⟩, rfl⟩
theorem Grown.call {w : World} {P : Program} {f : FuncId} {args : Array Value} {v : Value} (x : Grown w) (h : Calls P f args x.val fun e w' => e = .returned v ∧ Below x.val.heap.size x.val w') :
    Calls P f args x.val fun e w' => e = .returned v ∧ ∃ y : Grown w, w' = y.val := h.mono fun _ _ ⟨he, hb⟩ => ⟨he, x.step hb⟩
theorem Grown.same {w : World} {P : Program} {f : FuncId} {args : Array Value} {v : Value} (x : Grown w) (h : Calls P f args x.val fun e w' => e = .returned v ∧ w' = x.val) :
    Calls P f args x.val fun e w' => e = .returned v ∧ ∃ y : Grown w, w' = y.val := h.mono fun _ _ ⟨he, hb⟩ => ⟨he, x, hb⟩
theorem Grown.cell {w : World} {a : Addr} {v : Value} (h : w.cell? a = some v) (x : Grown w) : x.val.cell? a = some v := by
  rw [x.below.cell (World.block_lt_of_cell? w a h)]; exact h
section
variable {P : Program}
theorem wp_region_grown {id : Nat} {Q : Exit → Act → World → Prop} {a : Act} {w : World} {l : List Oper} (hm : P.follows .mixedOrders = true) (hB : Region.lexB .any l.toArray = true)
    (h : wpQuiet P l.toArray (fun w' => ∃ x : Grown w, w' = x.val) (fun a' => ∀ x : Grown w, Q .normal a' x.val) l a) : (Code.region id l.toArray true).wp P Q a w :=
  wp_region_quiet (C := fun w' => ∃ x : Grown w, w' = x.val) hm hB ⟨⟨{ w with drawn := w.drawn + 1 }, belowN (Below.refl _ _) 1⟩, rfl⟩ (by
    have e : (fun a' => ∀ w', (∃ x : Grown w, w' = x.val) → Q .normal a' w') = fun a' => ∀ x : Grown w, Q .normal a' x.val := by
      funext a'
      exact propext ⟨fun h x => h _ ⟨x, rfl⟩, fun h w' ⟨x, hx⟩ => hx ▸ h x⟩
    rw [e]; simpa using h)
theorem wp_region_grown_tail {id : Nat} {Q : Exit → Act → World → Prop} {a : Act} {w : World} {l : List Oper} (n : Nat) (hm : P.follows .mixedOrders = true) (hB : Region.lexTailB .any l.toArray n = true)
    (h : wpQuiet P l.toArray (fun w' => ∃ x : Grown w, w' = x.val) (fun a' => ∀ x : Grown w, wpList P l.toArray Q (l.drop n) a' x.val) (l.take n) a) : (Code.region id l.toArray true).wp P Q a w := by
  simp only [Region.lexTailB, Bool.and_eq_true, decide_eq_true_eq] at hB
  obtain ⟨⟨⟨⟨hsel, hn⟩, hs⟩, hc⟩, hlex⟩ := hB
  have hn' : n < l.length := by simpa using hn
  have htl : (l.take n).length = n := by simp; omega
  have hdl : (l.drop n).length = l.toArray.size - n := by simp
  have inv0 : HeadInv .any l.toArray n (Array.replicate l.toArray.size false) :=
    ⟨by simp, fun j oj _ hl => (by rw [getD_replicate_false] at hl; cases hl), fun t _ ht => getD_in (by simpa using ht) (getD_replicate_false _ _)⟩
  have H := wpAnyLQ_lex (md := .any) (g := l.toArray.size - n) hsel hs hc hn (l.take n) 0 _ a (fun j hj => by
    have hj' : j < n := by rw [htl] at hj; exact hj
    simp [hj']) (by simpa using htl) inv0 (by rw [htl]; exact hlex) h
  refine wp_region_any hm ?_
  have := wpAny_of_headQ (Q' := Q) (g := l.toArray.size - n) (C := fun w' => ∃ x : Grown w, w' = x.val) (fun listed a' w' hw' hL => by
    obtain ⟨x, rfl⟩ := hw'
    have := wpAny_of_seq (md := .any) (Q' := Q) (l.drop n) n listed a' x.val (fun j => by simp [List.getElem?_drop]) (by rw [hdl]; exact hL.1) (hL.2 x)
    rwa [hdl] at this) _ _ _ { w with drawn := w.drawn + 1 } ⟨⟨{ w with drawn := w.drawn + 1 }, belowN (Below.refl _ _) 1⟩, rfl⟩ H
  rw [htl, show n + (l.toArray.size - n) = l.toArray.size by omega] at this
  exact this
end
end Go.Proofs.YtfhjnfocmlndpaaDoor

namespace Go.Proofs.YtfhjnfocmlndpaaDoor
open Go Go.RowKit Go.Proofs

/-- a head -/
structure Hd where
  epoch : Int
  root : ByteArray
  prev : ByteArray
def Hd.val (h : Hd) : Value := .agg #[.int .i64 h.epoch, .string h.root, .string h.prev]
def Hd.cells (h : Hd) : List Value := [.int .i64 h.epoch, .string h.root, .string h.prev]
/-- what may be held -/
structure Hd.Held (h : Hd) : Prop where
  lo : -9223372036854775808 ≤ h.epoch
  hi : h.epoch ≤ 9223372036854775807
  root : h.root.size ≤ 60
  prev : h.prev.size ≤ 60
def Hd.right (h : Hd) : Bool := decide (1 ≤ h.epoch) && decide (h.root.size = 16) && decide (h.prev.size = 16)
def headS (h : Hd) : ByteArray := markS 104 [numS h.epoch, h.root, h.prev]
def hmarkS (h : Hd) : ByteArray := if h.right then headS h else ⟨#[]⟩
def hmarkK (h : Hd) : Int := if h.right then 0 else 1

theorem cright_any (h : Hd) (w : World) : Calls Tryd.prog 63 #[h.val] w fun e w' => e = .returned (.bool h.right) ∧ Below w.heap.size w w' := by
  obtain ⟨ep, root, prev⟩ := h
  unfold Hd.val Hd.right
  have hb : Below w.heap.size w (w.alloc (.cells #[.int .i64 ep, .string root, .string prev] 63)) := (Below.refl _ _).alloc (Nat.le_refl _) _
  dsimp only
  by_cases h1 : 1 ≤ ep
  · by_cases h2 : root.size = 16
    · have f2 : (root.size : Int) = 16 := by omega
      by_cases h3 : prev.size = 16
      · have f3 : (prev.size : Int) = 16 := by omega
        rw [decide_eq_true h1, decide_eq_true h2, decide_eq_true h3]
        clear h2 h3
        go_enter Tryd.func63, Tryd.ntmps63
        go_wp2_with fail
        go_ret
        exact ⟨rfl, hb⟩
      · have f3 : ((prev.size : Int) == 16) = false := by rw [beq_eq_false_iff_ne]; omega
        rw [decide_eq_true h1, decide_eq_true h2, decide_eq_false h3]
        clear h2 h3
        go_enter Tryd.func63, Tryd.ntmps63
        go_wp2_with fail
        go_ret
        exact ⟨rfl, hb⟩
    · have f2 : ((root.size : Int) == 16) = false := by rw [beq_eq_false_iff_ne]; omega
      rw [decide_eq_true h1, decide_eq_false h2]
      clear h2
      go_enter Tryd.func63, Tryd.ntmps63
      go_wp2_with fail
      go_ret
      exact ⟨rfl, hb⟩
  · rw [decide_eq_false h1]
    go_enter Tryd.func63, Tryd.ntmps63
    go_wp2_with fail
    go_ret
    exact ⟨rfl, hb⟩

set_option maxHeartbeats 1000000 in
theorem cmark_any (h : Hd) (w : World) (hh : h.Held) (hk : KAt w 0) :
    Calls Tryd.prog 62 #[h.val] w (StrPost (hmarkS h) (hmarkK h) w) := by
  have HR := Lib.hid (fun W => cright_any h W)
  have HH := Lib.hid hh
  have Hk := Lib.hid hk
  have hb : Below w.heap.size w (w.alloc (.cells #[.int .i64 h.epoch, .string h.root, .string h.prev] 63)) := (Below.refl _ _).alloc (Nat.le_refl _) _
  clear hh hk
  unfold StrPost hmarkS hmarkK
  unfold Hd.val at *
  cases hr : h.right with
  | false =>
    rw [hr] at HR
    go_enter Tryd.func62, Tryd.ntmps62
    go_wp2_with (go_at_call 63; refine (HR.out _).mono ?_; rintro e w1 ⟨rfl, hB1⟩)
    go_ret2
    exact ⟨rfl, hb.trans (hB1.mono hb.size)⟩
  | true =>
    rw [hr] at HR
    have HO : Hid (headS h = markS 104 [numS h.epoch, h.root, h.prev]) := rfl
    generalize headS h = M at *
    go_enter Tryd.func62, Tryd.ntmps62
    go_wp2_with (go_at_call 63; refine (HR.out _).mono ?_; rintro e w1 ⟨rfl, hB1⟩)
    have hC1 := hb.trans (hB1.mono hb.size)
    have k0 : w1.cell? ⟨w.heap.size, 0, none⟩ = some (.int .i64 h.epoch) := by rw [hB1.cell (by simp), cell_of_row _ _ _ _ _ _ (heap_alloc_new _ _)]; rfl
    have k1 : w1.cell? ⟨w.heap.size, 1, none⟩ = some (.string h.root) := by rw [hB1.cell (by simp), cell_of_row _ _ _ _ _ _ (heap_alloc_new _ _)]; rfl
    have k2 : w1.cell? ⟨w.heap.size, 2, none⟩ = some (.string h.prev) := by rw [hB1.cell (by simp), cell_of_row _ _ _ _ _ _ (heap_alloc_new _ _)]; rfl
    have x0 := fun x : Grown w1 => x.cell k0
    have x1 := fun x : Grown w1 => x.cell k1
    have x2 := fun x : Grown w1 => x.cell k2
    clear k0 k1 k2
    refine wp_region_grown_tail 7 (by kernel_rfl) (by kernel_rfl) ?_
    simp only [List.take_succ_cons, List.take_zero, List.drop_succ_cons, List.drop_zero]
    repeat (quiet_step ((go_at_call 19; exact Grown.call _ (num_any _ _ HH.out.lo HH.out.hi))))
    refine wpQuiet_nil ?_
    intro x
    have hX := hC1.trans (x.below.mono hC1.size)
    generalize x.val = wx at hX
    have hn1 := numS_size h.epoch
    have hn2 := HH.out.root
    have hn3 := HH.out.prev
    go_wp2_with (first
      | (go_at_call 21; refine (mark3 104 _ rfl _ _ _ _ (by omega) (by omega) (by omega) (Hk.out.mono hX)).mono ?_; rw [← HO.out]; rintro e w2 ⟨rfl, hB2⟩))
    go_ret2
    exact ⟨rfl, hX.trans (hB2.mono hX.size)⟩
end Go.Proofs.YtfhjnfocmlndpaaDoor
