/- Names: index.Name, index.Of. -/
import Derived.Test.YtfhjnfocmlndpaaDoorShelf
import Derived.Test.YtfhjnfocmlndpaaDoorMark
import Derived.Test.YtfhjnfocmlndpaaDoorTell
namespace Go.Proofs.YtfhjnfocmlndpaaDoor
open Go Go.RowKit Go.Proofs Go.Shelf

/-! ### in plain Lean -/
def lowB (c : UInt8) : Bool := decide (97 ≤ c.toNat) && decide (c.toNat ≤ 122)
def digB (c : UInt8) : Bool := decide (48 ≤ c.toNat) && decide (c.toNat ≤ 57)
def lettersL : List UInt8 := [97, 98, 99, 100, 101, 102, 103, 104, 105, 106, 107, 108, 109, 110, 111, 112, 113, 114, 115, 116, 117, 118, 119, 120, 121, 122]
def lettersDigitsL : List UInt8 := [97, 98, 99, 100, 101, 102, 103, 104, 105, 106, 107, 108, 109, 110, 111, 112, 113, 114, 115, 116, 117, 118, 119, 120, 121, 122, 48, 49, 50, 51, 52, 53, 54, 55, 56, 57]
/-- 2.1: who may be called so -/
def nameL : List UInt8 → Bool
  | [] => false
  | c :: l => lowB c && l.all (fun c => lowB c || digB c) && decide (l.length + 1 ≤ 12)
def nameOk (s : ByteArray) : Bool := nameL s.data.toList
set_option maxRecDepth 100000 in
theorem idx_low (c : UInt8) : (0 ≤ Lib.indexByte lettersL c) ↔ lowB c = true := by
  have h : ∀ n : Fin 256, decide (0 ≤ Lib.indexByte lettersL (UInt8.ofNat n.val)) = lowB (UInt8.ofNat n.val) := by decide
  have h1 := h ⟨c.toNat, c.toNat_lt⟩
  simp only [UInt8.ofNat_toNat] at h1
  rw [← h1, decide_eq_true_iff]
set_option maxRecDepth 100000 in
theorem set_low (c : UInt8) : lettersDigitsL.contains c = (lowB c || digB c) := by
  have h : ∀ n : Fin 256, lettersDigitsL.contains (UInt8.ofNat n.val) = (lowB (UInt8.ofNat n.val) || digB (UInt8.ofNat n.val)) := by decide
  have h1 := h ⟨c.toNat, c.toNat_lt⟩
  simpa only [UInt8.ofNat_toNat] using h1
theorem dropWhile_nil {p : UInt8 → Bool} : ∀ {l : List UInt8}, l.dropWhile p = [] → ∀ x ∈ l, p x = true
  | [], _ => fun _ h => by cases h
  | a :: l, h => by
    rw [List.dropWhile_cons] at h
    split at h
    · intro x hx
      rcases List.mem_cons.1 hx with rfl | hx
      · assumption
      · exact dropWhile_nil h x hx
    · cases h
theorem nil_dropWhile {p : UInt8 → Bool} : ∀ {l : List UInt8}, (∀ x ∈ l, p x = true) → l.dropWhile p = []
  | [], _ => rfl
  | a :: l, h => by
    rw [List.dropWhile_cons, if_pos (h a List.mem_cons_self)]
    exact nil_dropWhile fun x hx => h x (List.mem_cons_of_mem _ hx)
theorem head_dropWhile {p : UInt8 → Bool} : ∀ {l : List UInt8} {a : UInt8} {r : List UInt8}, l.dropWhile p = a :: r → p a = false
  | b :: l, a, r, h => by
    rw [List.dropWhile_cons] at h
    split at h
    · exact head_dropWhile h
    · rename_i hb
      simp only [List.cons.injEq] at h
      rw [← h.1]; simpa using hb
theorem trim_nil (l cs : List UInt8) : Lib.trimS l cs = [] ↔ ∀ x ∈ l, cs.contains x = true := by
  unfold Lib.trimS Lib.trimLeftS Lib.trimRightS
  constructor
  · intro h
    have h1 := dropWhile_nil h
    have h2 : l.reverse.dropWhile (cs.contains ·) = [] := by
      rcases hd : l.reverse.dropWhile (cs.contains ·) with _ | ⟨a, r⟩
      · rfl
      · have h3 := head_dropWhile hd
        have h4 := h1 a (by rw [hd]; simp)
        rw [h3] at h4; cases h4
    intro x hx
    exact dropWhile_nil h2 x (List.mem_reverse.2 hx)
  · intro h
    rw [nil_dropWhile (l := l.reverse) (fun x hx => h x (List.mem_reverse.1 hx))]
    rfl
theorem trim_name (l : List UInt8) : Lib.trimS l lettersDigitsL = [] ↔ l.all (fun c => lowB c || digB c) = true := by
  rw [trim_nil, List.all_eq_true]
  constructor
  · intro h x hx; rw [← set_low]; exact h x hx
  · intro h x hx; rw [set_low]; exact h x hx

/-! ### index.Name -/
def lettersS : ByteArray := ⟨#[97, 98, 99, 100, 101, 102, 103, 104, 105, 106, 107, 108, 109, 110, 111, 112, 113, 114, 115, 116, 117, 118, 119, 120, 121, 122]⟩
def lettersDigitsS : ByteArray := ⟨#[97, 98, 99, 100, 101, 102, 103, 104, 105, 106, 107, 108, 109, 110, 111, 112, 113, 114, 115, 116, 117, 118, 119, 120, 121, 122, 48, 49, 50, 51, 52, 53, 54, 55, 56, 57]⟩
theorem idx_any (c : UInt8) (w : World) : Calls Tryd.prog 141 #[.string lettersS, .int .u8 (c.toNat : Int)] w fun e w' => ∃ j : Int, e = .returned (.int .i64 j) ∧ w' = w ∧ ((0 ≤ j) ↔ lowB c = true) := by
  have h := Any.strings_IndexByte Tryd.lays137 lettersS (c.toNat : Int) w
  refine Calls.mono (f := 141) h ?_
  rintro e w' ⟨rfl, rfl⟩
  refine ⟨_, rfl, rfl, ?_⟩
  have : ((c.toNat : Int)).toNat.toUInt8 = c := by simp
  rw [this]
  exact idx_low c
theorem trim_any (s : ByteArray) (hs : s.size ≤ 1000000) (w : World) : Calls Tryd.prog 142 #[.string s, .string lettersDigitsS] w fun e w' => ∃ r : ByteArray, e = .returned (.string r) ∧ Below w.heap.size w w' ∧ (r.toList = [] ↔ s.data.toList.all (fun c => lowB c || digB c) = true) := by
  have h := Any.strings_Trim_laid Tryd.lays160 (by kernel_rfl) s lettersDigitsS w (by omega) (by decide) (ascii_of_all (by decide))
  refine Calls.mono (f := 142) h ?_
  rintro e w' ⟨rfl, hb⟩
  refine ⟨_, rfl, hb, ?_⟩
  rw [← trim_name]
  rw [ByteArray.toList_mk]
  exact Iff.rfl
theorem size0 {s : ByteArray} (h : s.size = 0) : s = ⟨#[]⟩ := by
  apply ByteArray.ext
  exact Array.eq_empty_of_size_eq_zero h
set_option maxHeartbeats 1000000 in
theorem name_any (s : ByteArray) (w : World) (hs : s.size ≤ 1000000) : Calls Tryd.prog 89 #[.string s] w fun e w' => e = .returned (.bool (nameOk s)) ∧ Below w.heap.size w w' := by
  by_cases h0 : s.size = 0
  · obtain rfl := size0 h0
    go_enter Tryd.func89, Tryd.ntmps89
    go_wp2_with fail
    go_ret
    exact ⟨rfl, Below.refl _ _⟩
  · obtain ⟨c, l, hcl⟩ : ∃ c l, s.data.toList = c :: l := by
      rcases hd : s.data.toList with _ | ⟨c, l⟩
      · exfalso; apply h0; have : s.data.toList.length = s.size := by simp
        rw [hd] at this; exact this.symm
      · exact ⟨c, l, rfl⟩
    have hne3 : s.toList.isEmpty = false := by rw [ByteArray.toList_eq, hcl]; rfl
    have hne : ¬ s.toList = [] := by rw [ByteArray.toList_eq, hcl]; simp
    have e4 : 0 < s.size := by omega
    have hlen : s.size = l.length + 1 := by have : s.data.toList.length = s.size := by simp
                                            rw [hcl] at this; simpa using this.symm
    have hsk : s[0]'e4 = c := by
      have : s.data.toList[0]? = some c := by rw [hcl]; rfl
      have := (List.getElem?_eq_some_iff.1 this).2
      rw [← this]; rfl
    have hok : nameOk s = (lowB c && l.all (fun c => lowB c || digB c) && decide (l.length + 1 ≤ 12)) := by unfold nameOk; rw [hcl]; rfl
    by_cases h12 : s.size ≤ 12
    rotate_left
    · have e1 : ¬ (s.size : Int) ≤ 12 := by omega
      have e2 : nameOk s = false := by rw [hok, decide_eq_false (by omega), Bool.and_false]
      clear hok hcl hlen
      go_enter Tryd.func89, Tryd.ntmps89
      go_wp2_with fail
      go_ret
      exact ⟨by simp, Below.refl _ _⟩
    have e1 : (s.size : Int) ≤ 12 := by omega
    have e3 : (0 : Int) < s.size := by omega
    have HI := Lib.hid (idx_any c w)
    by_cases hlo : lowB c = true
    rotate_left
    · have e2 : Hid (nameOk s = false) := by unfold Hid; rw [hok]; simp [hlo]
      have Hlo := Lib.hid hlo
      clear hok hcl hlen hlo
      go_enter Tryd.func89, Tryd.ntmps89
      go_wp2_with (go_at_call 141; refine HI.out.mono ?_; rintro e w1 ⟨j, rfl, rfl, hj⟩; have hj1 : ¬ (0 : Int) ≤ j := (fun h => Hlo.out (hj.1 h)); clear hj)
      go_ret
      exact ⟨by simp [e2.out], Below.refl _ _⟩
    · have HT := Lib.hid (trim_any s hs w)
      have Hlo := Lib.hid hlo
      have hok2 : nameOk s = s.data.toList.all (fun c => lowB c || digB c) := by
        rw [hok, hcl, List.all_cons, hlo, decide_eq_true (by omega)]; simp
      have Hok := Lib.hid hok2
      clear hok hcl hlen hlo hok2
      go_enter Tryd.func89, Tryd.ntmps89
      go_wp2_with (first
        | (go_at_call 141; refine HI.out.mono ?_; rintro e w1 ⟨j, rfl, rfl, hj⟩; have hj1 : (0 : Int) ≤ j := hj.2 Hlo.out; clear hj)
        | (go_at_call 142; refine HT.out.mono ?_; rintro e w2 ⟨r, rfl, hB, hr⟩; have Hr := Lib.hid hr; clear hr))
      go_ret
      refine ⟨?_, hB⟩
      rw [Hok.out]
      by_cases hr : r.toList = []
      · rw [Hr.out.1 hr]; simp [hr]
      · have h1 : s.data.toList.all (fun c => lowB c || digB c) = false := by
          rw [Bool.eq_false_iff]; exact fun h => hr (Hr.out.2 h)
        rw [h1]
        simp [hr]

/-! ### index.Of -/
def ofS (name : ByteArray) : ByteArray := if nameOk name then markS 105 [name] else ⟨#[]⟩
def ofK (name : ByteArray) : Int := if nameOk name then 0 else 5
/-- the error of an Errno: none for OK -/
def errV (k : Int) : Value := if k = 0 then .nilIface else .iface 31 (.int .i64 k)
theorem errV_0 : errV 0 = .nilIface := rfl
theorem errV_is (k : Int) : ErrV (errV k) k := by
  unfold errV
  split
  · exact .inl ⟨rfl, by assumption⟩
  · exact .inr rfl
/-- a text and an error -/
def StrPost (s : ByteArray) (k : Int) (w : World) (e : Ending) (w' : World) : Prop := e = .returned (.tuple #[.string s, errV k]) ∧ Below w.heap.size w w'
theorem mark1_small (c : UInt8) (p : ByteArray) (hp : p.size ≤ 1000000) : (markL c [p]).length ≤ 1000000000 := by
  have h5 : p.data.toList.length = p.size := by simp
  unfold markL
  simp only [List.flatMap_cons, List.flatMap_nil, List.length_cons, List.length_append, List.length_nil, numL_length]
  omega
theorem mark1 (c : UInt8) (n : Int) (hn : n = (c.toNat : Int)) (p : ByteArray) (w : World) (hp : p.size ≤ 1000000) (hk : KAt w 0) :
    Calls Tryd.prog 21 #[.int .u8 n, .slice (some ⟨w.heap.size, 0, none⟩) 1 1] (w.alloc (.cells #[.string p] 9)) fun e w' => e = .returned (.string (markS c [p])) ∧ Below w.heap.size w w' := by
  subst hn
  have hb : Below w.heap.size w (w.alloc (.cells #[.string p] 9)) := (Below.refl _ _).alloc (Nat.le_refl _) _
  refine (mark_any c _ [p] _ (Reads.lit w 9 1 1 [.string p] rfl) (mark1_small c p hp) (hk.mono hb)).mono ?_
  rintro e w' ⟨rfl, h⟩
  exact ⟨rfl, hb.trans (h.mono hb.size)⟩
theorem of_any (name : ByteArray) (w : World) (hs : name.size ≤ 1000000) (hk : KAt w 0) : Calls Tryd.prog 47 #[.string name] w (StrPost (ofS name) (ofK name) w) := by
  have HN := Lib.hid (name_any name w hs)
  have Hk := Lib.hid hk
  clear hk
  unfold StrPost ofS ofK
  cases hok : nameOk name with
  | false =>
    rw [hok] at HN
    go_enter Tryd.func47, Tryd.ntmps47
    go_wp2_with (go_at_call 89; refine HN.out.mono ?_; rintro e w1 ⟨rfl, hB⟩)
    go_ret2
    exact ⟨rfl, hB⟩
  | true =>
    rw [hok] at HN
    go_enter Tryd.func47, Tryd.ntmps47
    go_wp2_with (first
      | (go_at_call 89; refine HN.out.mono ?_; rintro e w1 ⟨rfl, hB⟩)
      | (go_at_call 21; refine (mark1 105 _ rfl name _ hs (Hk.out.mono hB)).mono ?_; rintro e w2 ⟨rfl, hB2⟩))
    go_ret2
    exact ⟨rfl, hB.trans (hB2.mono hB.size)⟩
end Go.Proofs.YtfhjnfocmlndpaaDoor
