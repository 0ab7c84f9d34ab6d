/- seal.Verify and the reference's SealVerify, at any seal. -/
import Derived.Test.YtfhjnfocmlndpaaDoorSjSealV
import Derived.Test.YtfhjnfocmlndpaaDoorSjSealW
namespace Go.Proofs.YtfhjnfocmlndpaaDoor
open Go Go.RowKit Go.Proofs

theorem key_cases {k : Int} (h0 : 0 ≤ k) (h7 : k ≤ 7) : k = 0 ∨ k = 1 ∨ k = 2 ∨ k = 3 ∨ k = 4 ∨ k = 5 ∨ k = 6 ∨ k = 7 := by omega
theorem three_of {l : List ByteArray} (h : l.length = 3) : ∃ x y z, l = [x, y, z] := by
  match l, h with
  | [x, y, z], _ => exact ⟨x, y, z, rfl⟩
theorem verB_false {pub mark : ByteArray} {key : Int} {sig path : List ByteArray} (h : ¬ verP pub mark key sig path) : verB pub mark key sig path = false := by unfold verB; exact @decide_eq_false _ (Classical.propDecidable _) h
theorem verB_of {pub mark : ByteArray} {key : Int} {sig path : List ByteArray} {c : Bool} (hc : c = true ↔ verP pub mark key sig path) : c = verB pub mark key sig path := by
  have h : verB pub mark key sig path = true ↔ verP pub mark key sig path := by unfold verB; exact @decide_eq_true_iff _ (Classical.propDecidable _)
  cases c <;> cases hv : verB pub mark key sig path <;> simp_all
set_option maxRecDepth 20000 in
set_option maxHeartbeats 4000000 in
theorem pver_any (pub mark : ByteArray) (key : Int) (sv pv : Value) (sig path : List ByteArray) (w : World) (hs : Reads w sv sig.length 1 (sig.map Value.string)) (hp : Reads w pv path.length 1 (path.map Value.string)) (hsl : sig.length ≤ 1000000) (hpl : path.length ≤ 1000000) (hk : KAt w 0) :
    Calls Tryd.prog 58 #[.string pub, .string mark, .agg #[.int .i64 key, sv, pv]] w fun e w' => e = .returned (.bool (verB pub mark key sig path)) ∧ Below w.heap.size w w' := by
  have hb : Below w.heap.size w (w.alloc (.cells #[.int .i64 key, sv, pv] 65)) := (Below.refl _ _).alloc (Nat.le_refl _) _
  have hP : Row3 (w.alloc (.cells #[.int .i64 key, sv, pv] 65)) w.heap.size (.int .i64 key) sv pv := Row3.of_row (T := 65) (heap_alloc_new _ _)
  have hPk := hP
  obtain ⟨p0, p1, p2, -, -, -⟩ := hPk
  obtain ⟨sa, sc, rfl, -⟩ := hs.shape
  obtain ⟨pa, pc, rfl, -⟩ := hp.shape
  by_cases hk0 : 0 ≤ key
  rotate_left
  · rw [verB_false (fun h => hk0 h.1)]
    have e1 : key < 0 := by omega
    clear hs hp hk hk0 hsl hpl
    generalize sig.length = ns at *
    generalize path.length = np at *
    go_enter Tryd.func58, Tryd.ntmps58
    go_wp2_with fail
    go_ret
    exact ⟨rfl, hb⟩
  by_cases hk7 : key ≤ 7
  rotate_left
  · rw [verB_false (fun h => hk7 h.2.1)]
    have e1 : ¬ key < 0 := by omega
    have e2 : (8 : Int) ≤ key := by omega
    clear hs hp hk hk0 hsl hpl
    generalize sig.length = ns at *
    generalize path.length = np at *
    go_enter Tryd.func58, Tryd.ntmps58
    go_wp2_with fail
    go_ret
    exact ⟨rfl, hb⟩
  have e1 : ¬ key < 0 := by omega
  have e2 : ¬ (8 : Int) ≤ key := by omega
  by_cases h3 : path.length = 3
  rotate_left
  · rw [verB_false (fun h => h3 h.2.2.1)]
    have e3 : ((path.length : Int) == 3) = false := by rw [beq_eq_false_iff_ne]; omega
    have e4 : ((path.length : Int) != 3) = true := by rw [bne_iff_ne]; omega
    clear hs hp hk h3 hsl hpl
    generalize sig.length = ns at *
    generalize path.length = np at *
    go_enter Tryd.func58, Tryd.ntmps58
    go_wp2_with fail
    go_ret
    exact ⟨rfl, hb⟩
  obtain ⟨x, y, z, rfl⟩ := three_of h3
  obtain ⟨pb, po, pc2, hpe, HC⟩ := Reads.three hp
  simp only [Value.slice.injEq] at hpe
  obtain ⟨rfl, -, rfl⟩ := hpe
  by_cases h16 : ∀ p ∈ [x, y, z], p.size = 16
  rotate_left
  · rw [verB_false (fun h => h16 h.2.2.2.1)]
    have HH : Hid (Calls Tryd.prog 106 #[.slice (some ⟨pb, po, none⟩) 3 pc, .func (Fn.func 131) #[] #[]] (w.alloc (.cells #[.int .i64 key, .slice sa sig.length sc, .slice (some ⟨pb, po, none⟩) 3 pc] 65)) fun e w' => e = .returned (.bool true) ∧ w' = w.alloc (.cells #[.int .i64 key, .slice sa sig.length sc, .slice (some ⟨pb, po, none⟩) 3 pc] 65)) := by
      refine (has_anyS _ [x, y, z] _ (hp.mono hb) (by simp)).mono ?_
      rintro e w' ⟨c, rfl, hw, hc, _⟩
      refine ⟨?_, hw⟩
      cases c with
      | true => rfl
      | false => exact absurd (hc rfl) h16
    clear hs hp hk h3 hsl hpl h16 HC
    generalize sig.length = ns at *
    have e3 : [x, y, z].length = 3 := rfl
    rw [e3] at hb p0 p1 p2 ⊢
    go_enter Tryd.func58, Tryd.ntmps58
    go_wp2_with (first
    | (go_at_call 106; refine HH.out.mono ?_; rintro e w1 ⟨rfl, hw⟩; have hw2 := hw.symm; subst hw2))
    go_ret
    exact ⟨rfl, hb⟩
  have HH : Hid (∀ W, Below w.heap.size w W → Calls Tryd.prog 106 #[.slice (some ⟨pb, po, none⟩) 3 pc, .func (Fn.func 131) #[] #[]] W fun e w' => e = .returned (.bool false) ∧ w' = W) := fun W hW => by
    refine (has_anyS _ [x, y, z] _ (hp.mono hW) (by simp)).mono ?_
    rintro e w' ⟨c, rfl, hw, _, hc⟩
    refine ⟨?_, hw⟩
    cases c with
    | false => rfl
    | true => obtain ⟨p, hp1, hp2⟩ := hc rfl; exact absurd (h16 p hp1) hp2
  by_cases hsg : sigOk mark sig
  rotate_left
  · rw [verB_false (fun h => hsg h.2.2.2.2.1)]
    have HF : Hid (∀ W, Below w.heap.size w W → Calls Tryd.prog 31 #[.string mark, .slice sa sig.length sc] W fun e w' => e = .returned (.tuple #[.string ⟨#[]⟩, .iface 31 (.int .i64 1)]) ∧ Below W.heap.size W w') := fun W hW => by
      refine (from_no mark _ sig W hsg hsl (hs.mono hW)).mono ?_
      rintro e w' ⟨rfl, rfl⟩
      exact ⟨rfl, Below.refl _ _⟩
    clear hs hp hk h3 hsl hpl h16 HC hsg
    generalize sig.length = ns at *
    have e3 : [x, y, z].length = 3 := rfl
    rw [e3] at hb p0 p1 p2 ⊢
    go_enter Tryd.func58, Tryd.ntmps58
    go_wp2_with (first
    | (go_at_call 106; refine (HH.out _ hb).mono ?_; rintro e w1 ⟨rfl, hw⟩; have hw2 := hw.symm; subst hw2)
    | (go_at_call 31; refine (HF.out _ hb).mono ?_; rintro e w1 ⟨rfl, hB1⟩; have C1 := hb.trans (hB1.mono hb.size)))
    go_ret
    exact ⟨rfl, C1⟩
  have HF : Hid (∀ W, Below w.heap.size w W → Calls Tryd.prog 31 #[.string mark, .slice sa sig.length sc] W fun e w' => e = .returned (.tuple #[.string (fromS mark sig), .nilIface]) ∧ Below W.heap.size W w') := fun W hW => by
    exact from_ok mark _ sig W hsg.1 hsg.2.1 hsg.2.2 (hs.mono hW) (hk.mono hW)
  have hx : x.size = 16 := h16 x (by simp)
  have hy : y.size = 16 := h16 y (by simp)
  have hz : z.size = 16 := h16 z (by simp)
  have hF := fromS_size mark sig
  have fin : ∀ (c : Nat), key = c → Calls Tryd.prog 58 #[.string pub, .string mark, .agg #[.int .i64 key, .slice sa sig.length sc, .slice (some ⟨pb, po, none⟩) 3 pc]] w (VerPost (sealTop c (fromS mark sig) [x, y, z]) pub w) → Calls Tryd.prog 58 #[.string pub, .string mark, .agg #[.int .i64 key, .slice sa sig.length sc, .slice (some ⟨pb, po, none⟩) 3 pc]] w fun e w' => e = .returned (.bool (verB pub mark key sig [x, y, z])) ∧ Below w.heap.size w w' := fun c hc h => by
    refine h.mono ?_
    rintro e w' ⟨b, rfl, hb1, hb2⟩
    refine ⟨?_, hb2⟩
    rw [verB_of (c := b) (pub := pub) (mark := mark) (key := key) (sig := sig) (path := [x, y, z]) ?_]
    rw [hb1]
    have hct : key.toNat = c := by omega
    unfold verP
    rw [hct]
    exact ⟨fun h => ⟨hk0, hk7, rfl, h16, hsg, h⟩, fun h => h.2.2.2.2.2⟩
  rcases key_cases hk0 hk7 with rfl | rfl | rfl | rfl | rfl | rfl | rfl | rfl
  · exact fin 0 rfl (psv_0 pub mark (fromS mark sig) x y z sa sig.length sc pb po pc w hF hx hy hz hk HC HH HF)
  · exact fin 1 rfl (psv_1 pub mark (fromS mark sig) x y z sa sig.length sc pb po pc w hF hx hy hz hk HC HH HF)
  · exact fin 2 rfl (psv_2 pub mark (fromS mark sig) x y z sa sig.length sc pb po pc w hF hx hy hz hk HC HH HF)
  · exact fin 3 rfl (psv_3 pub mark (fromS mark sig) x y z sa sig.length sc pb po pc w hF hx hy hz hk HC HH HF)
  · exact fin 4 rfl (psv_4 pub mark (fromS mark sig) x y z sa sig.length sc pb po pc w hF hx hy hz hk HC HH HF)
  · exact fin 5 rfl (psv_5 pub mark (fromS mark sig) x y z sa sig.length sc pb po pc w hF hx hy hz hk HC HH HF)
  · exact fin 6 rfl (psv_6 pub mark (fromS mark sig) x y z sa sig.length sc pb po pc w hF hx hy hz hk HC HH HF)
  · exact fin 7 rfl (psv_7 pub mark (fromS mark sig) x y z sa sig.length sc pb po pc w hF hx hy hz hk HC HH HF)
set_option maxRecDepth 20000 in
set_option maxHeartbeats 4000000 in
theorem rver_any (r : Nat) (pub mark : ByteArray) (key : Int) (sv pv : Value) (sig path : List ByteArray) (w : World) (hs : Reads w sv sig.length 1 (sig.map Value.string)) (hp : Reads w pv path.length 1 (path.map Value.string)) (hsl : sig.length ≤ 1000000) (hpl : path.length ≤ 1000000) (hk : RAt w r) :
    Calls Tryd.prog 59 #[.pointer (some ⟨r, 0, none⟩), .string pub, .string mark, .agg #[.int .i64 key, sv, pv]] w fun e w' => e = .returned (.bool (verB pub mark key sig path)) ∧ Below w.heap.size w w' := by
  have hb : Below w.heap.size w (w.alloc (.cells #[.int .i64 key, sv, pv] 65)) := (Below.refl _ _).alloc (Nat.le_refl _) _
  have hP : Row3 (w.alloc (.cells #[.int .i64 key, sv, pv] 65)) w.heap.size (.int .i64 key) sv pv := Row3.of_row (T := 65) (heap_alloc_new _ _)
  have hPk := hP
  obtain ⟨p0, p1, p2, -, -, -⟩ := hPk
  obtain ⟨sa, sc, rfl, -⟩ := hs.shape
  obtain ⟨pa, pc, rfl, -⟩ := hp.shape
  by_cases h0 : 0 ≤ key ∧ key ≤ 7
  rotate_left
  · rw [verB_false (fun h => h0 ⟨h.1, h.2.1⟩)]
    have HI := Lib.hid (rin_any key 0 7 (w.alloc (.cells #[.int .i64 key, .slice sa sig.length sc, .slice pa path.length pc] 65)))
    have e1 : (decide ((0 : Int) ≤ key) && decide (key ≤ 7)) = false := by rw [Bool.and_eq_false_iff, decide_eq_false_iff_not, decide_eq_false_iff_not]; omega
    rw [e1] at HI
    clear hs hp hk h0 e1 hsl hpl
    generalize sig.length = ns at *
    generalize path.length = np at *
    go_enter Tryd.func59, Tryd.ntmps59
    go_wp2_with (go_at_call 117; refine HI.out.mono ?_; rintro e w1 ⟨rfl, hw⟩; have hw2 := hw.symm; subst hw2)
    go_ret
    exact ⟨rfl, hb⟩
  have HI : Hid (∀ W, Calls Tryd.prog 117 #[.int .i64 key, .int .i64 0, .int .i64 7] W fun e w' => e = .returned (.bool true) ∧ w' = W) := fun W => by
    have h := rin_any key 0 7 W
    have e1 : decide ((0 : Int) ≤ key) = true := decide_eq_true h0.1
    have e2 : decide (key ≤ 7) = true := decide_eq_true h0.2
    rw [e1, e2] at h
    exact h
  have hk0 := h0.1
  have hk7 := h0.2
  by_cases h3 : path.length = 3
  rotate_left
  · rw [verB_false (fun h => h3 h.2.2.1)]
    have e3 : ((path.length : Int) == 3) = false := by rw [beq_eq_false_iff_ne]; omega
    have e4 : ((path.length : Int) != 3) = true := by rw [bne_iff_ne]; omega
    clear hs hp hk h3 hsl hpl
    generalize sig.length = ns at *
    generalize path.length = np at *
    go_enter Tryd.func59, Tryd.ntmps59
    go_wp2_with (first
    | (go_at_call 117; refine (HI.out _).mono ?_; rintro e w1 ⟨rfl, hw⟩; have hw2 := hw.symm; subst hw2))
    go_ret
    exact ⟨rfl, hb⟩
  obtain ⟨x, y, z, rfl⟩ := three_of h3
  obtain ⟨pb, po, pc2, hpe, HC⟩ := Reads.three hp
  simp only [Value.slice.injEq] at hpe
  obtain ⟨rfl, -, rfl⟩ := hpe
  by_cases h16 : ∀ p ∈ [x, y, z], p.size = 16
  rotate_left
  · rw [verB_false (fun h => h16 h.2.2.2.1)]
    have HH : Hid (Calls Tryd.prog 105 #[.slice (some ⟨pb, po, none⟩) 3 pc] (w.alloc (.cells #[.int .i64 key, .slice sa sig.length sc, .slice (some ⟨pb, po, none⟩) 3 pc] 65)) fun e w' => e = .returned (.bool false) ∧ w' = w.alloc (.cells #[.int .i64 key, .slice sa sig.length sc, .slice (some ⟨pb, po, none⟩) 3 pc] 65)) := by
      refine (rmarks_any _ [x, y, z] _ (hp.mono hb) (by simp)).mono ?_
      rintro e w' ⟨c, rfl, hw, hc, _⟩
      refine ⟨?_, hw.symm⟩
      cases c with
      | false => rfl
      | true => exact absurd (hc rfl) h16
    clear hs hp hk h3 hsl hpl h16 HC
    generalize sig.length = ns at *
    have e3 : [x, y, z].length = 3 := rfl
    rw [e3] at hb p0 p1 p2 ⊢
    go_enter Tryd.func59, Tryd.ntmps59
    go_wp2_with (first
    | (go_at_call 117; refine (HI.out _).mono ?_; rintro e w1 ⟨rfl, hw⟩; have hw2 := hw.symm; subst hw2)
    | (go_at_call 105; refine HH.out.mono ?_; rintro e w1 ⟨rfl, hw⟩; have hw2 := hw.symm; subst hw2))
    go_ret
    exact ⟨rfl, hb⟩
  have HH : Hid (∀ W, Below w.heap.size w W → Calls Tryd.prog 105 #[.slice (some ⟨pb, po, none⟩) 3 pc] W fun e w' => e = .returned (.bool true) ∧ w' = W) := fun W hW => by
    refine (rmarks_any _ [x, y, z] _ (hp.mono hW) (by simp)).mono ?_
    rintro e w' ⟨c, rfl, hw, _, hc⟩
    refine ⟨?_, hw.symm⟩
    cases c with
    | true => rfl
    | false => obtain ⟨p, hp1, hp2⟩ := hc rfl; exact absurd (h16 p hp1) hp2
  by_cases hsg : sigOk mark sig
  rotate_left
  · rw [verB_false (fun h => hsg h.2.2.2.2.1)]
    have HF : Hid (∀ W, Below w.heap.size w W → Calls Tryd.prog 30 #[.pointer (some ⟨r, 0, none⟩), .string mark, .slice sa sig.length sc] W fun e w' => e = .returned (.tuple #[.string ⟨#[]⟩, .int .i64 1]) ∧ Below W.heap.size W w') := fun W hW => by
      have h := rfrom_both r mark _ sig W hsl (hs.mono hW) (hk.mono hW)
      unfold fromO fromK at h
      rw [if_neg hsg, if_neg hsg] at h
      exact h
    clear hs hp hk h3 hsl hpl h16 HC hsg
    generalize sig.length = ns at *
    have e3 : [x, y, z].length = 3 := rfl
    rw [e3] at hb p0 p1 p2 ⊢
    go_enter Tryd.func59, Tryd.ntmps59
    go_wp2_with (first
    | (go_at_call 117; refine (HI.out _).mono ?_; rintro e w1 ⟨rfl, hw⟩; have hw2 := hw.symm; subst hw2)
    | (go_at_call 105; refine (HH.out _ hb).mono ?_; rintro e w1 ⟨rfl, hw⟩; have hw2 := hw.symm; subst hw2)
    | (go_at_call 30; refine (HF.out _ hb).mono ?_; rintro e w1 ⟨rfl, hB1⟩; have C1 := hb.trans (hB1.mono hb.size)))
    go_ret
    exact ⟨rfl, C1⟩
  have HF : Hid (∀ W, Below w.heap.size w W → Calls Tryd.prog 30 #[.pointer (some ⟨r, 0, none⟩), .string mark, .slice sa sig.length sc] W fun e w' => e = .returned (.tuple #[.string (fromS mark sig), .int .i64 0]) ∧ Below W.heap.size W w') := fun W hW => by
    have h := rfrom_both r mark _ sig W hsl (hs.mono hW) (hk.mono hW)
    unfold fromO fromK at h
    rw [if_pos hsg, if_pos hsg] at h
    exact h
  have hx : x.size = 16 := h16 x (by simp)
  have hy : y.size = 16 := h16 y (by simp)
  have hz : z.size = 16 := h16 z (by simp)
  have hF := fromS_size mark sig
  have fin : ∀ (c : Nat), key = c → Calls Tryd.prog 59 #[.pointer (some ⟨r, 0, none⟩), .string pub, .string mark, .agg #[.int .i64 key, .slice sa sig.length sc, .slice (some ⟨pb, po, none⟩) 3 pc]] w (VerPost (sealTop c (fromS mark sig) [x, y, z]) pub w) → Calls Tryd.prog 59 #[.pointer (some ⟨r, 0, none⟩), .string pub, .string mark, .agg #[.int .i64 key, .slice sa sig.length sc, .slice (some ⟨pb, po, none⟩) 3 pc]] w fun e w' => e = .returned (.bool (verB pub mark key sig [x, y, z])) ∧ Below w.heap.size w w' := fun c hc h => by
    refine h.mono ?_
    rintro e w' ⟨b, rfl, hb1, hb2⟩
    refine ⟨?_, hb2⟩
    rw [verB_of (c := b) (pub := pub) (mark := mark) (key := key) (sig := sig) (path := [x, y, z]) ?_]
    rw [hb1]
    have hct : key.toNat = c := by omega
    unfold verP
    rw [hct]
    exact ⟨fun h => ⟨hk0, hk7, rfl, h16, hsg, h⟩, fun h => h.2.2.2.2.2⟩
  rcases key_cases hk0 hk7 with rfl | rfl | rfl | rfl | rfl | rfl | rfl | rfl
  · exact fin 0 rfl (rsv_0 r pub mark (fromS mark sig) x y z sa sig.length sc pb po pc w hF hx hy hz hk HC HI HH HF)
  · exact fin 1 rfl (rsv_1 r pub mark (fromS mark sig) x y z sa sig.length sc pb po pc w hF hx hy hz hk HC HI HH HF)
  · exact fin 2 rfl (rsv_2 r pub mark (fromS mark sig) x y z sa sig.length sc pb po pc w hF hx hy hz hk HC HI HH HF)
  · exact fin 3 rfl (rsv_3 r pub mark (fromS mark sig) x y z sa sig.length sc pb po pc w hF hx hy hz hk HC HI HH HF)
  · exact fin 4 rfl (rsv_4 r pub mark (fromS mark sig) x y z sa sig.length sc pb po pc w hF hx hy hz hk HC HI HH HF)
  · exact fin 5 rfl (rsv_5 r pub mark (fromS mark sig) x y z sa sig.length sc pb po pc w hF hx hy hz hk HC HI HH HF)
  · exact fin 6 rfl (rsv_6 r pub mark (fromS mark sig) x y z sa sig.length sc pb po pc w hF hx hy hz hk HC HI HH HF)
  · exact fin 7 rfl (rsv_7 r pub mark (fromS mark sig) x y z sa sig.length sc pb po pc w hF hx hy hz hk HC HI HH HF)
end Go.Proofs.YtfhjnfocmlndpaaDoor
