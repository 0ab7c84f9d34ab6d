/- The program's sum.Num and sum.Mark: what they compute is numS and markS. -/
import Derived.Test.YtfhjnfocmlndpaaDoorSjSum
namespace Go.Proofs.YtfhjnfocmlndpaaDoor
open Go Go.RowKit Go.Proofs

/-- the slice v, of n elements of size cells each, reads as the cells xs (whoever owns them) -/
def Reads (w : World) (v : Value) (n size : Nat) (xs : List Value) : Prop :=
  xs.length = n * size ∧ ((xs = [] ∧ ∃ a c, v = .slice a n c) ∨
    ∃ b off cap, v = .slice (some ⟨b, off, none⟩) n cap ∧ ∀ j u, xs[j]? = some u → w.cell? ⟨b, off + j, none⟩ = some u)
theorem cell_lt {w : World} {a : Addr} {u : Value} (h : w.cell? a = some u) : a.block < w.heap.size := World.block_lt_of_cell? w a h
theorem Reads.below {w w' : World} {v : Value} {n size : Nat} {xs : List Value} (h : Reads w v n size xs) {B : Nat} (hb : Below B w w') (hB : B = w.heap.size) : Reads w' v n size xs := by
  refine ⟨h.1, h.2.imp id ?_⟩
  rintro ⟨b, off, cap, rfl, hc⟩
  refine ⟨b, off, cap, rfl, fun j u hu => ?_⟩
  have := hc j u hu
  rw [hb.cell (by show b < B; rw [hB]; exact cell_lt this)]
  exact this
theorem Reads.mono {w w' : World} {v : Value} {n size : Nat} {xs : List Value} (h : Reads w v n size xs) (hb : Below w.heap.size w w') : Reads w' v n size xs := h.below hb rfl
theorem Reads.drewN {w : World} {v : Value} {n size : Nat} {xs : List Value} (h : Reads w v n size xs) (k : Nat) : Reads (w.drewN k) v n size xs := h
theorem Reads.of_own {w : World} {base : Nat} {e : TypeId} {size : Nat} {v : Value} {n : Nat} {xs : List Value} (h : Own w base e size v n xs) : Reads w v n size xs := by
  refine ⟨h.1, ?_⟩
  rcases h.shape with ⟨rfl, rfl, rfl⟩ | ⟨g, cap, rfl, ho, _⟩
  · exact .inl ⟨rfl, none, 0, rfl⟩
  · exact .inr ⟨g, 0, cap, rfl, fun j u hu => by rw [Nat.zero_add]; exact h.cell ho hu⟩
/-- of a literal that was just laid -/
theorem Reads.lit (w : World) (e : TypeId) (n size : Nat) (xs : List Value) (h : xs.length = n * size) : Reads (w.alloc (.cells xs.toArray e)) (.slice (some ⟨w.heap.size, 0, none⟩) n n) n size xs := by
  refine ⟨h, .inr ⟨w.heap.size, 0, n, rfl, fun j u hu => ?_⟩⟩
  rw [Nat.zero_add, cell_of_row _ _ _ _ _ _ (heap_alloc_new w _)]
  simpa using hu

theorem bytes_app (a b : List UInt8) : (⟨a.toArray⟩ : ByteArray) ++ (⟨b.toArray⟩ : ByteArray) = ⟨(a ++ b).toArray⟩ := by
  apply ByteArray.ext
  rw [ByteArray.data_append]
  simp
theorem bytes_self (p : ByteArray) : (⟨p.data.toList.toArray⟩ : ByteArray) = p := by
  apply ByteArray.ext
  simp

set_option maxHeartbeats 1000000 in
theorem num_any (n : Int) (w : World) (_h0 : -9223372036854775808 ≤ n) (_h1 : n ≤ 9223372036854775807) :
    Calls Tryd.prog 19 #[.int .i64 n] w fun e w' => e = .returned (.string (numS n)) ∧ Below w.heap.size w w' := by
  obtain ⟨N, hN⟩ : ∃ N : Nat, IntKind.u64.wrap n = (N : Int) := ⟨(n % 18446744073709551616).toNat, by rw [IntKind.wrap_u64]; omega⟩
  have hNe : Hid (numL n = be64 N) := by
    unfold Hid numL
    congr 1
    rw [IntKind.wrap_u64] at hN
    omega
  clear _h0 _h1
  go_enter Tryd.func19, Tryd.ntmps19
  go_wp2_with fail
  go_loopw [3, 4] (fun v i wr => ∃ k : Nat, k ≤ 8 ∧ i = .int .i64 (7 - (k : Int)) ∧ Own wr w.heap.size 5 1 v k (u8c ((be64 N).take k)) ∧ Below w.heap.size w wr) (fun _ i _ => (intOf i + 1).toNat)
  case atStart => exact ⟨0, by omega, rfl, Own.nil _ _ _ _, Below.refl _ _⟩
  case round =>
    obtain ⟨k, hk, rfl, hP, hB⟩ := hrel
    have HP := Lib.hid hP
    have HB := Lib.hid hB
    have hbw := hB.size
    clear hP hB
    by_cases hlt : k < 8
    · obtain ⟨d, hd⟩ : ∃ d : Nat, (7 : Int) - k = d := ⟨7 - k, by omega⟩
      rw [hd]
      have hd7 : d < 8 := by omega
      have a1 : IntKind.i64.wrap (8 * (d : Int)) = 8 * d := IntWalk.i64_in _ (by omega)
      have a2 : (0 : Int) ≤ 8 * d := by omega
      have a3 : (8 * (d : Int)).toNat = 8 * d := by omega
      have HD := Lib.hid hd
      clear hd
      go_wp2_with (first | (at_builtin; refine app_lit rfl _ _ 145 rfl w.heap.size 5 (.int .u8 0) 1 1 u_bytes i_u8 rfl (by decide) _ _ _ rfl HP.out 1 _ rfl rfl (by intro u hu; simp at hu; subst hu; rfl) (by omega) (by omega) hbw ?_; intro v1 w1 hown1 hgrow1))
      rw [be_byte] at hown1
      have hdk : d = 7 - k := by have := HD.out; omega
      have hrow : ∀ j, u3.ownBlock = some j → w.heap.size ≤ j := fun j hj => (HP.out.lt j hj).1
      have hk2 : k < (be64 N).length := by rw [be64_length]; exact hlt
      go_roundw
      case rel =>
        refine ⟨k + 1, by omega, by have := HD.out; congr 1; omega, ?_, HB.out.grown hgrow1 hbw hrow⟩
        rw [List.take_succ_eq_append_getElem hk2, u8c, List.map_append]
        rw [hdk] at hown1
        simpa [be64, u8c, u8v] using hown1
      case measure => simp [intOf] <;> omega
    · have hneg : (7 : Int) - k < 0 := by omega
      have hd1 : decide ((k : Int) ≤ 7) = false := decide_eq_false (by omega)
      have hk8 : k = 8 := by omega
      have hP8 : Bytes8 wr w.heap.size u3 (be64 N) := by
        have := HP.out
        rw [hk8, List.take_of_length_le (by rw [be64_length]; exact Nat.le_refl _)] at this
        unfold Bytes8
        rw [be64_length]; exact this
      have hcv := string_of_bytes (P := Tryd.prog) 145 5 u_bytes u_u8 hP8 9 u_str
      clear hk8 hP8
      go_wp2_with fail
      go_ret
      refine ⟨?_, HB.out⟩
      show Ending.returned (.string ⟨(be64 N).toArray⟩) = _
      unfold numS
      rw [hNe.out]

/-- 'string([]byte{c})' -/
theorem string_lit1 (W : World) (c : UInt8) : (convert 145 9 (.slice (some ⟨W.heap.size, 0, none⟩) 1 1)).run Tryd.prog (W.alloc (.cells #[.int .u8 (c.toNat : Int)] 5)) =
    .ok (.string ⟨#[c]⟩) (W.alloc (.cells #[.int .u8 (c.toNat : Int)] 5)) := by
  have h : Bytes8 (W.alloc (.cells #[.int .u8 (c.toNat : Int)] 5)) 0 (.slice (some ⟨W.heap.size, 0, none⟩) 1 1) [c] :=
    ⟨rfl, .inr ⟨W.heap.size, 1, #[.int .u8 (c.toNat : Int)], (0, 0), rfl, Nat.zero_le _, heap_alloc_new W _, Nat.le_refl _, by unfold maxLen; omega, rfl, fun i _ hi => by simp at hi, rfl⟩⟩
  exact string_of_bytes (P := Tryd.prog) 145 5 u_bytes u_u8 h 9 u_str
/-- what the marked text is, as far as k parts -/
def markTo (c : UInt8) (l : List ByteArray) (k : Nat) : List UInt8 := markL c (l.take k)
theorem markTo_snoc (c : UInt8) (l : List ByteArray) (k : Nat) (hk : k < l.length) : markTo c l (k + 1) = markTo c l k ++ (numL l[k].size ++ l[k].data.toList) := by
  unfold markTo markL
  rw [List.take_succ_eq_append_getElem hk, List.flatMap_append, List.flatMap_singleton]
  rfl
theorem markL_le (c : UInt8) (l : List ByteArray) (k : Nat) : (markTo c l k).length ≤ (markL c l).length := by
  unfold markTo markL
  simp only [List.length_cons]
  have h : l = l.take k ++ l.drop k := (List.take_append_drop k l).symm
  conv => rhs; rw [h]
  rw [List.flatMap_append, List.length_append]
  omega

theorem markS_is (c : UInt8) (l : List ByteArray) : (sumS ⟨(markL c l).toArray⟩).extract 0 16 = markS c l := by
  apply ByteArray.ext
  rw [ByteArray.data_extract]
  apply Array.ext'
  simp [sumS, markS]

set_option maxRecDepth 100000 in
set_option maxHeartbeats 1000000 in
theorem mark_any (c : UInt8) (v : Value) (l : List ByteArray) (w : World) (hv : Reads w v l.length 1 (l.map Value.string)) (hl : (markL c l).length ≤ 1000000000)
    (hr : KAt w 0) :
    Calls Tryd.prog 21 #[.int .u8 (c.toNat : Int), v] w fun e w' => e = .returned (.string (markS c l)) ∧ Below w.heap.size w w' := by
  obtain ⟨a, cap, rfl⟩ : ∃ a cap, v = .slice a l.length cap := by
    rcases hv.2 with ⟨_, a, c, rfl⟩ | ⟨b, off, cap, rfl, _⟩
    · exact ⟨a, c, rfl⟩
    · exact ⟨_, cap, rfl⟩
  obtain ⟨n, hn⟩ : ∃ n, n = l.length := ⟨_, rfl⟩
  rw [← hn] at hv
  have hnl : n ≤ 1000000000 := by
    have : l.length ≤ (markL c l).length := by
      unfold markL
      have : ∀ l : List ByteArray, l.length ≤ (l.flatMap fun p => numL p.size ++ p.data.toList).length := by
        intro l
        induction l with
        | nil => exact Nat.le_refl _
        | cons x l ih => simp only [List.flatMap_cons, List.length_cons, List.length_append, numL_length]; omega
      simp only [List.length_cons]
      have := this l
      omega
    omega
  have Hv := Lib.hid hv
  have Hr := Lib.hid hr
  have Hl := Lib.hid hl
  have Hn := Lib.hid hn
  clear hv hr hl
  rw [← hn]
  clear hn
  go_enter Tryd.func21, Tryd.ntmps21
  have hc1 := fun W => string_lit1 W c
  go_wp2_with fail
  clear hc1
  go_loopw [5, 13] (fun t i wr => ∃ k : Nat, k ≤ n ∧ i = .int .i64 k ∧ t = .string ⟨(markTo c l k).toArray⟩ ∧ Below w.heap.size w wr) (fun _ i _ => n - (intOf i).toNat)
  case atStart => exact ⟨0, by omega, rfl, rfl, (Below.refl _ _).alloc (Nat.le_refl _) _⟩
  case round =>
    obtain ⟨k, hk, rfl, rfl, hB⟩ := hrel
    by_cases hlt : k < n
    · have hkl : k < l.length := by have := Hn.out; omega
      obtain ⟨p, hp⟩ : ∃ p, l[k]? = some p := ⟨l[k], List.getElem?_eq_getElem hkl⟩
      have hpe : l[k] = p := by rw [List.getElem?_eq_getElem hkl] at hp; exact Option.some.inj hp
      have hR := Hv.out.mono hB
      obtain ⟨b, off, hcell⟩ : ∃ b off, a = some ⟨b, off, none⟩ ∧ wr.cell? ⟨b, off + k, none⟩ = some (.string p) := by
        rcases hR.2 with ⟨h0, _⟩ | ⟨b, off, cap', he, hc⟩
        · have : l = [] := by simpa using h0
          rw [this] at hkl; simp at hkl
        · simp only [Value.slice.injEq] at he
          exact ⟨b, off, he.1, hc k _ (by simp [hp])⟩
      obtain ⟨rfl, hcell⟩ := hcell
      have hsn : Hid (markTo c l (k + 1) = markTo c l k ++ (numL p.size ++ p.data.toList)) := by unfold Hid; rw [markTo_snoc c l k hkl, hpe]
      have hle := Nat.le_trans (markL_le c l (k + 1)) Hl.out
      rw [hsn.out, List.length_append, List.length_append, numL_length] at hle
      have hps : p.size ≤ 1000000000 := by have : p.data.toList.length = p.size := by simp
                                           omega
      have hts : (markTo c l k).length ≤ 1000000000 := by omega
      have hns : (numS (p.size : Int)).size = 8 := numS_size _
      have HB := Lib.hid hB
      clear hB hp hpe hR hle
      go_wp2_with (go_at_call 19; refine (num_any _ _ (by omega) (by omega)).mono ?_; rintro e w1 ⟨rfl, hB1⟩)
      go_roundw
      case rel =>
        refine ⟨k + 1, by omega, by go_num, ?_, HB.out.trans (hB1.mono HB.out.size)⟩
        rw [hsn.out]
        have : (⟨(markTo c l k).toArray⟩ : ByteArray) ++ (numS (p.size : Int) ++ p) = ⟨(markTo c l k ++ (numL p.size ++ p.data.toList)).toArray⟩ := by
          rw [← bytes_app, ← bytes_app, bytes_self]; rfl
        rw [this]
      case measure => simp [intOf]; omega
    · have hge : n ≤ k := by omega
      have hd1 : decide (k < n) = false := decide_eq_false hlt
      have hfin : Hid (markTo c l k = markL c l) := by
        unfold Hid markTo
        rw [List.take_of_length_le (by have := Hn.out; omega)]
      have hms : (markTo c l k).length ≤ 1000000000 := by rw [hfin.out]; exact Hl.out
      obtain ⟨m, hm⟩ : ∃ m, m = markTo c l k := ⟨_, rfl⟩
      rw [← hm]
      have hss := sumS_size ⟨m.toArray⟩
      have hK := Lib.hid (sum_any ⟨m.toArray⟩ (by show m.toArray.size ≤ _; rw [List.size_toArray, hm]; exact hms) wr (Hr.out.below hB Hr.out.lt))
      have Hm := Lib.hid hm
      have HB := Lib.hid hB
      clear hm hms hB hlt
      go_wp2_with (go_at_call 15; refine hK.out.mono ?_; rintro e w1 ⟨rfl, hB1⟩)
      go_ret
      refine ⟨?_, HB.out.trans (hB1.mono HB.out.size)⟩
      show Ending.returned (.string ((sumS ⟨m.toArray⟩).extract 0 16)) = _
      rw [Hm.out, hfin.out, markS_is]
theorem Reads.shape {w : World} {v : Value} {l : List ByteArray} (h : Reads w v l.length 1 (l.map Value.string)) : ∃ a cap, v = .slice a l.length cap ∧ ∀ k p, l[k]? = some p → ∃ b off, a = some ⟨b, off, none⟩ ∧ w.cell? ⟨b, off + k, none⟩ = some (.string p) := by
  rcases h.2 with ⟨h0, a, c, rfl⟩ | ⟨b, off, cap, rfl, hc⟩
  · have : l = [] := by simpa using h0
    subst this
    exact ⟨a, c, rfl, fun k p h => by simp at h⟩
  · exact ⟨_, cap, rfl, fun k p hp => ⟨b, off, rfl, hc k _ (by simp [hp])⟩⟩
theorem u_int : Tryd.prog.underlying 3 = some (.int .i64) := by kernel_rfl
theorem nib_hi (c : UInt8) : ((c.toNat : Int) / 16) = ((c.toNat / 16 : Nat) : Int) := by omega
theorem nib_all : ∀ x : Fin 256, bits .and .u8 ((x.val : Nat) : Int) 15 = ((x.val % 16 : Nat) : Int) := by decide +kernel
theorem nib_lo (c : UInt8) : bits .and .u8 (c.toNat : Int) 15 = ((c.toNat % 16 : Nat) : Int) := nib_all ⟨c.toNat, c.toNat_lt⟩
end Go.Proofs.YtfhjnfocmlndpaaDoor
