/- The reference's Sum: what it computes is sumS. -/
import Derived.Test.YtfhjnfocmlndpaaDoorSjNew
import Derived.Test.YtfhjnfocmlndpaaDoorSjQuiet
import Derived.Test.YtfhjnfocmlndpaaDoorSjMark
namespace Go.Proofs.YtfhjnfocmlndpaaDoor
open Go Go.RowKit Go.Proofs

set_option maxHeartbeats 400000 in
theorem rot_any (x : W32) (n : Int) (w : World) (hn0 : 0 < n) (hn : n < 32) :
    Calls Tryd.prog 96 #[.int .u32 (iv x), .int .i64 n] w fun e w' => e = .returned (.int .u32 (iv (rr x n.toNat))) ∧ ∃ k, w' = w.drewN k := by
  obtain ⟨n, rfl⟩ := Int.eq_ofNat_of_zero_le (Int.le_of_lt hn0)
  have h1 : (0 : Int) ≤ 32 - n := by omega
  have h2 : (32 - (n : Int)).toNat = 32 - n := by omega
  have h3 : (n : Int) ≤ 32 := by omega
  go_enter Tryd.func96, Tryd.ntmps96
  go_wp2
  go_quiet (fail)
  go_wp2
  go_ret
  refine ⟨?_, _, rfl⟩
  rw [Int.toNat_natCast, ← rr_add x n (by omega) (by omega)]
  rfl

/-! ### a word, byte by byte -/
def accW (s : List UInt8) (t : Nat) : Nat → W32
  | 0 => 0
  | j + 1 => accW s t j <<< 8 + byteAt s (4 * t + j)
theorem byteAt_lt (s : List UInt8) (i : Nat) : (byteAt s i).toNat < 256 := by
  unfold byteAt
  rw [BitVec.toNat_ofNat]
  have := (s.getD i 0).toNat_lt
  omega
theorem shl8_add (x : W32) (s : List UInt8) (i : Nat) : x <<< 8 + byteAt s i = x <<< 8 ||| byteAt s i := by
  refine add_or _ _ ?_
  apply BitVec.eq_of_getLsbD_eq
  intro j hj
  simp only [BitVec.getLsbD_and, BitVec.getLsbD_shiftLeft, BitVec.getLsbD_zero, Bool.and_eq_false_iff]
  by_cases hc : j < 8
  · left; simp [hc]
  · right
    have h1 := byteAt_lt s i
    have : (byteAt s i).toNat < 2 ^ j := Nat.lt_of_lt_of_le h1 (by have : 2 ^ 8 ≤ 2 ^ j := Nat.pow_le_pow_right (by decide) (by omega)
                                                                   exact this)
    show (byteAt s i).toNat.testBit j = false
    exact Nat.testBit_lt_two_pow this
theorem acc_word (s : List UInt8) (t : Nat) : accW s t 4 = wordAt s t := by
  simp only [accW, wordAt, shl8_add, Nat.add_zero]
  simp only [BitVec.shiftLeft_or_distrib, ← BitVec.shiftLeft_add]
  simp
/-- the schedule's row as far as round t -/
def fillR (s : List UInt8) (t : Nat) : List W32 := (if t ≤ 16 then words s t else sched (words s 16) (t - 16)) ++ List.replicate (64 - t) 0
theorem fillR_length (s : List UInt8) (t : Nat) (h : t ≤ 64) : (fillR s t).length = 64 := by
  unfold fillR
  rw [List.length_append, List.length_replicate]
  split
  · rw [words_length]; omega
  · rw [sched_length, words_length]; omega
theorem fillR_zero (s : List UInt8) : fillR s 0 = List.replicate 64 0 := by simp [fillR, words]
theorem fillR_64 (s : List UInt8) : fillR s 64 = sched (words s 16) 48 := by simp [fillR]
theorem fillR_low (s : List UInt8) (t : Nat) (h : t < 16) : (fillR s t).set t (wordAt s t) = fillR s (t + 1) := by
  unfold fillR
  rw [if_pos (by omega), if_pos (by omega), set_mid _ _ _ (words_length _ _) (by omega), words_snoc]
theorem fillR_high (s : List UInt8) (t : Nat) (h0 : 16 ≤ t) (h : t < 64) :
    (fillR s t).set t ((fillR s t).getD (t - 16) 0 + ss0 ((fillR s t).getD (t - 15) 0) + (fillR s t).getD (t - 7) 0 + ss1 ((fillR s t).getD (t - 2) 0)) = fillR s (t + 1) := by
  have e : ∀ t, 16 ≤ t → fillR s t = sched (words s 16) (t - 16) ++ List.replicate (64 - t) 0 := by
    intro t ht
    unfold fillR
    rcases Nat.lt_or_ge 16 t with h1 | h1
    · rw [if_neg (by omega)]
    · have : t = 16 := by omega
      subst this
      rfl
  rw [e t h0, e (t + 1) (by omega)]
  exact sched_step (words s 16) (words_length _ _) t h0 h
theorem fillR_here (s : List UInt8) (t : Nat) (h : t < 16) : (fillR s t).getD t 0 = 0 := by
  unfold fillR
  rw [if_pos (by omega), List.getD_eq_getElem?_getD, List.getElem?_append_right (by rw [words_length]; exact Nat.le_refl _), words_length, Nat.sub_self, List.getElem?_replicate, if_pos (by omega)]
  rfl

/-- 'string([]byte{a, b, c, d})' -/
theorem string_lit4 (W : World) (a b c d : UInt8) : (convert 145 9 (.slice (some ⟨W.heap.size, 0, none⟩) 4 4)).run Tryd.prog (W.alloc (.cells #[.int .u8 (a.toNat : Int), .int .u8 (b.toNat : Int), .int .u8 (c.toNat : Int), .int .u8 (d.toNat : Int)] 5)) =
    .ok (.string ⟨#[a, b, c, d]⟩) (W.alloc (.cells #[.int .u8 (a.toNat : Int), .int .u8 (b.toNat : Int), .int .u8 (c.toNat : Int), .int .u8 (d.toNat : Int)] 5)) := by
  have h : Bytes8 (W.alloc (.cells #[.int .u8 (a.toNat : Int), .int .u8 (b.toNat : Int), .int .u8 (c.toNat : Int), .int .u8 (d.toNat : Int)] 5)) 0 (.slice (some ⟨W.heap.size, 0, none⟩) 4 4) [a, b, c, d] :=
    ⟨rfl, .inr ⟨W.heap.size, 4, #[.int .u8 (a.toNat : Int), .int .u8 (b.toNat : Int), .int .u8 (c.toNat : Int), .int .u8 (d.toNat : Int)], (0, 0), rfl, Nat.zero_le _, heap_alloc_new W _, Nat.le_refl _, by unfold maxLen; omega, rfl, fun i _ hi => by simp at hi, rfl⟩⟩
  exact string_of_bytes (P := Tryd.prog) 145 5 u_bytes u_u8 h 9 u_str

set_option maxRecDepth 100000 in
set_option maxHeartbeats 4000000 in
theorem rsum_any (s : ByteArray) (r : Nat) (hs : s.size ≤ 1000000000) (w : World) (hr : RAt w r) :
    Calls Tryd.prog 16 #[.pointer (some ⟨r, 0, none⟩), .string s] w fun e w' => e = .returned (.string (sumS s)) ∧ Below w.heap.size w w' := by
  have Hr := Lib.hid hr
  have hcv : ∀ W : World, (convert 9 145 (.string s)).run Tryd.prog W = .ok (.slice (some ⟨W.heap.size, 0, none⟩) s.size (grownCap W s.size 0 5)) (Lib.bytesWorld W 5 s) :=
    fun W => Lib.run_convert_string_bytes W _ _ _ s u_str u_bytes u_u8
  have hr72 : (H0 ++ K0).length = 72 := rfl
  have v0 : w.cell? ⟨r, 0, none⟩ = some (.int .u32 (iv 0x6a09e667)) := hr.cell 0 (by rw [hr72]; omega)
  have v1 : w.cell? ⟨r, 1, none⟩ = some (.int .u32 (iv 0xbb67ae85)) := hr.cell 1 (by rw [hr72]; omega)
  have v2 : w.cell? ⟨r, 2, none⟩ = some (.int .u32 (iv 0x3c6ef372)) := hr.cell 2 (by rw [hr72]; omega)
  have v3 : w.cell? ⟨r, 3, none⟩ = some (.int .u32 (iv 0xa54ff53a)) := hr.cell 3 (by rw [hr72]; omega)
  have v4 : w.cell? ⟨r, 4, none⟩ = some (.int .u32 (iv 0x510e527f)) := hr.cell 4 (by rw [hr72]; omega)
  have v5 : w.cell? ⟨r, 5, none⟩ = some (.int .u32 (iv 0x9b05688c)) := hr.cell 5 (by rw [hr72]; omega)
  have v6 : w.cell? ⟨r, 6, none⟩ = some (.int .u32 (iv 0x1f83d9ab)) := hr.cell 6 (by rw [hr72]; omega)
  have v7 : w.cell? ⟨r, 7, none⟩ = some (.int .u32 (iv 0x5be0cd19)) := hr.cell 7 (by rw [hr72]; omega)
  clear hr hr72
  go_enter Tryd.func16, Tryd.ntmps16
  go_upto_region 3 with fail
  clear v0 v1 v2 v3 v4 v5 v6 v7
  generalize hW0 : w.alloc _ = W0
  have hH : U32At W0 w.heap.size 137 H0 := by rw [← hW0]; exact (heap_alloc_new w _).trans (by kernel_rfl)
  have hB0 : Below w.heap.size w W0 := by rw [← hW0]; exact (Below.refl _ _).alloc (Nat.le_refl _) _
  have hz0 : W0.heap.size = w.heap.size + 1 := by rw [← hW0]; simp
  clear hW0
  have hP := bytes_of_string W0 s W0.heap.size (by omega) (Nat.le_refl _)
  have hB1 := hB0.trans ((bytesWorld_below W0 5 s).mono (by omega))
  have hH1 := hH.below (bytesWorld_below W0 5 s) hH.lt
  have hz1 := Lib.bytesWorld_size W0 5 s
  have HB1 := Lib.hid hB1
  have HH1 := Lib.hid hH1
  have HP0 : Hid (Own (Lib.bytesWorld W0 5 s) W0.heap.size 5 1 (.slice (some ⟨W0.heap.size, 0, none⟩) s.size (grownCap W0 s.size 0 5)) s.size (u8c s.data.toList)) := hP
  have hbase : W0.heap.size ≤ (Lib.bytesWorld W0 5 s).heap.size := by omega
  have hlt0 : w.heap.size < W0.heap.size := by omega
  clear hH hB0 hz0 hP hB1 hH1 hz1
  go_wp2_with (first | (at_builtin; refine app_lit rfl _ _ 145 rfl W0.heap.size 5 (.int .u8 0) 1 1 u_bytes i_u8 rfl (by decide) _ _ _ rfl HP0.out 1 _ rfl rfl (by intro u hu; simp at hu; subst hu; rfl) (by omega) (by omega) hbase ?_; intro v1 w1 hown1 hgrow1))
  clear hcv
  obtain ⟨g1, g2, g3⟩ := pad_step 128 HH1.out hlt0 HB1.out (Nat.le_of_lt hlt0) HP0.out hown1 hgrow1
  have G1 := Lib.hid g1
  have G2 := Lib.hid g2
  have G3 := Lib.hid g3
  have HB1s : Hid (W0.heap.size ≤ w1.heap.size) := Nat.le_trans hbase hgrow1.size
  clear g1 g2 g3 hown1 hgrow1 HP0 HB1 HH1 hbase
  generalize W0.heap.size = bp at *
  go_loopw [7] (fun v wr => ∃ z : Nat, z ≤ zerosFor (s.size + 1) ∧ Own wr bp 5 1 v (s.size + 1 + z) (u8c (padZ s z)) ∧ U32At wr w.heap.size 137 H0 ∧ Below w.heap.size w wr ∧ bp ≤ wr.heap.size) (fun v _ => s.size + 1000 - lenV v)
  case atStart => exact ⟨0, Nat.zero_le _, by rw [padZ, List.replicate_zero, List.append_nil]; exact G1.out, G2.out, G3.out, HB1s.out⟩
  case round =>
    clear G1 G2 G3 HB1s
    obtain ⟨z, hz, hP, hH, hB, hbp⟩ := hrel
    have hz63 : zerosFor (s.size + 1) < 64 := Nat.mod_lt _ (by decide)
    have HP := Lib.hid hP
    have HH := Lib.hid hH
    have HB := Lib.hid hB
    obtain ⟨n, hn⟩ : ∃ n, n = s.size + 1 + z := ⟨_, rfl⟩
    rw [← hn] at HP
    rcases HP.out.shape with ⟨rfl, hn0, _⟩ | ⟨g, cap, rfl, hob, hg1, hg2, hnc, hcm⟩
    · omega
    have hn1 : n ≤ 1000000100 := by omega
    clear hP hH hB
    have HN := Lib.hid hn
    clear hn hob hcm
    by_cases hm : n % 64 = 56
    · have t1 : ((n : Int) % 64 != 56) = false := by rw [bne_eq_false_iff_eq]; omega
      have t2 : ((n : Int) % 64 == 56) = true := by rw [beq_iff_eq]; omega
      have HM := Lib.hid hm
      clear hm
      have hzz : Hid (z = zerosFor (s.size + 1)) := by unfold Hid; have := HN.out; have := HM.out; unfold zerosFor at hz ⊢; omega
      have HP0 : Hid (Own wr bp 5 1 (.slice (some ⟨g, 0, none⟩) n cap) n (u8c (padN s 0))) := by
        unfold Hid padN; rw [List.take_zero, List.append_nil, ← hzz.out]; exact HP.out
      obtain ⟨wo, rfl⟩ : ∃ wo, wo = wr := ⟨_, rfl⟩
      go_wp2_with fail
      go_loopw [7, 8] (fun v i wr => ∃ k : Nat, k ≤ 8 ∧ i = .int .i64 (56 - 8 * (k : Int)) ∧ Own wr bp 5 1 v (n + k) (u8c (padN s k)) ∧ U32At wr w.heap.size 137 H0 ∧ Below w.heap.size w wr ∧ bp ≤ wr.heap.size) (fun _ i _ => (intOf i + 8).toNat)
      case atStart => exact ⟨0, by omega, rfl, HP0.out, HH.out, HB.out, hbp⟩
      case round =>
        clear HP HH HB hbp HP0 hg1 hg2 hnc t1 t2
        obtain ⟨k, hk, rfl, hP, hH, hB, hbp⟩ := hrel
        have HP := Lib.hid hP
        have HH := Lib.hid hH
        have HB := Lib.hid hB
        clear hP hH hB
        by_cases hlt : k < 8
        ·
          obtain ⟨d, hd⟩ : ∃ d : Nat, (56 : Int) - 8 * k = ((8 * d : Nat) : Int) := ⟨7 - k, by omega⟩
          have hd7 : d < 8 := by omega
          obtain ⟨d8, hd8⟩ : ∃ d8, d8 = 8 * d := ⟨_, rfl⟩
          rw [hd, ← hd8]
          have hd64 : d8 < 64 := by omega
          have HD := Lib.hid hd
          have HD8 := Lib.hid hd8
          clear hd hd8
          go_wp2_with (first | (at_builtin; refine app_lit rfl _ _ 145 rfl bp 5 (.int .u8 0) 1 1 u_bytes i_u8 rfl (by decide) _ _ _ rfl HP.out 1 _ rfl rfl (by intro u hu; simp at hu; subst hu; rfl) (by omega) (by omega) hbp ?_; intro v1 w1 hown1 hgrow1))
          have hsz := hgrow1.size
          rw [HD8.out, show (s.size : Int) * 8 = ((s.size * 8 : Nat) : Int) from by omega, be_byte] at hown1
          obtain ⟨g1, g2, g3⟩ := pad_step _ HH.out hlt0 HB.out (Nat.le_of_lt hlt0) HP.out hown1 hgrow1
          have hdk : d = 7 - k := by have := HD.out; omega
          rw [hdk, padN_snoc _ _ hlt] at g1
          go_roundw
          case rel => exact ⟨k + 1, by omega, by have := HD.out; have := HD8.out; congr 1; omega, g1, g2, g3, Nat.le_trans hbp hsz⟩
          case measure => simp [intOf] <;> omega
        · have hk8 : Hid (k = 8) := by unfold Hid; omega
          have hneg : (56 : Int) - 8 * k < 0 := by omega
          have hd1 : decide (8 * (k : Int) ≤ 56) = false := decide_eq_false (by omega)
          obtain ⟨L, hL⟩ : ∃ L, L = n + k := ⟨_, rfl⟩
          rw [← hL] at HP
          have HP8 : Hid (Own wr bp 5 1 u7 L (u8c (pad s.data.toList))) := by unfold Hid; rw [← padN_all, ← hk8.out]; exact HP.out
          rcases HP8.out.shape with ⟨rfl, hn0, _⟩ | ⟨g, cap, rfl, hob, hg1, hg2, hnc, hcm⟩
          · omega
          have hLl : Hid ((pad s.data.toList).length = L) := by unfold Hid; have := HP8.out.1; simpa [u8c] using this
          have hL64 : Hid (L % 64 = 0) := by unfold Hid; rw [← hLl.out]; exact pad_64 _
          have hLs : L ≤ 1000000300 := by omega
          have HL := Lib.hid hL
          obtain ⟨wo, rfl⟩ : ∃ wo, wo = wr := ⟨_, rfl⟩
          clear HP hL hlt hk hob hcm
          have hgb : g ≠ w.heap.size := by omega
          have hrlt : Hid (r < w.heap.size) := Hr.out.lt
          have HPL : Hid (Own wo bp 5 1 (.slice (some ⟨g, 0, none⟩) L cap) L (u8c (pad s.data.toList))) := HP8.out
          obtain ⟨pl, hpl⟩ : ∃ pl, pl = pad s.data.toList := ⟨_, rfl⟩
          rw [← hpl] at HPL hLl
          have HPl := Lib.hid hpl
          clear HP8 hpl
          go_wp2_with fail
          go_loopw [7] (fun m wr => ∃ q j c off : Nat, j = L - 64 * q ∧ 64 * q ≤ L ∧ c = cap - 64 * q ∧ (0 < j → off = 64 * q) ∧ m = .slice (some ⟨g, off, none⟩) j c ∧ U32At wr w.heap.size 137 (blks K0 H0 pl q) ∧ Own wr bp 5 1 (.slice (some ⟨g, 0, none⟩) L cap) L (u8c pl) ∧ Below w.heap.size w wr) (fun m _ => lenV m)
          case atStart => exact ⟨0, L, cap, 0, by omega, by omega, by omega, fun _ => rfl, rfl, HH.out, HPL.out, HB.out⟩
          case round =>
            clear HPL HH HB hbp hneg
            obtain ⟨q, j, c, off, hj, hqL, hc, hoff, rfl, hH, hP, hB⟩ := hrel
            have HH := Lib.hid hH
            have HP := Lib.hid hP
            have HB := Lib.hid hB
            have hbw := hB.size
            clear hH hP hB
            have hL2 := hL64.out
            by_cases hj0 : 0 < j
            · obtain rfl : off = 64 * q := hoff hj0
              have hj64 : 64 ≤ j := by omega
              have hc64 : 64 ≤ c := by omega
              have hjc : j ≤ c := by omega
              have HJ := Lib.hid hj
              have HC := Lib.hid hc
              clear hj hc hoff hL2
              obtain ⟨bs, hbs⟩ : ∃ bs, bs = (pl.drop (64 * q)).take 64 := ⟨_, rfl⟩
              have HBS := Lib.hid hbs
              clear hbs
              have hj0i : (0 : Int) < j := by omega
              obtain ⟨wo, rfl⟩ : ∃ wo, wo = wr := ⟨_, rfl⟩
              go_wp2_with fail
              go_loopw [65] (fun i w2 => ∃ t : Nat, t ≤ 64 ∧ i = .int .i64 t ∧ U32At w2 wo.heap.size 138 (fillR bs t) ∧ Below wo.heap.size wo w2) (fun i _ => 64 - (intOf i).toNat)
              case atStart => exact ⟨0, by omega, rfl, by rw [fillR_zero]; exact u32_made wo _ 64 _ (by kernel_rfl), (Below.refl _ _).alloc (Nat.le_refl _) _⟩
              case round =>
                obtain ⟨t, ht, rfl, hU, hB2⟩ := hrel
                have HU := Lib.hid hU
                have HB2 := Lib.hid hB2
                clear hU hB2
                by_cases ht64 : t < 64
                · have hti : (t : Int) < 64 := by omega
                  by_cases ht16 : t < 16
                  · have ht16i : (t : Int) < 16 := by omega
                    have hfl := fillR_length bs t ht
                    have hac0 : Hid (fillR bs t = (fillR bs t).set t (accW bs t 0)) := by
                      unfold Hid
                      rw [accW]
                      have := fillR_here bs t ht16
                      apply List.ext_getElem?
                      intro i
                      rw [List.getElem?_set]
                      split
                      · rename_i e
                        subst e
                        rw [if_pos (by omega)]
                        rw [List.getD_eq_getElem?_getD, List.getElem?_eq_getElem (by omega)] at this
                        rw [List.getElem?_eq_getElem (by omega)]
                        simpa using this
                      · rfl
                    have a1 : IntKind.i64.wrap (4 * (t : Int)) = ((4 * t : Nat) : Int) := by rw [IntWalk.i64_in _ (by omega)]; omega
                    obtain ⟨t4, ht4⟩ : ∃ t4, t4 = 4 * t := ⟨_, rfl⟩
                    have ht4b : t4 + 4 ≤ 64 := by omega
                    have a2 : (4 * (t : Int)) = (t4 : Int) := by omega
                    have a3 : ¬ c = t4 := by omega
                    have a4 : t4 + 4 ≤ c := by omega
                    have a5 : t4 + 4 - t4 = 4 := by omega
                    have HT4 := Lib.hid ht4
                    clear ht4 hfl a1
                    go_wp2_with fail
                    go_loopw [78] (fun i w3 => ∃ p : Nat, p ≤ 4 ∧ i = .int .i64 p ∧ U32At w3 wo.heap.size 138 ((fillR bs t).set t (accW bs t p)) ∧ Below wo.heap.size wo w3) (fun i _ => 4 - (intOf i).toNat)
                    case atStart => exact ⟨0, by omega, rfl, by rw [← hac0.out]; exact HU.out, HB2.out⟩
                    case round =>
                      clear HU HB2 hac0
                      obtain ⟨p, hp, rfl, hU, hB2⟩ := hrel
                      have HU := Lib.hid hU
                      have HB2 := Lib.hid hB2
                      clear hU hB2
                      by_cases hp4 : p < 4
                      · have hp4i : (p : Int) < 4 := by omega
                        obtain ⟨y, hy⟩ : ∃ y, accW bs t p = y := ⟨_, rfl⟩
                        have hlen : ((fillR bs t).set t (accW bs t p)).length = 64 := by rw [List.length_set, fillR_length bs t ht]
                        have hcw := HU.out.cell t (by omega)
                        have hcf := HU.out.free t
                        have hgt : ((fillR bs t).set t (accW bs t p)).getD t 0 = y := by
                          rw [List.getD_eq_getElem?_getD, List.getElem?_set_self (by rw [fillR_length bs t ht]; omega), hy]; rfl
                        rw [hgt] at hcw
                        obtain ⟨ch, hch⟩ : ∃ ch, pl.getD (64 * q + t4 + p) 0 = ch := ⟨_, rfl⟩
                        have hidx : 64 * q + t4 + p < pl.length := by rw [hLl.out]; have := HJ.out; omega
                        have hcc : wr.cell? ⟨g, 64 * q + t4 + p, none⟩ = some (.int .u8 (ch.toNat : Int)) := by
                          have h1 := HP.out.cell (g := g) rfl (u8c_get pl (64 * q + t4 + p) hidx)
                          rw [hch] at h1
                          rw [HB2.out.cell (by show g < wo.heap.size; exact (HP.out.lt g rfl).2)]
                          exact h1
                        have hst : Hid (accW bs t (p + 1) = y <<< 8 + bW ch) := by
                          unfold Hid
                          rw [accW, hy]
                          congr 1
                          unfold byteAt bW
                          rw [HBS.out, ← HT4.out, ← hch]
                          congr 2
                          rw [List.getD_eq_getElem?_getD, List.getD_eq_getElem?_getD, List.getElem?_take, if_pos (by omega), List.getElem?_drop, Nat.add_assoc]
                        have HY := Lib.hid hy
                        clear hy hgt hch hlen hidx
                        go_wp2_with fail
                        go_roundw
                        case rel =>
                          have R := HU.out.set t (y <<< 8 + bW ch)
                          rw [List.set_set] at R
                          exact ⟨p + 1, by omega, by go_num, by rw [hst.out]; exact R, below_set HB2.out (Nat.le_refl _) _⟩
                        case measure => simp [intOf]; omega
                      · have hU4 : Hid (U32At wr wo.heap.size 138 (fillR bs (t + 1))) := by
                          unfold Hid
                          have e : p = 4 := by omega
                          have := HU.out
                          rw [e, acc_word, fillR_low bs t ht16] at this
                          exact this
                        have hp4n : ¬ (p : Int) < 4 := by omega
                        have hd4 : decide ((p : Int) < 4) = false := decide_eq_false hp4n
                        clear HU hp4
                        go_wp2_with fail
                        go_roundw
                        case rel => exact ⟨t + 1, by omega, by go_num, hU4.out, HB2.out⟩
                        case measure => simp [intOf]; omega
                  · have ht16n : 16 ≤ t := by omega
                    have ht16i : ¬ (t : Int) < 16 := by omega
                    obtain ⟨x1, h1⟩ : ∃ x, (fillR bs t).getD (t - 16) 0 = x := ⟨_, rfl⟩
                    obtain ⟨x2, h2⟩ : ∃ x, (fillR bs t).getD (t - 15) 0 = x := ⟨_, rfl⟩
                    obtain ⟨x3, h3⟩ : ∃ x, (fillR bs t).getD (t - 7) 0 = x := ⟨_, rfl⟩
                    obtain ⟨x4, h4⟩ : ∃ x, (fillR bs t).getD (t - 2) 0 = x := ⟨_, rfl⟩
                    obtain ⟨x5, h5⟩ : ∃ x, (fillR bs t).getD t 0 = x := ⟨_, rfl⟩
                    have hfl := fillR_length bs t ht
                    have hc1 := HU.out.cell (t - 16) (by omega)
                    have hc2 := HU.out.cell (t - 15) (by omega)
                    have hc3 := HU.out.cell (t - 7) (by omega)
                    have hc4 := HU.out.cell (t - 2) (by omega)
                    have hc5 := HU.out.cell t (by omega)
                    have hc6 := HU.out.free t
                    have hst := fillR_high bs t ht16n ht64
                    rw [h1] at hc1 hst
                    rw [h2] at hc2 hst
                    rw [h3] at hc3 hst
                    rw [h4] at hc4 hst
                    rw [h5] at hc5
                    have HT := Lib.hid hst
                    clear hst h1 h2 h3 h4 h5 hfl
                    have a0 : IntKind.i64.wrap ((t : Int) - 16) = (t : Int) - 16 := IntWalk.i64_in _ (by omega)
                    have a1 : IntKind.i64.wrap ((t : Int) - 15) = (t : Int) - 15 := IntWalk.i64_in _ (by omega)
                    have a2 : IntKind.i64.wrap ((t : Int) - 7) = (t : Int) - 7 := IntWalk.i64_in _ (by omega)
                    have a3 : IntKind.i64.wrap ((t : Int) - 2) = (t : Int) - 2 := IntWalk.i64_in _ (by omega)
                    have b0 : ((t : Int) - 16).toNat = t - 16 := by omega
                    have b1 : ((t : Int) - 15).toNat = t - 15 := by omega
                    have b2 : ((t : Int) - 7).toNat = t - 7 := by omega
                    have b3 : ((t : Int) - 2).toNat = t - 2 := by omega
                    have c0 : (16 : Int) ≤ t := by omega
                    have c1 : (15 : Int) ≤ t := by omega
                    have c2 : (7 : Int) ≤ t := by omega
                    have c3 : (2 : Int) ≤ t := by omega
                    have e0 : (t : Int) - 16 < 64 := by omega
                    have e1 : (t : Int) - 15 < 64 := by omega
                    have e2 : (t : Int) - 7 < 64 := by omega
                    have e3 : (t : Int) - 2 < 64 := by omega
                    go_wp2_with fail
                    go_quiet (fail)
                    go_wp2_with fail
                    clear hc2 hc4
                    have HU2 : Hid (U32At (wr.drewN nq) wo.heap.size 138 (fillR bs t)) := HU.out
                    have HB3 : Hid (Below wo.heap.size wo (wr.drewN nq)) := belowN HB2.out nq
                    change (wr.drewN nq).cell? _ = _ at hc1
                    change (wr.drewN nq).cell? _ = _ at hc3
                    change (wr.drewN nq).cell? _ = _ at hc5
                    change (wr.drewN nq).frozen? _ = _ at hc6
                    generalize wr.drewN nq = w3 at *
                    clear HU HB2
                    refine wp_region_quiet_tail 32 (by kernel_rfl) (by kernel_rfl) ?_
                    simp only [List.take_succ_cons, List.take_zero, List.drop_succ_cons, List.drop_zero]
                    repeat (quiet_step ((go_at_call 96; exact Calls.quiet_of (rot_any _ _ _ (by decide) (by decide)))))
                    refine wpQuiet_nil ?_
                    intro nq2
                    go_wp2
                    go_roundw
                    case rel =>
                      have R := (HU2.out.drewN nq2).set t (x1 + ss0 x2 + x3 + ss1 x4)
                      rw [HT.out] at R
                      rw [show (rr x4 17 ^^^ rr x4 19 ^^^ x4 >>> 10) + x3 + (rr x2 7 ^^^ rr x2 18 ^^^ x2 >>> 3) + x1 = x1 + ss0 x2 + x3 + ss1 x4 from by
                        unfold ss0 ss1
                        generalize rr x4 17 ^^^ rr x4 19 ^^^ x4 >>> 10 = p
                        generalize rr x2 7 ^^^ rr x2 18 ^^^ x2 >>> 3 = q
                        rw [BitVec.add_comm p x3, BitVec.add_comm _ x1, BitVec.add_assoc x3 p q, BitVec.add_comm p q, ← BitVec.add_assoc x3 q p, ← BitVec.add_assoc x1, BitVec.add_comm x3 q, ← BitVec.add_assoc x1]]
                      exact ⟨t + 1, by omega, by go_num, R, below_set (belowN HB3.out nq2) (Nat.le_refl _) _⟩
                    case measure => simp [intOf]; omega
                ·
                  have hge : 64 ≤ t := by omega
                  have ht64i : ¬ (t : Int) < 64 := by omega
                  obtain ⟨Wl, hWl⟩ : ∃ l, l = sched (words bs 16) 48 := ⟨_, rfl⟩
                  have HW : Hid (U32At wr wo.heap.size 138 Wl) := by
                    unfold Hid
                    have e : t = 64 := by omega
                    have := HU.out
                    rw [e, fillR_64, ← hWl] at this
                    exact this
                  have HWl := Lib.hid hWl
                  have HWll : Hid (Wl.length = 64) := by unfold Hid; rw [hWl, sched_length, words_length]
                  clear HU hWl ht64
                  obtain ⟨hs0, hhs⟩ : ∃ l, l = blks K0 H0 pl q := ⟨_, rfl⟩
                  have Hl8 : Hid (hs0.length = 8) := by unfold Hid; rw [hhs]; exact blks_length _ _ rfl _ _
                  rw [← hhs] at HH
                  have HHs := Lib.hid hhs
                  obtain ⟨x0, x1, x2, x3, x4, x5, x6, x7, hx⟩ := len8 hs0 Hl8.out
                  have hwb : w.heap.size < wo.heap.size := HH.out.lt
                  have hv := HH.out.below HB2.out hwb
                  have HHr := Lib.hid hv
                  rw [hx] at hv
                  have v0 : wr.cell? ⟨w.heap.size, 0, none⟩ = some (.int .u32 (iv x0)) := hv.cell 0 (by simp)
                  have v1 : wr.cell? ⟨w.heap.size, 1, none⟩ = some (.int .u32 (iv x1)) := hv.cell 1 (by simp)
                  have v2 : wr.cell? ⟨w.heap.size, 2, none⟩ = some (.int .u32 (iv x2)) := hv.cell 2 (by simp)
                  have v3 : wr.cell? ⟨w.heap.size, 3, none⟩ = some (.int .u32 (iv x3)) := hv.cell 3 (by simp)
                  have v4 : wr.cell? ⟨w.heap.size, 4, none⟩ = some (.int .u32 (iv x4)) := hv.cell 4 (by simp)
                  have v5 : wr.cell? ⟨w.heap.size, 5, none⟩ = some (.int .u32 (iv x5)) := hv.cell 5 (by simp)
                  have v6 : wr.cell? ⟨w.heap.size, 6, none⟩ = some (.int .u32 (iv x6)) := hv.cell 6 (by simp)
                  have v7 : wr.cell? ⟨w.heap.size, 7, none⟩ = some (.int .u32 (iv x7)) := hv.cell 7 (by simp)
                  have HX := Lib.hid hx
                  clear hv hx hhs
                  go_wp2_with fail
                  go_quiet (fail)
                  go_wp2_with fail
                  clear v0 v1 v2 v3 v4 v5 v6 v7
                  have HW2 : Hid (U32At (wr.drewN nq) wo.heap.size 138 Wl) := HW.out
                  have HB3 : Hid (Below wo.heap.size wo (wr.drewN nq)) := belowN HB2.out nq
                  have HHr2 : Hid (U32At (wr.drewN nq) w.heap.size 137 hs0) := HHr.out
                  generalize wr.drewN nq = w3 at *
                  clear HW HB2 HHr
                  go_loopw [15, 16, 17, 18, 19, 20, 21, 22, 150] (fun z0 z1 z2 z3 z4 z5 z6 z7 i w4 => ∃ j : Nat, j ≤ 64 ∧ i = .int .i64 j ∧ (∃ y0 y1 y2 y3 y4 y5 y6 y7 : W32, rounds K0 Wl hs0 j = [y0, y1, y2, y3, y4, y5, y6, y7] ∧ z0 = .int .u32 (iv y0) ∧ z1 = .int .u32 (iv y1) ∧ z2 = .int .u32 (iv y2) ∧ z3 = .int .u32 (iv y3) ∧ z4 = .int .u32 (iv y4) ∧ z5 = .int .u32 (iv y5) ∧ z6 = .int .u32 (iv y6) ∧ z7 = .int .u32 (iv y7)) ∧ U32At w4 wo.heap.size 138 Wl ∧ U32At w4 w.heap.size 137 hs0 ∧ Below wo.heap.size wo w4) (fun _ _ _ _ _ _ _ _ i _ => 64 - (intOf i).toNat)
                  case atStart => exact ⟨0, by omega, rfl, ⟨x0, x1, x2, x3, x4, x5, x6, x7, HX.out, rfl, rfl, rfl, rfl, rfl, rfl, rfl, rfl⟩, HW2.out, HHr2.out, HB3.out⟩
                  case round =>
                    clear HW2 HHr2 HB3
                    obtain ⟨j2, hj2, rfl, ⟨y0, y1, y2, y3, y4, y5, y6, y7, hy, rfl, rfl, rfl, rfl, rfl, rfl, rfl, rfl⟩, hW, hH2, hB2⟩ := hrel
                    have HY := Lib.hid hy
                    have HW := Lib.hid hW
                    have HH2 := Lib.hid hH2
                    have HB2 := Lib.hid hB2
                    clear hy hW hH2 hB2
                    by_cases hlt : j2 < 64
                    ·
                      obtain ⟨kj, hkj⟩ : ∃ x, K0.getD j2 0 = x := ⟨_, rfl⟩
                      obtain ⟨wj, hwj⟩ : ∃ x, Wl.getD j2 0 = x := ⟨_, rfl⟩
                      have ck : wr.cell? ⟨r, 8 + j2, none⟩ = some (.int .u32 (iv kj)) := by
                        have h1 := ((Hr.out.below HB.out Hr.out.lt).below HB2.out (by have := hrlt.out; omega)).cell (8 + j2) (by show 8 + j2 < 72; omega)
                        have h2 : (H0 ++ K0).getD (8 + j2) 0 = kj := by
                          rw [← hkj, List.getD_eq_getElem?_getD, List.getElem?_append_right (by show 8 ≤ _; omega), List.getD_eq_getElem?_getD]
                          congr 2
                          show 8 + j2 - 8 = j2
                          omega
                        rw [h2] at h1
                        exact h1
                      have cw := HW.out.cell j2 (by rw [HWll.out]; omega)
                      rw [hwj] at cw
                      have HK := Lib.hid hkj
                      have HWJ := Lib.hid hwj
                      clear hkj hwj
                      have e1 : (j2 : Int) < 64 := by omega
                      go_wp2_with fail
                      go_quiet ((go_at_call 96; exact Calls.quiet_of (rot_any _ _ _ (by decide) (by decide))))
                      go_wp2_with (go_at_call 96; refine (rot_any _ _ _ (by decide) (by decide)).mono ?_; rintro e w1 ⟨rfl, nk, rfl⟩)
                      go_roundw
                      case rel =>
                        refine ⟨j2 + 1, by omega, by go_num, ⟨_, _, _, _, _, _, _, _, ?_, rfl, rfl, rfl, rfl, rfl, rfl, rfl, rfl⟩, HW.out, HH2.out, belowN HB2.out _⟩
                        rw [ch_ref, mj_ref, rounds, HY.out, HK.out, HWJ.out]
                        rfl
                      case measure => simp [intOf]; omega
                    · have hge2 : 64 ≤ j2 := by omega
                      have hY64 : Hid (rounds K0 Wl hs0 64 = [y0, y1, y2, y3, y4, y5, y6, y7]) := by
                        unfold Hid
                        have e : j2 = 64 := by omega
                        have := HY.out
                        rw [e] at this; exact this
                      clear HY hlt
                      obtain ⟨V, hV⟩ : ∃ l, l = rounds K0 Wl hs0 64 := ⟨_, rfl⟩
                      rw [← hV] at hY64
                      have HVe := Lib.hid hV
                      clear hV
                      have hne2 : ¬ (j2 : Int) < 64 := by omega
                      have HG0 : Hid (wo.grownBy wr (some w.heap.size)) := grown_below HB2.out _
                      go_wp2_with fail
                      go_loopw [228] (fun i w3 => ∃ e : Nat, e ≤ 8 ∧ i = .int .i64 e ∧ U32At w3 w.heap.size 137 (addW hs0 V e) ∧ wo.grownBy w3 (some w.heap.size)) (fun i _ => 8 - (intOf i).toNat)
                      case atStart => exact ⟨0, by omega, rfl, by rw [addW_zero _ _ Hl8.out]; exact HH2.out, HG0.out⟩
                      case round =>
                        clear HH2 HG0 HB2 HW
                        obtain ⟨e, he, rfl, hA, hG⟩ := hrel
                        have HA := Lib.hid hA
                        have HG := Lib.hid hG
                        clear hA hG
                        by_cases hlt : e < 8
                        ·
                          obtain ⟨x, hx⟩ : ∃ x, (addW hs0 V e).getD e 0 = x := ⟨_, rfl⟩
                          obtain ⟨y, hy⟩ : ∃ y, [y0, y1, y2, y3, y4, y5, y6, y7].getD e 0 = y := ⟨_, rfl⟩
                          have hidx := index8 y0 y1 y2 y3 y4 y5 y6 y7 e hlt
                          rw [hy] at hidx
                          rw [← hY64.out] at hy
                          have c1 := HA.out.cell e (by rw [addW_length]; exact hlt)
                          have c3 := HA.out.free e
                          rw [hx] at c1
                          have hst := addW_step hs0 V e hlt
                          rw [hx, hy] at hst
                          have HT := Lib.hid hst
                          clear hst hx hy
                          have e1 : (e : Int) < 8 := by omega
                          go_wp2_with fail
                          go_roundw
                          case rel =>
                            have R := HA.out.set e (x + y)
                            rw [HT.out] at R
                            exact ⟨e + 1, by omega, by go_num, R, grownBy_trans HG.out (grownBy_setCell wr w.heap.size e _)⟩
                          case measure => simp [intOf]; omega
                        ·
                          have hge3 : 8 ≤ e := by omega
                          have HA8 : Hid (U32At wr w.heap.size 137 (blks K0 H0 pl (q + 1))) := by
                            unfold Hid
                            have e8 : e = 8 := by omega
                            have := HA.out
                            rw [e8, HVe.out, HWl.out, HBS.out, HHs.out] at this
                            exact this
                          clear HA hlt
                          have b1 : (64 : Int) ≤ j := by omega
                          have b2 : (64 : Int) ≤ c := by omega
                          have hne3 : ¬ (e : Int) < 8 := by omega
                          have hPk := HP.out.kept HG.out (Or.inr (by simp only [Value.ownBlock]; intro e; exact hgb (Option.some.inj e)))
                          have HPK := Lib.hid hPk
                          have hBk : Below w.heap.size w wr := HB.out.trans ⟨HG.out.os, HG.out.tape, HG.out.output, HG.out.size, fun i hi => HG.out.block i (by have := HB.out.size; omega) (by simp; omega)⟩
                          have HBK := Lib.hid hBk
                          clear hPk hBk
                          by_cases hcz : c = 64
                          · go_wp2_with fail
                            go_roundw
                            case rel => exact ⟨q + 1, j - 64, c - 64, 64 * q, by have := HJ.out; omega, by have := HJ.out; omega, by have := HC.out; omega, by intro h; omega, by simp [hcz], HA8.out, HPK.out, HBK.out⟩
                            case measure => show j - 64 < j; omega
                          · go_wp2_with fail
                            go_roundw
                            case rel => exact ⟨q + 1, j - 64, c - 64, 64 * q + 64, by have := HJ.out; omega, by have := HJ.out; omega, by have := HC.out; omega, by intro h; omega, rfl, HA8.out, HPK.out, HBK.out⟩
                            case measure => show j - 64 < j; omega
            ·
              have hj00 : j = 0 := by omega
              have hd0 : ¬ (0 : Int) < j := by omega
              obtain ⟨Hf, hHf⟩ : ∃ l, l = blks K0 H0 (pad s.data.toList) ((pad s.data.toList).length / 64) := ⟨_, rfl⟩
              have HF : Hid (U32At wr w.heap.size 137 Hf) := by
                unfold Hid
                have e : q = (pad s.data.toList).length / 64 := by rw [← HPl.out, hLl.out]; omega
                rw [hHf, ← e, ← HPl.out]; exact HH.out
              obtain ⟨x0, x1, x2, x3, x4, x5, x6, x7, hx⟩ := len8 Hf (by rw [hHf]; exact blks_length _ _ rfl _ _)
              have hv := HF.out
              rw [hx] at hv
              have v0 : wr.cell? ⟨w.heap.size, 0, none⟩ = some (.int .u32 (iv x0)) := hv.cell 0 (by simp)
              have v1 : wr.cell? ⟨w.heap.size, 1, none⟩ = some (.int .u32 (iv x1)) := hv.cell 1 (by simp)
              have v2 : wr.cell? ⟨w.heap.size, 2, none⟩ = some (.int .u32 (iv x2)) := hv.cell 2 (by simp)
              have v3 : wr.cell? ⟨w.heap.size, 3, none⟩ = some (.int .u32 (iv x3)) := hv.cell 3 (by simp)
              have v4 : wr.cell? ⟨w.heap.size, 4, none⟩ = some (.int .u32 (iv x4)) := hv.cell 4 (by simp)
              have v5 : wr.cell? ⟨w.heap.size, 5, none⟩ = some (.int .u32 (iv x5)) := hv.cell 5 (by simp)
              have v6 : wr.cell? ⟨w.heap.size, 6, none⟩ = some (.int .u32 (iv x6)) := hv.cell 6 (by simp)
              have v7 : wr.cell? ⟨w.heap.size, 7, none⟩ = some (.int .u32 (iv x7)) := hv.cell 7 (by simp)
              have HX := Lib.hid hx
              have HHf := Lib.hid hHf
              clear hv hx hHf hL2 hj0 HH HP hj hc hoff
              obtain rfl : j = 0 := hj00
              go_wp2_with fail
              clear v0 v1 v2 v3 v4 v5 v6 v7
              have HBx := Lib.hid HB.out
              go_loopw [28, 240] (fun v i wr => ∃ q : Nat, q ≤ 8 ∧ i = .int .i64 q ∧ v = .string ⟨((Hf.take q).flatMap be32).toArray⟩ ∧ Below w.heap.size w wr) (fun _ i _ => 8 - (intOf i).toNat)
              case atStart => exact ⟨0, by omega, rfl, rfl, HB.out⟩
              case round =>
                clear HB HBx HF
                obtain ⟨q, hq, rfl, rfl, hB⟩ := hrel
                have HB := Lib.hid hB
                have hbw := hB.size
                clear hB
                have hfl : ((Hf.take q).flatMap be32).length ≤ 32 := by rw [be32_flat, List.length_take]; omega
                by_cases hlt : q < 8
                · obtain ⟨y, hy⟩ : ∃ y, [x0, x1, x2, x3, x4, x5, x6, x7].getD q 0 = y := ⟨_, rfl⟩
                  have hidx := index8 x0 x1 x2 x3 x4 x5 x6 x7 q hlt
                  rw [hy] at hidx
                  rw [← HX.out] at hy
                  have HY := Lib.hid hy
                  clear hy
                  have hc4 := fun W => string_lit4 W (loB (y >>> 24)) (loB (y >>> 16)) (loB (y >>> 8)) (loB y)
                  generalize hfe : (Hf.take q).flatMap be32 = fl at *
                  have HFe := Lib.hid hfe
                  clear hfe
                  go_wp2_with fail
                  go_roundw
                  case rel =>
                    refine ⟨q + 1, by omega, by go_num, ?_, HB.out.alloc hbw _⟩
                    rw [flat_snoc Hf q y (by rw [HX.out]; exact hlt) HY.out, HFe.out, be32_lo, ← bytes_app]
                  case measure => simp [intOf]; omega
                · have hge : 8 ≤ q := by omega
                  have hd8 : ¬ (q : Int) < 8 := by omega
                  have hfin : (⟨((Hf.take q).flatMap be32).toArray⟩ : ByteArray) = sumS s := by
                    rw [List.take_of_length_le (by rw [HX.out]; exact hge), HHf.out]; rfl
                  have HFin := Lib.hid hfin
                  clear hfin hlt
                  go_wp2_with fail
                  go_ret
                  exact ⟨congrArg (fun b => Ending.returned (.string b)) HFin.out, HB.out⟩
    ·
      have t1 : ((n : Int) % 64 != 56) = true := by rw [bne_iff_ne]; omega
      have t2 : ((n : Int) % 64 == 56) = false := by rw [beq_eq_false_iff_ne]; omega
      have hzl : z < zerosFor (s.size + 1) := by have := HN.out; unfold zerosFor at hz ⊢; omega
      have HM := Lib.hid hm
      clear hm
      go_wp2_with (first | (at_builtin; refine app_lit rfl _ _ 145 rfl bp 5 (.int .u8 0) 1 1 u_bytes i_u8 rfl (by decide) _ _ _ rfl HP.out 1 _ rfl rfl (by intro u hu; simp at hu; subst hu; rfl) (by omega) (by omega) hbp ?_; intro v1 w1 hown1 hgrow1))
      obtain ⟨g1, g2, g3⟩ := pad_step 0 HH.out hlt0 HB.out (Nat.le_of_lt hlt0) HP.out hown1 hgrow1
      have hsz := hgrow1.size
      go_roundw
      case rel => exact ⟨z + 1, by omega, by rw [← padZ_snoc, show s.size + 1 + (z + 1) = n + 1 from by have := HN.out; omega]; exact g1, g2, g3, Nat.le_trans hbp hsz⟩
      case measure =>
        have := hown1.lenV_eq
        have := HN.out
        show _ - lenV v1 < _ - n
        omega
end Go.Proofs.YtfhjnfocmlndpaaDoor
