/- The program's sum.Sum, Num, Hex, Mark: what they compute is sumS, numS, hexS, markS. -/
import Derived.Test.YtfhjnfocmlndpaaDoorSjBlock
import Derived.Test.YtfhjnfocmlndpaaDoorSjOwn
import Derived.Deep.Cut
namespace Go.Proofs.YtfhjnfocmlndpaaDoor
open Go Go.RowKit Go.Proofs

theorem u_u8 : Tryd.prog.underlying 5 = some (.int .u8) := by kernel_rfl
theorem u_bytes : Tryd.prog.underlying 145 = some (.slice 5) := by kernel_rfl
theorem u_str : Tryd.prog.underlying 9 = some .string := by kernel_rfl
theorem i_u8 : (Tryd.prog.info? 5).map (fun i => (i.zero, i.size, i.bytes)) = some (some (.int .u8 0), 1, 1) := by kernel_rfl

def padZ (s : ByteArray) (z : Nat) : List UInt8 := s.data.toList ++ [0x80] ++ List.replicate z 0
def padN (s : ByteArray) (k : Nat) : List UInt8 := padZ s (zerosFor (s.size + 1)) ++ (be64 (s.size * 8)).take k
theorem padZ_snoc (s : ByteArray) (z : Nat) : padZ s z ++ [0] = padZ s (z + 1) := by
  unfold padZ; rw [List.append_assoc (s.data.toList ++ [0x80]), ← List.replicate_succ']
theorem padN_all (s : ByteArray) : padN s 8 = pad s.data.toList := by
  unfold padN padZ pad
  rw [List.take_of_length_le (by rw [be64_length]; exact Nat.le_refl _)]
  rfl
theorem padN_snoc (s : ByteArray) (k : Nat) (hk : k < 8) : padN s k ++ [UInt8.ofNat (s.size * 8 / 256 ^ (7 - k))] = padN s (k + 1) := by
  unfold padN
  rw [List.append_assoc]
  congr 1
  have h : k < (be64 (s.size * 8)).length := by rw [be64_length]; exact hk
  rw [List.take_succ_eq_append_getElem h]
  simp [be64]
theorem be_byte (N d : Nat) : ((N : Int) / 2 ^ (8 * d) % 256) = ((UInt8.ofNat (N / 256 ^ d)).toNat : Int) := by
  rw [UInt8.toNat_ofNat', show (2 : Int) ^ (8 * d) = ((256 ^ d : Nat) : Int) from by rw [Int.natCast_pow, Int.pow_mul]; rfl]
  simp only [Int.natCast_emod, Int.natCast_ediv]
  rfl
theorem index8 (x0 x1 x2 x3 x4 x5 x6 x7 : W32) (q : Nat) (hq : q < 8) (W : World) :
    (Instr.index 137 (.agg #[.int .u32 (iv x0), .int .u32 (iv x1), .int .u32 (iv x2), .int .u32 (iv x3), .int .u32 (iv x4), .int .u32 (iv x5), .int .u32 (iv x6), .int .u32 (iv x7)]) (.int .i64 (q : Int))).run Tryd.prog W =
      .ok (.int .u32 (iv ([x0, x1, x2, x3, x4, x5, x6, x7].getD q 0))) W := by
  rcases (by omega : q = 0 ∨ q = 1 ∨ q = 2 ∨ q = 3 ∨ q = 4 ∨ q = 5 ∨ q = 6 ∨ q = 7) with rfl | rfl | rfl | rfl | rfl | rfl | rfl | rfl
  · kernel_rfl
  · kernel_rfl
  · kernel_rfl
  · kernel_rfl
  · kernel_rfl
  · kernel_rfl
  · kernel_rfl
  · kernel_rfl
theorem flat_snoc (l : List W32) (q : Nat) (y : W32) (hq : q < l.length) (hy : l.getD q 0 = y) : ((l.take (q + 1)).flatMap be32) = (l.take q).flatMap be32 ++ be32 y := by
  rw [List.take_succ_eq_append_getElem hq, List.flatMap_append, List.flatMap_singleton]
  rw [List.getD_eq_getElem?_getD, List.getElem?_eq_getElem hq] at hy
  rw [← hy]; rfl
/-- one more byte -/
theorem pad_step {w w' w0 : World} {bp b n : Nat} {v v' : Value} {l : List UInt8} {T : TypeId} {hs : List W32} (c : UInt8) (hH : U32At w b T hs) (hlt : b < bp) (hB0 : Below w0.heap.size w0 w) (h0 : w0.heap.size ≤ bp)
    (hP : Own w bp 5 1 v n (u8c l)) (ho : Own w' bp 5 1 v' (n + 1) (u8c l ++ [.int .u8 (c.toNat : Int)])) (hg : w.grownBy w' v.ownBlock) :
    Own w' bp 5 1 v' (n + 1) (u8c (l ++ [c])) ∧ U32At w' b T hs ∧ Below w0.heap.size w0 w' := by
  have hrow : ∀ k, v.ownBlock = some k → bp ≤ k := fun k hk => (hP.lt k hk).1
  refine ⟨?_, hH.grown hg (fun e => ?_), hB0.grown hg hB0.size (fun k hk => Nat.le_trans h0 (hrow k hk))⟩
  · have : u8c (l ++ [c]) = u8c l ++ [.int .u8 (c.toNat : Int)] := by simp [u8c, u8v]
    rw [this]; exact ho
  · have := hrow b e.symm; omega

set_option maxRecDepth 100000 in
set_option maxHeartbeats 2000000 in
theorem sum_any (s : ByteArray) (hs : s.size ≤ 1000000000) (w : World) (hr : KAt w 0) :
    Calls Tryd.prog 15 #[.string s] w fun e w' => e = .returned (.string (sumS s)) ∧ Below w.heap.size w w' := by
  have Hr := Lib.hid hr
  have hcv : ∀ W : World, (convert 9 145 (.string s)).run Tryd.prog W = .ok (.slice (some ⟨W.heap.size, 0, none⟩) s.size (grownCap W s.size 0 5)) (Lib.bytesWorld W 5 s) :=
    fun W => Lib.run_convert_string_bytes W _ _ _ s u_str u_bytes u_u8
  clear hr
  go_enter Tryd.func15, Tryd.ntmps15
  go_upto_region 2 with fail
  generalize hW0 : w.alloc _ = W0
  have hH : U32At W0 w.heap.size 137 H0 := by rw [← hW0]; exact (heap_alloc_new w _).trans (by kernel_rfl)
  have hB0 : Below w.heap.size w W0 := by rw [← hW0]; exact (Below.refl _ _).alloc (Nat.le_refl _) _
  have hz0 : W0.heap.size = w.heap.size + 1 := by rw [← hW0]; simp
  clear hW0
  have hP := bytes_of_string W0 s W0.heap.size (by omega) (Nat.le_refl _)
  have hB1 := hB0.trans ((bytesWorld_below W0 5 s).mono (by omega))
  have hH1 := hH.below (bytesWorld_below W0 5 s) hH.lt
  have hz1 := Lib.bytesWorld_size W0 5 s
  have HH := Lib.hid hH
  have HB0 := Lib.hid hB0
  have Hz0 := Lib.hid hz0
  have HP := Lib.hid hP
  have HB1 := Lib.hid hB1
  have HH1 := Lib.hid hH1
  have Hz1 := Lib.hid hz1
  clear hH hB0 hz0 hP hB1 hH1 hz1
  go_upto_region 3 with fail
  clear hcv
  generalize Lib.bytesWorld W0 5 s = W1 at *
  generalize grownCap W0 s.size 0 5 = cap0 at *
  have HP0 : Hid (Own W1 W0.heap.size 5 1 (.slice (some ⟨W0.heap.size, 0, none⟩) s.size cap0) s.size (u8c s.data.toList)) := HP.out
  have hbase : W0.heap.size ≤ W1.heap.size := by have := Hz1.out; omega
  have hlt0 : w.heap.size < W0.heap.size := by have := Hz0.out; omega
  clear HP Hz0 Hz1 HH HB0
  generalize W0.heap.size = bp at *
  go_wp2_with (first | (at_builtin; refine app_lit rfl _ _ 145 rfl bp 5 (.int .u8 0) 1 1 u_bytes i_u8 rfl (by decide) _ _ _ rfl HP0.out 1 _ rfl rfl (by intro u hu; simp at hu; subst hu; rfl) (by omega) (by omega) hbase ?_; intro v1 w1 hown1 hgrow1))
  obtain ⟨g1, g2, g3⟩ := pad_step 128 HH1.out hlt0 HB1.out (Nat.le_of_lt hlt0) HP0.out hown1 hgrow1
  have G1 := Lib.hid g1
  have G2 := Lib.hid g2
  have G3 := Lib.hid g3
  have HB1s : Hid (bp ≤ w1.heap.size) := Nat.le_trans hbase hgrow1.size
  clear g1 g2 g3 hown1 hgrow1 HP0 HB1 HH1 hbase
  go_loopw [4] (fun v wr => ∃ z : Nat, z ≤ zerosFor (s.size + 1) ∧ Own wr bp 5 1 v (s.size + 1 + z) (u8c (padZ s z)) ∧ U32At wr w.heap.size 137 H0 ∧ Below w.heap.size w wr ∧ bp ≤ wr.heap.size) (fun v _ => s.size + 1000 - lenV v)
  case atStart => exact ⟨0, Nat.zero_le _, by rw [padZ, List.replicate_zero, List.append_nil]; exact G1.out, G2.out, G3.out, HB1s.out⟩
  case round =>
    clear G1 G2 G3 HB1s
    obtain ⟨z, hz, hP, hH, hB, hbp⟩ := hrel
    have hz63 : zerosFor (s.size + 1) < 64 := Nat.mod_lt _ (by decide)
    have HP := Lib.hid hP
    have HH := Lib.hid hH
    have HB := Lib.hid hB
    obtain ⟨n, hn⟩ : ∃ n, n = s.size + 1 + z := ⟨_, rfl⟩
    rw [← hn] at HP
    rcases HP.out.shape with ⟨rfl, hn0, _⟩ | ⟨g, cap, rfl, hob, hg1, hg2, hnc, hcm⟩
    · omega
    have hn1 : n ≤ 1000000100 := by omega
    clear hP hH hB
    have HN := Lib.hid hn
    clear hn hob hcm
    by_cases hm : n % 64 = 56
    · have t1 : ((n : Int) % 64 != 56) = false := by rw [bne_eq_false_iff_eq]; omega
      have t2 : ((n : Int) % 64 == 56) = true := by rw [beq_iff_eq]; omega
      have HM := Lib.hid hm
      clear hm
      have hzz : Hid (z = zerosFor (s.size + 1)) := by unfold Hid; have := HN.out; have := HM.out; unfold zerosFor at hz ⊢; omega
      have HP0 : Hid (Own wr bp 5 1 (.slice (some ⟨g, 0, none⟩) n cap) n (u8c (padN s 0))) := by
        unfold Hid padN; rw [List.take_zero, List.append_nil, ← hzz.out]; exact HP.out
      obtain ⟨wo, rfl⟩ : ∃ wo, wo = wr := ⟨_, rfl⟩
      go_wp2_with fail
      go_loopw [4, 6] (fun v i wr => ∃ k : Nat, k ≤ 8 ∧ i = .int .i64 (7 - (k : Int)) ∧ Own wr bp 5 1 v (n + k) (u8c (padN s k)) ∧ U32At wr w.heap.size 137 H0 ∧ Below w.heap.size w wr ∧ bp ≤ wr.heap.size) (fun _ i _ => (intOf i + 1).toNat)
      case atStart => exact ⟨0, by omega, rfl, HP0.out, HH.out, HB.out, hbp⟩
      case round =>
        clear HP HH HB hbp HP0 hg1 hg2 hnc t1 t2
        obtain ⟨k, hk, rfl, hP, hH, hB, hbp⟩ := hrel
        have HP := Lib.hid hP
        have HH := Lib.hid hH
        have HB := Lib.hid hB
        clear hP hH hB
        by_cases hlt : k < 8
        · obtain ⟨d, hd⟩ : ∃ d : Nat, (7 : Int) - k = d := ⟨7 - k, by omega⟩
          rw [hd]
          have hd7 : d < 8 := by omega
          have a1 : IntKind.i64.wrap (8 * (d : Int)) = 8 * d := IntWalk.i64_in _ (by omega)
          have a2 : (0 : Int) ≤ 8 * d := by omega
          have a3 : (8 * (d : Int)).toNat = 8 * d := by omega
          have HD := Lib.hid hd
          clear hd
          go_wp2_with (first | (at_builtin; refine app_lit rfl _ _ 145 rfl bp 5 (.int .u8 0) 1 1 u_bytes i_u8 rfl (by decide) _ _ _ rfl HP.out 1 _ rfl rfl (by intro u hu; simp at hu; subst hu; rfl) (by omega) (by omega) hbp ?_; intro v1 w1 hown1 hgrow1))
          have hsz := hgrow1.size
          rw [show (s.size : Int) * 8 = ((s.size * 8 : Nat) : Int) from by omega, be_byte] at hown1
          obtain ⟨g1, g2, g3⟩ := pad_step _ HH.out hlt0 HB.out (Nat.le_of_lt hlt0) HP.out hown1 hgrow1
          have hdk : d = 7 - k := by have := HD.out; omega
          rw [hdk, padN_snoc _ _ hlt] at g1
          go_roundw
          case rel => exact ⟨k + 1, by omega, by have := HD.out; congr 1; omega, g1, g2, g3, Nat.le_trans hbp hsz⟩
          case measure => simp [intOf] <;> omega
        · have hk8 : Hid (k = 8) := by unfold Hid; omega
          have hneg : (7 : Int) - k < 0 := by omega
          have hd1 : decide ((k : Int) ≤ 7) = false := decide_eq_false (by omega)
          obtain ⟨L, hL⟩ : ∃ L, L = n + k := ⟨_, rfl⟩
          rw [← hL] at HP
          have HP8 : Hid (Own wr bp 5 1 u4 L (u8c (pad s.data.toList))) := by unfold Hid; rw [← padN_all, ← hk8.out]; exact HP.out
          rcases HP8.out.shape with ⟨rfl, hn0, _⟩ | ⟨g, cap, rfl, hob, hg1, hg2, hnc, hcm⟩
          · omega
          have hLl : Hid ((pad s.data.toList).length = L) := by unfold Hid; have := HP8.out.1; simpa [u8c] using this
          have hL64 : Hid (L % 64 = 0) := by unfold Hid; rw [← hLl.out]; exact pad_64 _
          have hLs : L ≤ 1000000300 := by omega
          have HL := Lib.hid hL
          obtain ⟨wo, rfl⟩ : ∃ wo, wo = wr := ⟨_, rfl⟩
          clear HP hL hlt hk hob hcm
          have HP9 : Hid (Own wo bp 5 1 (.slice (some ⟨g, 0, none⟩) L cap) L (u8c (pad s.data.toList))) := HP8.out
          have hgb : g ≠ w.heap.size := by omega
          have hrn : w.heap.size ≠ 0 := by have := Hr.out.lt; omega
          have hrlt : Hid (0 < w.heap.size) := Hr.out.lt
          go_wp2_with fail
          go_loopw [7] (fun i wr => ∃ q j : Nat, j = 64 * q ∧ j ≤ L ∧ i = .int .i64 j ∧ U32At wr w.heap.size 137 (blks K0 H0 (pad s.data.toList) q) ∧ Own wr bp 5 1 (.slice (some ⟨g, 0, none⟩) L cap) L (u8c (pad s.data.toList)) ∧ Below w.heap.size w wr) (fun i _ => L - (intOf i).toNat)
          case atStart => exact ⟨0, 0, rfl, Nat.zero_le _, rfl, HH.out, HP9.out, HB.out⟩
          case round =>
            clear HP8 HP9 HH HB hbp hg2 hneg
            obtain ⟨q, j, hj, hjL, rfl, hH, hP, hB⟩ := hrel
            have HJ := Lib.hid hj
            have HH := Lib.hid hH
            have HP := Lib.hid hP
            have HB := Lib.hid hB
            clear hj hH hP hB
            have hLq := hL64.out
            by_cases hlt : j < L
            · have hj64 : j + 64 ≤ L := by have := HJ.out; omega
              clear hLq
              have hw1 : j + 64 ≤ cap := by omega
              have hw2 : ¬ cap = j := by omega
              have hcv := string_of_window (P := Tryd.prog) 145 5 u_bytes u_u8 HP.out j 64 (cap - j) (by rw [hLl.out]; exact hj64) 9 u_str
              have a1 : IntKind.i64.wrap ((j : Int) + 64) = j + 64 := IntWalk.i64_in _ (by omega)
              have a2 : ((j : Int) + 64).toNat = j + 64 := by omega
              have a3 : (j : Int) + 64 ≤ cap := by omega
              have a4 : (j : Int) ≤ j + 64 := by omega
              have a5 : (0 : Int) ≤ (j : Int) + 64 := by omega
              have a6 : j + 64 - j = 64 := by omega
              have HC := Lib.hid (block_any (blks K0 H0 (pad s.data.toList) q) (blks_length _ _ rfl _ _) ⟨(((pad s.data.toList).drop j).take 64).toArray⟩ (by show (((pad s.data.toList).drop j).take 64).toArray.size = 64; rw [List.size_toArray, List.length_take, List.length_drop, hLl.out]; omega) wr w.heap.size HH.out (Hr.out.below HB.out hrlt.out) hrn)
              go_wp2_with (go_at_call 95; refine HC.out.mono ?_; rintro e w1 ⟨rfl, hH1, hg1⟩)
              go_roundw
              case rel =>
                refine ⟨q + 1, j + 64, by have := HJ.out; omega, hj64, by go_num, ?_, HP.out.kept hg1 (Or.inr (by simp only [Value.ownBlock]; intro e; exact hgb (Option.some.inj e))), HB.out.trans ?_⟩
                · have e : j = 64 * q := HJ.out
                  rw [e] at hH1
                  exact hH1
                · exact ⟨hg1.os, hg1.tape, hg1.output, hg1.size, fun i hi => hg1.block i (by have := HB.out.size; omega) (by simp; omega)⟩
              case measure => simp [intOf]; omega
            · have hge : L ≤ j := by omega
              have hd2 : decide (j < L) = false := decide_eq_false (by omega)
              obtain ⟨Hf, hHf⟩ : ∃ l, l = blks K0 H0 (pad s.data.toList) ((pad s.data.toList).length / 64) := ⟨_, rfl⟩
              have HF : Hid (U32At wr w.heap.size 137 Hf) := by
                unfold Hid
                have e : q = (pad s.data.toList).length / 64 := by rw [hLl.out]; have := HJ.out; omega
                rw [hHf, ← e]; exact HH.out
              obtain ⟨x0, x1, x2, x3, x4, x5, x6, x7, hx⟩ := len8 Hf (by rw [hHf]; exact blks_length _ _ rfl _ _)
              have hv := HF.out
              rw [hx] at hv
              have v0 : wr.cell? ⟨w.heap.size, 0, none⟩ = some (.int .u32 (iv x0)) := hv.cell 0 (by simp)
              have v1 : wr.cell? ⟨w.heap.size, 1, none⟩ = some (.int .u32 (iv x1)) := hv.cell 1 (by simp)
              have v2 : wr.cell? ⟨w.heap.size, 2, none⟩ = some (.int .u32 (iv x2)) := hv.cell 2 (by simp)
              have v3 : wr.cell? ⟨w.heap.size, 3, none⟩ = some (.int .u32 (iv x3)) := hv.cell 3 (by simp)
              have v4 : wr.cell? ⟨w.heap.size, 4, none⟩ = some (.int .u32 (iv x4)) := hv.cell 4 (by simp)
              have v5 : wr.cell? ⟨w.heap.size, 5, none⟩ = some (.int .u32 (iv x5)) := hv.cell 5 (by simp)
              have v6 : wr.cell? ⟨w.heap.size, 6, none⟩ = some (.int .u32 (iv x6)) := hv.cell 6 (by simp)
              have v7 : wr.cell? ⟨w.heap.size, 7, none⟩ = some (.int .u32 (iv x7)) := hv.cell 7 (by simp)
              have HX := Lib.hid hx
              have HHf := Lib.hid hHf
              clear hv hx hHf hLq hlt HH
              go_wp2_with fail
              clear v0 v1 v2 v3 v4 v5 v6 v7
              have HBx := Lib.hid HB.out
              go_loopw [8, 54] (fun v i wr => ∃ q : Nat, q ≤ 8 ∧ i = .int .i64 q ∧ Own wr w.heap.size 5 1 v (4 * q) (u8c ((Hf.take q).flatMap be32)) ∧ Below w.heap.size w wr) (fun _ i _ => 8 - (intOf i).toNat)
              case atStart => exact ⟨0, by omega, rfl, Own.nil _ _ _ _, HB.out⟩
              case round =>
                clear HB HBx HP HF hge hjL
                obtain ⟨q, hq, rfl, hO, hB⟩ := hrel
                have HO := Lib.hid hO
                have HB := Lib.hid hB
                clear hO
                have hbw := hB.size
                clear hB
                by_cases hlt : q < 8
                · obtain ⟨y, hy⟩ : ∃ y, [x0, x1, x2, x3, x4, x5, x6, x7].getD q 0 = y := ⟨_, rfl⟩
                  have hidx := index8 x0 x1 x2 x3 x4 x5 x6 x7 q hlt
                  rw [hy] at hidx
                  rw [← HX.out] at hy
                  have HY := Lib.hid hy
                  clear hy
                  go_wp2_with (first | (at_builtin; refine app_lit rfl _ _ 145 rfl w.heap.size 5 (.int .u8 0) 1 1 u_bytes i_u8 rfl (by decide) _ _ _ rfl HO.out 4 _ rfl rfl (by intro u hu; simp at hu; rcases hu with rfl | rfl | rfl | rfl <;> rfl) (by omega) (by omega) hbw ?_; intro v1 w1 hown1 hgrow1))
                  have hrow : ∀ k, u8.ownBlock = some k → w.heap.size ≤ k := fun k hk => (HO.out.lt k hk).1
                  go_roundw
                  case rel =>
                    refine ⟨q + 1, by omega, by go_num, ?_, HB.out.grown hgrow1 hbw hrow⟩
                    rw [flat_snoc Hf q y (by rw [HX.out]; exact hlt) HY.out, be32_lo, u8c, List.map_append]
                    exact hown1
                  case measure => simp [intOf]; omega
                · have hge : 8 ≤ q := by omega
                  have hfin : (⟨((Hf.take q).flatMap be32).toArray⟩ : ByteArray) = sumS s := by
                    rw [List.take_of_length_le (by rw [HX.out]; exact hge), HHf.out]; rfl
                  have HFin := Lib.hid hfin
                  have hl : ((Hf.take q).flatMap be32).length = 4 * q := by
                    have := HO.out.1; simpa [u8c] using this
                  have hcv := string_of_bytes (P := Tryd.prog) 145 5 u_bytes u_u8 (base := w.heap.size) (l := (Hf.take q).flatMap be32) (w := wr) (v := u8) (by unfold Bytes8; rw [hl]; exact HO.out) 9 u_str
                  clear hfin hl hlt
                  go_wp2_with fail
                  go_ret
                  exact ⟨congrArg (fun b => Ending.returned (.string b)) HFin.out, HB.out⟩
    · have t1 : ((n : Int) % 64 != 56) = true := by rw [bne_iff_ne]; omega
      have t2 : ((n : Int) % 64 == 56) = false := by rw [beq_eq_false_iff_ne]; omega
      have hzl : z < zerosFor (s.size + 1) := by have := HN.out; unfold zerosFor at hz ⊢; omega
      have HM := Lib.hid hm
      clear hm
      go_wp2_with (first | (at_builtin; refine app_lit rfl _ _ 145 rfl bp 5 (.int .u8 0) 1 1 u_bytes i_u8 rfl (by decide) _ _ _ rfl HP.out 1 _ rfl rfl (by intro u hu; simp at hu; subst hu; rfl) (by omega) (by omega) hbp ?_; intro v1 w1 hown1 hgrow1))
      obtain ⟨g1, g2, g3⟩ := pad_step 0 HH.out hlt0 HB.out (Nat.le_of_lt hlt0) HP.out hown1 hgrow1
      have hsz := hgrow1.size
      go_roundw
      case rel => exact ⟨z + 1, by omega, by rw [← padZ_snoc, show s.size + 1 + (z + 1) = n + 1 from by have := HN.out; omega]; exact g1, g2, g3, Nat.le_trans hbp hsz⟩
      case measure =>
        have := hown1.lenV_eq
        have := HN.out
        show _ - lenV v1 < _ - n
        omega
end Go.Proofs.YtfhjnfocmlndpaaDoor
