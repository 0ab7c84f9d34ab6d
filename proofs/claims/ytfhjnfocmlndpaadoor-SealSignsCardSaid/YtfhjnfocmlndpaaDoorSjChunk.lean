/- slices.Chunk over texts, two at a time, of an even number: the iterator's contract. -/
import Derived.RangeFuncNested
import Derived.RangeFuncBound
import Derived.RangeFuncCalls
import Derived.RangeFuncLeaves
import Derived.RangeFuncBox
import Derived.Shelf.Abstract
import Derived.Shelf.RegionOpen
import Derived.WalkKit
import Derived.OwnWalkIn
import Derived.TacticsInMore
import Derived.LoopNIn
import Derived.LoopIn
import Derived.Test.YtfhjnfocmlndpaaDoorSjMark
import Derived.Sort.QuietIn
namespace Go.Proofs.YtfhjnfocmlndpaaDoor
open Go Go.RowKit Go.Proofs Go.Shelf
attribute [local go_sem] Oper.semAt_some

/-- what has come when k rounds are over -/
def upto {α : Type} (f : Nat → α) (k : Nat) : List α := (List.range k).map f
theorem upto_succ {α : Type} (f : Nat → α) (k : Nat) : upto f (k + 1) = upto f k ++ [f k] := by simp [upto, List.range_succ]
theorem upto_length {α : Type} (f : Nat → α) (k : Nat) : (upto f k).length = k := by simp [upto]
/-- the j-th from the end, and its place -/
def fromEnd (zs : List ByteArray) (j : Nat) : Nat × ByteArray := (zs.length - 1 - j, zs[zs.length - 1 - j]?.getD ⟨#[]⟩)
/-- what a round keeps: what lay below n₀, and the box of the slice -/
def KpB (n₀ Bs : Nat) (W W' : World) : Prop := Below n₀ W W' ∧ W'.cell? ⟨Bs, 0, none⟩ = W.cell? ⟨Bs, 0, none⟩
theorem kpB_t {n₀ Bs : Nat} {A B C : World} (h : KpB n₀ Bs A B) (k : KpB n₀ Bs B C) : KpB n₀ Bs A C := ⟨h.1.trans k.1, k.2.trans h.2⟩
theorem kpB_b {n₀ Bs : Nat} {w : World} (hn : n₀ ≤ w.heap.size) (hB : Bs < w.heap.size) (W : World) (l : Nat) (o o' : Obj) (hl : w.heap.size ≤ l) (h : W.heap[l]? = some o) (hc : o.isCells = false) (hw : o.isWalk = false) : KpB n₀ Bs W (W.putObj l o') :=
  ⟨belowK_b hn W l o o' hl h hc hw, (belowK_b (n₀ := Bs + 1) (w := w) hB W l o o' hl h hc hw).cell (p := ⟨Bs, 0, none⟩) (Nat.lt_succ_self _)⟩
section
variable {α : Type} (en : α → Nat × ByteArray) (fe : Nat → α)

set_option maxRecDepth 100000 in
set_option maxHeartbeats 2000000 in
theorem back1_in (F : Fence) (n : Nat) (zs : List ByteArray) (hen : ∀ j, j < zs.length → en (fe j) = fromEnd zs j) (h8 : F.fn 149) (hro : F.round = none) (hn : 1 ≤ n) (l Bs n₀ b off cap : Nat) (hreach : zs.length ≤ 1000000) (hb : b < n₀) (J Jx : List α → World → Prop)
    (hY : ∀ pre x W, J pre W → pre.length < zs.length → YieldAt F (n - 1) Tryd.prog l #[.int .i64 ((en x).1 : Int), .string (en x).2] W fun e W' =>
      (e = .returned (.bool true) ∧ J (pre ++ [x]) W' ∧ KpB n₀ Bs W W') ∨ (e = .returned (.bool false) ∧ Jx (pre ++ [x]) W'))
    (W : World) (hBs : W.cell? ⟨Bs, 0, none⟩ = some (.slice (some ⟨b, off, none⟩) zs.length cap)) (hc : ∀ j, j < zs.length → W.cell? ⟨b, off + j, none⟩ = some (.string (zs[j]?.getD ⟨#[]⟩))) (h0 : J [] W) :
    CallsIn F n Tryd.prog 149 #[.func (.yield l) #[] #[], .pointer (some ⟨Bs, 0, none⟩)] W fun e W' => (∃ v, e = .returned v) ∧
      ((∃ ys, ys = upto fe zs.length ∧ J ys W') ∨ (∃ pre, (∃ k, k ≤ zs.length ∧ pre = upto fe k) ∧ Jx pre W')) := by
  obtain ⟨len, hlen⟩ : ∃ len, len = zs.length := ⟨_, rfl⟩
  have HF : Hid (∀ j, j < len → en (fe j) = (len - 1 - j, zs[len - 1 - j]?.getD ⟨#[]⟩)) := fun j hj => by rw [hen j (by omega), hlen]; rfl
  rw [← hlen] at hreach hY hBs hc ⊢
  clear hlen hen
  refine callsIn_of_wp Tryd.func149 rfl h8 ?_ hro
  simp only [Tryd.ntmps149, List.size_toArray, List.length_cons, List.length_nil, Nat.reduceAdd, Nat.reduceSub, Array.replicate_succ, Array.replicate_zero, List.push_toArray, List.append_toArray, List.nil_append, List.cons_append]
  gi_wp2
  gi_loopw [3] (fun i wr => ∃ k : Nat, k ≤ len ∧ i = .int .i64 ((len : Int) - 1 - k) ∧ J (upto fe k) wr ∧ KpB n₀ Bs W wr)
    (fun i _ => (intOf i + 1).toNat)
  case atStart =>
    refine ⟨0, Nat.zero_le _, ?_, h0, Below.refl _ _, rfl⟩
    congr 1
    first
      | omega
      | (rw [IntWalk.i64_in _ (by omega)]; omega)
      | (unfold wrap64; omega)
  case round =>
    obtain ⟨k, hk, rfl, hJs, hnx⟩ := hrel
    have hBs' : wr.cell? ⟨Bs, 0, none⟩ = some (.slice (some ⟨b, off, none⟩) len cap) := hnx.2.trans hBs
    by_cases hlt : k < len
    · obtain ⟨j, hj⟩ : ∃ j : Nat, j = len - 1 - k := ⟨_, rfl⟩
      have hjl : j < len := by omega
      have hji : (len : Int) - 1 - k = j := by omega
      rw [hji]
      have hcx : wr.cell? ⟨b, off + j, none⟩ = some (.string (zs[j]?.getD ⟨#[]⟩)) := (hnx.1.cell (p := ⟨b, off + j, none⟩) hb).trans (hc j hjl)
      have hfe : en (fe k) = (j, zs[j]?.getD ⟨#[]⟩) := by rw [HF.out k hlt, hj]
      obtain ⟨z, hz⟩ : ∃ z, z = zs[j]?.getD ⟨#[]⟩ := ⟨_, rfl⟩
      rw [← hz] at hcx hfe
      obtain ⟨fn, tmps, assign, body, hy, hR⟩ := hY _ (fe k) wr hJs (by rw [upto_length]; exact hlt)
      rw [hfe] at hy
      dsimp only at hy
      have hj0 : (0 : Int) ≤ j := by omega
      have hjl2 : (j : Int) < len := by omega
      have HJ := Lib.hid hji
      clear hji hj hz hfe
      gi_wp2
      refine hR.mono ?_
      rintro e W3 (⟨rfl, hJ3, hk3⟩ | ⟨rfl, hJx3⟩)
      · gi_wp2
        go_roundw
        case rel =>
          refine ⟨k + 1, by omega, ?_, by rw [upto_succ]; exact hJ3, kpB_t hnx hk3⟩
          have := HJ.out
          congr 1
          first
            | omega
            | (rw [IntWalk.i64_in _ (by omega)]; omega)
            | (unfold wrap64; omega)
        case measure => (have := HJ.out; simp [intOf] <;> first | omega | (unfold wrap64; omega))
      · gi_wp2
        refine bodyPost_ret (results_none rfl _ _ _) rfl ?_
        exact ⟨⟨_, rfl⟩, .inr ⟨_, ⟨k + 1, by omega, by rw [upto_succ]⟩, hJx3⟩⟩
    · obtain rfl : k = len := by omega
      have hneg : (k : Int) - 1 - k = -1 := by omega
      rw [hneg]
      gi_wp2
      go_end0
      exact ⟨⟨_, rfl⟩, .inl ⟨_, rfl, hJs⟩⟩
set_option maxRecDepth 100000 in
set_option maxHeartbeats 1000000 in
theorem back1_nil_in (F : Fence) (n : Nat) (h8 : F.fn 149) (hro : F.round = none) (l Bs cap : Nat) (a : Option Addr) (J : List α → World → Prop) (W : World) (hBs : W.cell? ⟨Bs, 0, none⟩ = some (.slice a 0 cap)) (h0 : J [] W) :
    CallsIn F n Tryd.prog 149 #[.func (.yield l) #[] #[], .pointer (some ⟨Bs, 0, none⟩)] W fun e W' => (∃ v, e = .returned v) ∧ J [] W' := by
  refine callsIn_of_wp Tryd.func149 rfl h8 ?_ hro
  simp only [Tryd.ntmps149, List.size_toArray, List.length_cons, List.length_nil, Nat.reduceAdd, Nat.reduceSub, Array.replicate_succ, Array.replicate_zero, List.push_toArray, List.append_toArray, List.nil_append, List.cons_append]
  gi_wp2
  gi_loopw [3] (fun i wr => i = .int .i64 (-1) ∧ J [] wr) (fun _ _ => 0)
  case atStart => exact ⟨rfl, h0⟩
  case round =>
    obtain ⟨rfl, hJs⟩ := hrel
    gi_wp2
    go_end0
    exact ⟨⟨_, rfl⟩, hJs⟩
set_option maxHeartbeats 1000000 in
theorem back_in (F : Fence) (n : Nat) (h6 : F.fn 114) (hro : F.round = none) (a : Option Addr) (len cap : Nat) (w : World) :
    CallsIn F n Tryd.prog 114 #[.slice a len cap] w fun e w' => e = .returned (.func (.func 149) #[] #[.pointer (some ⟨w.heap.size, 0, none⟩)]) ∧ w' = w.alloc (.cells #[.slice a len cap] 22) := by
  refine callsIn_of_wp Tryd.func114 rfl h6 ?_ hro
  simp only [Tryd.ntmps114, List.size_toArray, List.length_cons, List.length_nil, Nat.reduceAdd, Nat.reduceSub, Array.replicate_succ, Array.replicate_zero, List.push_toArray, List.append_toArray, List.nil_append, List.cons_append]
  gi_wp2
  go_ret
  exact ⟨rfl, rfl⟩
theorem back_stops (F : Fence) (n : Nat) (zs : List ByteArray) (hen : ∀ j, j < zs.length → en (fe j) = fromEnd zs j) (h8 : F.fn 149) (hro : F.round = none) (hn : 1 ≤ n) (Bs n₀ : Nat) (a : Option Addr) (cap : Nat) (hreach : zs.length ≤ 1000000) (w : World) (hBs : Bs < w.heap.size) (hn₀ : n₀ ≤ w.heap.size)
    (hc : w.cell? ⟨Bs, 0, none⟩ = some (.slice a zs.length cap)) (hI : Reads w (.slice a zs.length cap) zs.length 1 (zs.map Value.string)) (hIb : ∀ b off, a = some ⟨b, off, none⟩ → 0 < zs.length → b < n₀) :
    SeqStopsK F n Tryd.prog 149 #[.pointer (some ⟨Bs, 0, none⟩)] (fun x : α => #[Value.int .i64 ((en x).1 : Int), Value.string (en x).2]) (KpB n₀ Bs) (fun ys => ys = upto fe zs.length)
      (fun pre => ∃ k, k ≤ zs.length ∧ pre = upto fe k) zs.length w := fun l J Jx W hW _ _ hY h0 => by
  have hW2 : Below n₀ w W := hW.mono hn₀
  have hc' := (hW.cell (p := ⟨Bs, 0, none⟩) hBs).trans hc
  by_cases hz : zs.length = 0
  · obtain rfl : zs = [] := List.eq_nil_of_length_eq_zero hz
    exact (back1_nil_in F n h8 hro l Bs cap a J W hc' h0).mono fun e W' ⟨he, hj⟩ => ⟨he, .inl ⟨_, rfl, hj⟩⟩
  · rcases hI.2 with ⟨h1, _⟩ | ⟨b, off, cap', he, hcs⟩
    · exact absurd (by simpa using h1 : zs = []) (fun h => hz (by rw [h]; rfl))
    · simp only [Value.slice.injEq] at he
      obtain ⟨rfl, -, rfl⟩ := he
      have hb := hIb b off rfl (by omega)
      refine back1_in en fe F n _ hen h8 hro hn l Bs n₀ b off cap hreach hb J Jx hY W hc' (fun j hj => ?_) h0
      refine (hW2.cell (p := ⟨b, off + j, none⟩) hb).trans (hcs j _ ?_)
      rw [List.getElem?_map, List.getElem?_eq_getElem hj]; rfl
end
end Go.Proofs.YtfhjnfocmlndpaaDoor

namespace Go.Proofs.YtfhjnfocmlndpaaDoor
open Go Go.RowKit Go.Proofs Go.Shelf
attribute [local go_sem] Oper.semAt_some

/-- what a round keeps: what lay below n₀, and the two boxes -/
def KpC (n₀ Bs Bn : Nat) (W W' : World) : Prop := Below n₀ W W' ∧ W'.cell? ⟨Bs, 0, none⟩ = W.cell? ⟨Bs, 0, none⟩ ∧ W'.cell? ⟨Bn, 0, none⟩ = W.cell? ⟨Bn, 0, none⟩
theorem kpC_t {n₀ Bs Bn : Nat} {A B C : World} (h : KpC n₀ Bs Bn A B) (k : KpC n₀ Bs Bn B C) : KpC n₀ Bs Bn A C := ⟨h.1.trans k.1, k.2.1.trans h.2.1, k.2.2.trans h.2.2⟩
theorem kpC_b {n₀ Bs Bn : Nat} {w : World} (hn : n₀ ≤ w.heap.size) (hB : Bs < w.heap.size) (hN : Bn < w.heap.size) (W : World) (l : Nat) (o o' : Obj) (hl : w.heap.size ≤ l) (h : W.heap[l]? = some o) (hc : o.isCells = false) (hw : o.isWalk = false) : KpC n₀ Bs Bn W (W.putObj l o') :=
  ⟨belowK_b hn W l o o' hl h hc hw, (belowK_b (n₀ := Bs + 1) (w := w) hB W l o o' hl h hc hw).cell (p := ⟨Bs, 0, none⟩) (Nat.lt_succ_self _), (belowK_b (n₀ := Bn + 1) (w := w) hN W l o o' hl h hc hw).cell (p := ⟨Bn, 0, none⟩) (Nat.lt_succ_self _)⟩
section
variable {α : Type} (en : α → Nat) (fe : Nat → α)

set_option maxRecDepth 100000 in
set_option maxHeartbeats 4000000 in
theorem chunk1_in (n : Nat) (m : Nat) (hen : ∀ j, j < m → en (fe j) = j) (hn : 1 ≤ n) (l Bs Bn n₀ b off cap : Nat) (hm : m ≤ 1000) (hcap : 2 * m ≤ cap) (J Jx : List α → World → Prop) (B : Nat) (hA : AbidesFrom B J)
    (hY : ∀ pre x W, J pre W → pre.length < m → YieldAt Fence.wide (n - 1) Tryd.prog l #[.slice (some ⟨b, off + 2 * en x, none⟩) 2 2] W fun e W' =>
      (e = .returned (.bool true) ∧ J (pre ++ [x]) W' ∧ KpC n₀ Bs Bn W W') ∨ (e = .returned (.bool false) ∧ Jx (pre ++ [x]) W'))
    (W : World) (hBs : W.cell? ⟨Bs, 0, none⟩ = some (.slice (some ⟨b, off, none⟩) (2 * m) cap)) (hBn : W.cell? ⟨Bn, 0, none⟩ = some (.int .i64 2)) (h0 : J [] W) :
    CallsIn Fence.wide n Tryd.prog 156 #[.func (.yield l) #[] #[], .pointer (some ⟨Bs, 0, none⟩), .pointer (some ⟨Bn, 0, none⟩)] W fun e W' => (∃ v, e = .returned v) ∧
      ((∃ ys, ys = upto fe m ∧ J ys W') ∨ (∃ pre, (∃ k, k ≤ m ∧ pre = upto fe k) ∧ Jx pre W')) := by
  have HF := Lib.hid hen
  obtain ⟨len, hlen⟩ : ∃ len, len = 2 * m := ⟨_, rfl⟩
  rw [← hlen] at hBs hcap
  have HLen := Lib.hid hlen
  clear hlen hen
  refine callsIn_of_wp Tryd.func156 rfl trivial ?_ rfl
  simp only [Tryd.ntmps156, List.size_toArray, List.length_cons, List.length_nil, Nat.reduceAdd, Nat.reduceSub, Array.replicate_succ, Array.replicate_zero, List.push_toArray, List.append_toArray, List.nil_append, List.cons_append]
  gi_wp2
  gi_loopw [4] (fun i wr => ∃ k p : Nat, k ≤ m ∧ p = 2 * k ∧ i = .int .i64 (p : Int) ∧ J (upto fe k) wr ∧ KpC n₀ Bs Bn W wr)
    (fun i _ => len - (intOf i).toNat)
  case atStart => exact ⟨0, 0, Nat.zero_le _, rfl, rfl, h0, Below.refl _ _, rfl, rfl⟩
  case round =>
    obtain ⟨k, p, hk, hp, rfl, hJs, hnx⟩ := hrel
    have hBs' : wr.cell? ⟨Bs, 0, none⟩ = some (.slice (some ⟨b, off, none⟩) len cap) := hnx.2.1.trans hBs
    have hBn' : wr.cell? ⟨Bn, 0, none⟩ = some (.int .i64 2) := hnx.2.2.trans hBn
    have HP := Lib.hid hp
    by_cases hlt : p < len
    · have hkm : k < m := by have := HLen.out; omega
      have hfe : en (fe k) = k := HF.out k hkm
      have HY := Lib.hid (fun W (hJ : J (upto fe k) W) => hY _ (fe k) W hJ (by rw [upto_length]; exact hkm))
      rw [hfe, ← hp] at HY
      have q1 : (p : Int) < len := by omega
      have q0 : (0 : Int) ≤ p := by omega
      have q2 : (p : Int) ≤ cap := by omega
      have q3 : (p : Int) ≤ len := by omega
      have q4 : ¬ cap = p := by omega
      have q5 : IntKind.i64.wrap ((p : Int) + 2) = ((p + 2 : Nat) : Int) := by rw [IntWalk.i64_in _ (by have := HLen.out; omega)]; rfl
      have q6 : (2 : Int) ≤ ((len - p : Nat) : Int) := by have := HLen.out; omega
      have q7 : ((p + 2 : Nat) : Int) ≤ cap := by have := HLen.out; omega
      have q8 : 2 ≤ len - p := by have := HLen.out; omega
      clear hp hfe
      gi_wp2
      gi_quiet (fail)
      have hJd : J (upto fe k) (wr.drewN nq) := hA _ wr _ none hJs ⟨rfl, rfl, rfl, Nat.le_refl _, fun _ _ _ => rfl⟩ (fun r h => by cases h)
      obtain ⟨fn, tmps, assign, body, hy, hR⟩ := HY.out _ hJd
      gi_wp2
      refine hR.mono ?_
      rintro e W3 (⟨rfl, hJ3, hk3⟩ | ⟨rfl, hJx3⟩)
      · have r1 := hk3.2.2.trans hBn'
        have r0 := hk3.2.1.trans hBs'
        gi_wp2
        go_roundw
        case rel => exact ⟨k + 1, p + 2, by omega, by have := HP.out; omega, by first | rfl | (congr 1), by rw [upto_succ]; exact hJ3, kpC_t hnx ⟨(belowN (Below.refl n₀ wr) nq).trans hk3.1, hk3.2.1, hk3.2.2⟩⟩
        case measure => (simp [intOf] <;> omega)
      · gi_wp2
        refine bodyPost_ret (results_none rfl _ _ _) rfl ?_
        exact ⟨⟨_, rfl⟩, .inr ⟨_, ⟨k + 1, by omega, by rw [upto_succ]⟩, hJx3⟩⟩
    · have q1 : ¬ (p : Int) < len := by omega
      have hkm : k = m := by have := HLen.out; have := HP.out; omega
      gi_wp2
      go_end0
      exact ⟨⟨_, rfl⟩, .inl (by first | (rw [← hkm]; exact hJs) | exact ⟨upto fe m, rfl, by rw [← hkm]; exact hJs⟩)⟩
set_option maxHeartbeats 1000000 in
theorem chunk_in (n : Nat) (a : Option Addr) (len cap : Nat) (w : World) :
    CallsIn Fence.wide n Tryd.prog 130 #[.slice a len cap, .int .i64 2] w fun e w' => e = .returned (.func (.func 156) #[] #[.pointer (some ⟨w.heap.size, 0, none⟩), .pointer (some ⟨w.heap.size + 1, 0, none⟩)]) ∧ w' = (w.alloc (.cells #[.slice a len cap] 22)).alloc (.cells #[.int .i64 2] 3) := by
  refine callsIn_of_wp Tryd.func130 rfl trivial ?_ rfl
  simp only [Tryd.ntmps130, List.size_toArray, List.length_cons, List.length_nil, Nat.reduceAdd, Nat.reduceSub, Array.replicate_succ, Array.replicate_zero, List.push_toArray, List.append_toArray, List.nil_append, List.cons_append]
  gi_wp2
  go_ret
  exact ⟨rfl, rfl⟩
theorem chunk_stops (n : Nat) (m : Nat) (hen : ∀ j, j < m → en (fe j) = j) (hn : 1 ≤ n) (Bs Bn n₀ b off cap : Nat) (hm : m ≤ 1000) (hcap : 2 * m ≤ cap) (w : World) (hBs : Bs < w.heap.size) (hBn : Bn < w.heap.size) (hn₀ : n₀ ≤ w.heap.size)
    (hc : w.cell? ⟨Bs, 0, none⟩ = some (.slice (some ⟨b, off, none⟩) (2 * m) cap)) (hd : w.cell? ⟨Bn, 0, none⟩ = some (.int .i64 2)) :
    SeqStopsK Fence.wide n Tryd.prog 156 #[.pointer (some ⟨Bs, 0, none⟩), .pointer (some ⟨Bn, 0, none⟩)] (fun x : α => #[Value.slice (some ⟨b, off + 2 * en x, none⟩) 2 2]) (KpC n₀ Bs Bn) (fun ys => ys = upto fe m)
      (fun pre => ∃ k, k ≤ m ∧ pre = upto fe k) m w := fun l J Jx W hW hA _ hY h0 =>
  chunk1_in en fe n m hen hn l Bs Bn n₀ b off cap hm hcap J Jx W.heap.size hA hY W ((hW.cell (p := ⟨Bs, 0, none⟩) hBs).trans hc) ((hW.cell (p := ⟨Bn, 0, none⟩) hBn).trans hd) h0
end
end Go.Proofs.YtfhjnfocmlndpaaDoor
