/- Items in memory; trie.Right, trie.bit. -/
import Derived.Test.YtfhjnfocmlndpaaDoorGrown
import Derived.Test.YtfhjnfocmlndpaaDoorIndex
import Derived.Test.YtfhjnfocmlndpaaDoorMade
import Derived.WalkLawsBesides
namespace Go.Proofs.YtfhjnfocmlndpaaDoor
open Go Go.RowKit Go.Proofs

def It.cells (x : It) : List Value := [.string x.ix, .string x.cm]
def It.val (x : It) : Value := .agg #[.string x.ix, .string x.cm]
def icells (l : List It) : List Value := l.flatMap It.cells
theorem icells_length (l : List It) : (icells l).length = l.length * 2 := by
  induction l with
  | nil => rfl
  | cons x l ih => simp only [icells, List.flatMap_cons, List.length_append, List.length_cons] at ih ⊢; rw [ih]; simp [It.cells]; omega
theorem icells_app (a b : List It) : icells (a ++ b) = icells a ++ icells b := by simp [icells]
theorem icells_cons (x : It) (b : List It) : icells (x :: b) = x.cells ++ icells b := by simp [icells]
theorem icells_get {l : List It} {k : Nat} {x : It} (hk : l[k]? = some x) : (icells l)[2 * k]? = some (.string x.ix) ∧ (icells l)[2 * k + 1]? = some (.string x.cm) := by
  induction l generalizing k with
  | nil => simp at hk
  | cons y l ih =>
    cases k with
    | zero =>
      simp only [List.getElem?_cons_zero, Option.some.injEq] at hk
      subst hk
      exact ⟨rfl, rfl⟩
    | succ k =>
      simp only [List.getElem?_cons_succ] at hk
      have := ih hk
      have e : icells (y :: l) = [.string y.ix, .string y.cm] ++ icells l := rfl
      rw [e, show 2 * (k + 1) = 2 * k + 2 from by omega]
      refine ⟨?_, ?_⟩
      · rw [List.getElem?_append_right (by simp)]; simpa using this.1
      · rw [List.getElem?_append_right (by simp)]; simpa [show 2 * k + 2 + 1 - 2 = 2 * k + 1 from by omega] using this.2
theorem icells_drop (l : List It) (k : Nat) : icells (l.drop k) = (icells l).drop (k * 2) := by
  induction l generalizing k with
  | nil => simp [icells]
  | cons x l ih =>
    cases k with
    | zero => simp
    | succ k =>
      rw [List.drop_succ_cons, ih, icells_cons, show (k + 1) * 2 = x.cells.length + k * 2 by simp [It.cells]; omega, ← List.drop_drop, List.drop_left]
theorem icells_take (l : List It) (k : Nat) : icells (l.take k) = (icells l).take (k * 2) := by
  induction l generalizing k with
  | nil => simp [icells]
  | cons x l ih =>
    cases k with
    | zero => simp [icells]
    | succ k =>
      rw [List.take_succ_cons, icells_cons, ih, icells_cons, show (k + 1) * 2 = x.cells.length + k * 2 by simp [It.cells]; omega, List.take_length_add_append]
theorem icells_one (l : List It) : ∀ v ∈ icells l, v.oneCell' = true := by
  intro v hv
  obtain ⟨x, _, hx⟩ := List.mem_flatMap.1 hv
  simp only [It.cells, List.mem_cons, List.not_mem_nil, or_false] at hx
  rcases hx with rfl | rfl <;> rfl
/-- the slice v reads as the items l -/
structure IReads (w : World) (v : Value) (l : List It) : Prop where
  reads : Reads w v l.length 2 (icells l)
  room : ∀ a n c, v = .slice a n c → n ≤ c
theorem IReads.mono {w w' : World} {v : Value} {l : List It} (h : IReads w v l) (hb : Below w.heap.size w w') : IReads w' v l := ⟨Reads.mono h.reads hb, h.room⟩
theorem IReads.shape {w : World} {v : Value} {l : List It} (h : IReads w v l) : ∃ a cap, v = .slice a l.length cap ∧ l.length ≤ cap := by
  rcases h.reads.2 with ⟨_, a, c, rfl⟩ | ⟨b, off, cap, rfl, _⟩
  · exact ⟨a, c, rfl, h.room _ _ _ rfl⟩
  · exact ⟨_, cap, rfl, h.room _ _ _ rfl⟩
theorem IReads.at {w : World} {a : Option Addr} {n cap : Nat} {l : List It} (h : IReads w (.slice a n cap) l) {k : Nat} {x : It} (hk : l[k]? = some x) :
    ∃ b off, a = some ⟨b, off, none⟩ ∧ w.cell? ⟨b, off + k * 2, none⟩ = some (.string x.ix) ∧ w.cell? ⟨b, off + k * 2 + 1, none⟩ = some (.string x.cm) := by
  obtain ⟨h1, h2⟩ := icells_get hk
  rcases h.reads.2 with ⟨h0, _⟩ | ⟨b, off, cap', he, hc⟩
  · rw [h0] at h1; simp at h1
  · simp only [Value.slice.injEq] at he
    refine ⟨b, off, he.1, ?_, ?_⟩
    · rw [show off + k * 2 = off + 2 * k from by omega]; exact hc _ _ h1
    · rw [show off + k * 2 + 1 = off + (2 * k + 1) from by omega]; exact hc _ _ h2
theorem IReads.nil (w : World) (a : Option Addr) (c : Nat) : IReads w (.slice a 0 c) [] := ⟨⟨rfl, .inl ⟨rfl, a, c, rfl⟩⟩, fun _ _ _ h => by simp only [Value.slice.injEq] at h; omega⟩
theorem IReads.of_own {w : World} {base : Nat} {v : Value} {l : List It} (h : Own w base 49 2 v l.length (icells l)) : IReads w v l := ⟨Reads.of_own h, fun a n c e => by
  rcases h.shape with ⟨rfl, h0, _⟩ | ⟨g, cap, rfl, _, _, _, hn, _⟩
  · simp only [Value.slice.injEq] at e; omega
  · simp only [Value.slice.injEq] at e; omega⟩
theorem IReads.lit (w : World) (x : It) : IReads (w.alloc (.cells #[.string x.ix, .string x.cm] 49)) (.slice (some ⟨w.heap.size, 0, none⟩) 1 1) [x] := ⟨Reads.lit w 49 1 2 _ rfl, fun _ _ _ h => by simp only [Value.slice.injEq] at h; omega⟩
theorem IReads.take {w : World} {b off n cap k c : Nat} {l : List It} (h : IReads w (.slice (some ⟨b, off, none⟩) n cap) l) (hk : k ≤ l.length) (hc : k ≤ c) : IReads w (.slice (some ⟨b, off, none⟩) k c) (l.take k) := by
  refine ⟨?_, fun _ _ _ h => by simp only [Value.slice.injEq] at h; omega⟩
  rcases h.reads.2 with ⟨h0, _⟩ | ⟨b', off', cap', he, hc⟩
  · have : l = [] := by
      cases l with
      | nil => rfl
      | cons x l => simp [icells, It.cells] at h0
    subst this
    obtain rfl : k = 0 := by simpa using hk
    exact (IReads.nil w _ _).reads
  · simp only [Value.slice.injEq, Option.some.injEq, Addr.mk.injEq] at he
    obtain ⟨⟨rfl, rfl, -⟩, -, -⟩ := he
    have hlen : (l.take k).length = k := by simp; omega
    refine ⟨icells_length _, .inr ⟨b, off, c, by rw [hlen], fun j u hu => hc j u ?_⟩⟩
    rw [icells_take, List.getElem?_take] at hu
    split at hu
    · exact hu
    · cases hu
theorem IReads.drop {w : World} {b off n cap k m c : Nat} {l : List It} (h : IReads w (.slice (some ⟨b, off, none⟩) n cap) l) (hm : m = l.length - k) (hk : k ≤ l.length) (hc : m ≤ c) : IReads w (.slice (some ⟨b, off + k * 2, none⟩) m c) (l.drop k) := by
  subst hm
  refine ⟨?_, fun _ _ _ h => by simp only [Value.slice.injEq] at h; omega⟩
  rcases h.reads.2 with ⟨h0, _⟩ | ⟨b', off', cap', he, hc⟩
  · have : l = [] := by
      cases l with
      | nil => rfl
      | cons x l => simp [icells, It.cells] at h0
    subst this
    obtain rfl : k = 0 := by simpa using hk
    exact (IReads.nil w _ _).reads
  · simp only [Value.slice.injEq, Option.some.injEq, Addr.mk.injEq] at he
    obtain ⟨⟨rfl, rfl, -⟩, -, -⟩ := he
    refine ⟨icells_length _, .inr ⟨b, off + k * 2, c, by rw [List.length_drop], fun j u hu => ?_⟩⟩
    rw [icells_drop, List.getElem?_drop] at hu
    rw [show off + k * 2 + j = off + (k * 2 + j) by omega]
    exact hc _ _ hu
def BoolPost (b : Bool) (w : World) (e : Ending) (w' : World) : Prop := e = .returned (.bool b) ∧ Below w.heap.size w w'

theorem okAt_zero {l : List It} {x : It} (hx : l[0]? = some x) (h1 : x.ix.size = 16) (h2 : x.cm.size = 16) : okAt l 0 = true := by
  unfold okAt; rw [hx]; simp [okIt, h1, h2]
theorem okAt_succ {l : List It} {k : Nat} {x y : It} (hx : l[k + 1]? = some x) (hy : l[k]? = some y) (h1 : x.ix.size = 16) (h2 : x.cm.size = 16) : okAt l (k + 1) = ltB y.ix x.ix := by
  unfold okAt; rw [hx, Nat.add_sub_cancel, hy]; simp [okIt, h1, h2]
theorem okAt_bad {l : List It} {k : Nat} {x : It} (hx : l[k]? = some x) (h : ¬ (x.ix.size = 16 ∧ x.cm.size = 16)) : okAt l k = false := by
  unfold okAt; rw [hx]
  simp only [okIt, Bool.and_eq_false_iff, decide_eq_false_iff_not]
  left
  by_cases h1 : x.ix.size = 16
  · exact .inr (fun h2 => h ⟨h1, h2⟩)
  · exact .inl h1

set_option maxRecDepth 20000 in
set_option maxHeartbeats 4000000 in
theorem tright_any (v : Value) (l : List It) (w : World) (hv : IReads w v l) : Calls Tryd.prog 75 #[v] w (BoolPost (rightI l) w) := by
  obtain ⟨a, cap, rfl, -⟩ := hv.shape
  obtain ⟨n, hn⟩ : ∃ n, n = l.length := ⟨_, rfl⟩
  obtain ⟨R, hR⟩ : ∃ R, R = rightI l := ⟨_, rfl⟩
  rw [← hn, ← hR]
  have Hv := Lib.hid (hn ▸ hv : IReads w (.slice a n cap) l)
  have Hn := Lib.hid hn
  have HR := Lib.hid hR
  clear hn hv hR
  unfold BoolPost
  by_cases h60 : 60 < n
  · have e1 : (60 : Int) < n := by omega
    have hf : R = false := by rw [HR.out]; exact rightI_false_long (by have := Hn.out; omega)
    subst hf
    go_enter Tryd.func75, Tryd.ntmps75
    go_wp2_with fail
    go_ret
    exact ⟨rfl, Below.refl _ _⟩
  · have e1 : ¬ (60 : Int) < n := by omega
    go_enter Tryd.func75, Tryd.ntmps75
    go_wp2_with fail
    go_loopw [10] (fun i wr => ∃ k : Nat, k ≤ n ∧ i = .int .i64 k ∧ Below w.heap.size w wr ∧ ∀ j, j < k → okAt l j = true) (fun i _ => n - (intOf i).toNat)
    case atStart => exact ⟨0, Nat.zero_le _, rfl, Below.refl _ _, fun j hj => absurd hj (Nat.not_lt_zero _)⟩
    case round =>
      obtain ⟨k, hk, rfl, hBw, hall⟩ := hrel
      have HB := Lib.hid hBw
      have HA := Lib.hid hall
      clear hBw hall
      by_cases hlt : k < n
      · have hkl : k < l.length := by have := Hn.out; omega
        obtain ⟨x, hx⟩ : ∃ x, l[k]? = some x := ⟨l[k], List.getElem?_eq_getElem hkl⟩
        have HW : Hid (Below w.heap.size w (wr.alloc (.cells #[.string x.ix, .string x.cm] 49))) := HB.out.alloc HB.out.size _
        obtain ⟨b, off, rfl, c0, c1⟩ := (Hv.out.mono HB.out).at hx
        have hbl : b < wr.heap.size := World.block_lt_of_cell? wr ⟨b, _, none⟩ c0
        have HX := Lib.hid hx
        clear hx
        by_cases h1 : x.ix.size = 16
        · have f1 : (x.ix.size : Int) = 16 := by omega
          by_cases h2 : x.cm.size = 16
          · have f2 : (x.cm.size : Int) = 16 := by omega
            rcases k with _ | k
            · have ho := Lib.hid (okAt_zero HX.out h1 h2)
              rw [Nat.zero_mul, Nat.add_zero] at c0 c1
              clear h1 h2
              go_wp2_with fail
              go_quiet (fail)
              go_wp2_with fail
              go_roundw
              case rel => exact ⟨1, by omega, by go_num, belowN HW.out _, fun j hj => by rw [show j = 0 by omega]; exact ho.out⟩
              case measure => simp [intOf]; omega
            · obtain ⟨y, hy⟩ : ∃ y, l[k]? = some y := ⟨l[k], List.getElem?_eq_getElem (by omega)⟩
              obtain ⟨b', off', he, d0, d1⟩ := (Hv.out.mono HB.out).at hy
              simp only [Option.some.injEq, Addr.mk.injEq] at he
              obtain ⟨rfl, rfl, -⟩ := he
              have HY := Lib.hid (okAt_succ HX.out hy h1 h2)
              obtain ⟨m, hm⟩ : ∃ m, m = k + 1 := ⟨_, rfl⟩
              have i1 : IntKind.i64.wrap (((k + 1 : Nat) : Int) - 1) = k := by rw [IntWalk.i64_in _ (by omega)]; omega
              have i0 : (0 : Int) < ((k + 1 : Nat) : Int) := by omega
              have i00 : 0 < k + 1 := by omega
              rw [← hm] at i1 i0 i00 c0 c1 hlt ⊢
              have hkn : (k : Int) < n := by omega
              have hkn2 : k < n := by omega
              have HM := Lib.hid hm
              clear hm hy h1 h2
              unfold ltB at HY
              cases hb : Op.bytesLess y.ix.toList x.ix.toList with
              | true =>
                go_wp2_with fail
                go_quiet (fail)
                go_wp2_with fail
                go_roundw
                case rel => exact ⟨m + 1, by omega, by go_num, belowN HW.out _, fun j hj => by
                  rcases Nat.lt_or_ge j m with h3 | h3
                  · exact HA.out j (by have := HM.out; omega)
                  · rw [show j = k + 1 by have := HM.out; omega, HY.out, hb]⟩
                case measure => simp [intOf]; omega
              | false =>
                have hf : R = false := by rw [HR.out]; exact rightI_false_at hkl (by rw [HY.out, hb])
                subst hf
                go_wp2_with fail
                go_quiet (fail)
                go_wp2_with fail
                go_ret
                exact ⟨rfl, belowN HW.out _⟩
          · have f2 : ((x.cm.size : Int) == 16) = false := by rw [beq_eq_false_iff_ne]; omega
            have g2 : ((x.cm.size : Int) != 16) = true := by rw [bne_iff_ne]; omega
            have hf : R = false := by rw [HR.out]; exact rightI_false_at hkl (okAt_bad HX.out (fun h => h2 h.2))
            subst hf
            clear h1 h2
            go_wp2_with fail
            go_quiet (fail)
            go_wp2_with fail
            go_ret
            exact ⟨rfl, belowN HW.out _⟩
        · have f1 : ((x.ix.size : Int) == 16) = false := by rw [beq_eq_false_iff_ne]; omega
          have g1 : ((x.ix.size : Int) != 16) = true := by rw [bne_iff_ne]; omega
          have hf : R = false := by rw [HR.out]; exact rightI_false_at hkl (okAt_bad HX.out (fun h => h1 h.1))
          subst hf
          clear h1
          go_wp2_with fail
          go_quiet (fail)
          go_wp2_with fail
          go_ret
          exact ⟨rfl, belowN HW.out _⟩
      · have hd1 : decide (k < n) = false := decide_eq_false hlt
        have hf : R = true := by rw [HR.out]; exact rightI_true (by have := Hn.out; omega) (fun j hj => HA.out j (by have := Hn.out; omega))
        subst hf
        go_wp2_with fail
        go_ret
        exact ⟨rfl, HB.out⟩

theorem tbit_any (s : ByteArray) (k : Nat) (w : World) (hs : s.size = 16) (hk : k < 128) : Calls Tryd.prog 140 #[.string s, .int .i64 k] w fun e w' => e = .returned (.bool (decide (bitAt s k = 1))) ∧ w' = w := by
  obtain ⟨q, hq⟩ : ∃ q, q = k / 8 := ⟨_, rfl⟩
  obtain ⟨r, hr⟩ : ∃ r, r = k % 8 := ⟨_, rfl⟩
  obtain ⟨d, hd⟩ : ∃ d, d = 7 - r := ⟨_, rfl⟩
  have hq16 : q < s.size := by omega
  have f1 : (k : Int) / 8 = q := by omega
  have f2 : (k : Int) % 8 = r := by omega
  have f3 : IntKind.i64.wrap ((7 : Int) - r) = d := by rw [IntWalk.i64_in _ (by omega)]; omega
  have f7 : (q : Int) < s.size := by omega
  obtain ⟨c, hc⟩ : ∃ c, s[q] = c := ⟨_, rfl⟩
  have hbit : Hid (bitAt s k = c.toNat / 2 ^ d % 2) := by
    unfold Hid bitAt
    rw [← hq, ← hr, ← hd, List.getD_eq_getElem?_getD, List.getElem?_eq_getElem (by simpa using hq16)]
    rw [← hc]; rfl
  have hk2 : (k : Int) ≤ 127 := by omega
  have hd8 : d < 8 := by omega
  obtain ⟨x, hx⟩ : ∃ x, x = c.toNat / 2 ^ d := ⟨_, rfl⟩
  have hx2 : x < 256 := by rw [hx]; exact Nat.lt_of_le_of_lt (Nat.div_le_self _ _) c.toNat_lt
  have g1 : (c.toNat : Int) / 2 ^ d = (x : Int) := by rw [hx]; norm_cast
  rw [← hx] at hbit
  have g2 := and1_u8 x hx2
  rcases (by omega : x % 2 = 0 ∨ x % 2 = 1) with hb | hb
  · rw [hb] at g2
    have hD : decide (bitAt s k = 1) = false := decide_eq_false (by rw [hbit.out]; omega)
    rw [hD]
    have g3 : bits .and .u8 (x : Int) 1 = 0 := g2
    clear hq hr hd hk hs hx hb hbit g2 hD
    go_enter Tryd.func140, Tryd.ntmps140
    go_wp2_with fail
    go_ret
    exact ⟨rfl, rfl⟩
  · rw [hb] at g2
    have hD : decide (bitAt s k = 1) = true := decide_eq_true (by rw [hbit.out]; omega)
    rw [hD]
    have g3 : bits .and .u8 (x : Int) 1 = 1 := g2
    clear hq hr hd hk hs hx hb hbit g2 hD
    go_enter Tryd.func140, Tryd.ntmps140
    go_wp2_with fail
    go_ret
    exact ⟨rfl, rfl⟩
end Go.Proofs.YtfhjnfocmlndpaaDoor
