/- The library's FormatInt at base 16 of a byte above 256, and both Hex: what they compute is hexS. -/
import Derived.Test.YtfhjnfocmlndpaaDoorSjMark
import Derived.Test.YtfhjnfocmlndpaaDoorSjQuiet
import Derived.Deep.RegionWith
namespace Go.Proofs.YtfhjnfocmlndpaaDoor
open Go Go.RowKit Go.Proofs

/-- a half byte's digit -/
def hexD (d : Nat) : UInt8 := if d < 10 then UInt8.ofNat (48 + d) else UInt8.ofNat (87 + d)
def hexL (s : List UInt8) : List UInt8 := s.flatMap fun c => [hexD (c.toNat / 16), hexD (c.toNat % 16)]
def hexS (s : ByteArray) : ByteArray := ⟨(hexL s.data.toList).toArray⟩

theorem cases16 (d : Nat) (h : d < 16) : d = 0 ∨ d = 1 ∨ d = 2 ∨ d = 3 ∨ d = 4 ∨ d = 5 ∨ d = 6 ∨ d = 7 ∨ d = 8 ∨ d = 9 ∨ d = 10 ∨ d = 11 ∨ d = 12 ∨ d = 13 ∨ d = 14 ∨ d = 15 := by omega
theorem idx16 (k : IntKind) (d : Nat) (h : d < 16) (W : World) :
    (Instr.index 9 (.string ⟨#[48, 49, 50, 51, 52, 53, 54, 55, 56, 57, 97, 98, 99, 100, 101, 102]⟩) (.int k (d : Int))).run Tryd.prog W = .ok (.int .u8 ((hexD d).toNat : Int)) W := by
  rcases cases16 d h with rfl | rfl | rfl | rfl | rfl | rfl | rfl | rfl | rfl | rfl | rfl | rfl | rfl | rfl | rfl | rfl <;> kernel_rfl
theorem idx36 (k : IntKind) (d : Nat) (h : d < 16) (W : World) :
    (Instr.index 9 (.string ⟨#[48, 49, 50, 51, 52, 53, 54, 55, 56, 57, 97, 98, 99, 100, 101, 102, 103, 104, 105, 106, 107, 108, 109, 110, 111, 112, 113, 114, 115, 116, 117, 118, 119, 120, 121, 122]⟩) (.int k (d : Int))).run Tryd.prog W = .ok (.int .u8 ((hexD d).toNat : Int)) W := by
  rcases cases16 d h with rfl | rfl | rfl | rfl | rfl | rfl | rfl | rfl | rfl | rfl | rfl | rfl | rfl | rfl | rfl | rfl <;> kernel_rfl

/-- a block of cells that nothing has frozen -/
def CAt (w : World) (b : Nat) (T : TypeId) (l : List Value) : Prop := w.heap[b]? = some (.cells l.toArray T (0, 0))
namespace CAt
variable {w w' : World} {b : Nat} {T : TypeId} {l : List Value}
theorem cell (h : CAt w b T l) (i : Nat) (hi : i < l.length) : w.cell? ⟨b, i, none⟩ = some l[i] := by
  unfold CAt at h
  simp [World.cell?, h, hi]
theorem free (h : CAt w b T l) (i : Nat) : w.frozen? ⟨b, i, none⟩ = false := by
  unfold CAt at h
  simp [World.frozen?, h]
theorem lt (h : CAt w b T l) : b < w.heap.size := (Array.getElem?_eq_some_iff.1 h).1
theorem set (h : CAt w b T l) (i : Nat) (x : Value) : CAt (w.setCell ⟨b, i, none⟩ x) b T (l.set i x) := by
  unfold CAt at h ⊢
  rw [setCell_heap _ _ _ _ _ _ _ h]
  congr 2
  apply Array.ext'
  simp
theorem below (h : CAt w b T l) {B : Nat} (hb : Below B w w') (hB : b < B) : CAt w' b T l := by
  unfold CAt at h ⊢
  rw [hb.block b hB]; exact h
end CAt
/-- what 'string(b)' comes to of any cells -/
theorem string_of_cells {P : Program} (src e : TypeId) (hs : P.underlying src = some (.slice e)) (he : P.underlying e = some (.int .u8)) {w : World} {g j c n : Nat} (l : List UInt8) (hn : l.length = n)
    (h : ∀ i, i < l.length → w.cell? ⟨g, j + i, none⟩ = some (.int .u8 ((l.getD i 0).toNat : Int))) (dst : TypeId) (hd : P.underlying dst = some .string) : (convert src dst (.slice (some ⟨g, j, none⟩) n c)).run P w = .ok (.string ⟨l.toArray⟩) w := by
  subst hn
  have := run_convert_bytes_arg w src e hs he g j l.length c (l.map fun c => (c.toNat : Int)) (by simp) (fun i hi => by
    rw [h i hi]
    simp [hi]) dst hd
  rw [this]
  unfold strOfNums
  rw [List.map_map]
  congr 3
  have : (List.map ((fun n : Int => UInt8.ofNat n.toNat) ∘ fun c : UInt8 => (c.toNat : Int)) l) = l := by
    conv => rhs; rw [← List.map_id l]
    exact List.map_congr_left fun c _ => by simp
  rw [this]

/-- the one cell that is read of the library's table -/
def TAt (w : World) : Prop := w.cell? ⟨7, 15, none⟩ = some (.int .u8 4)
theorem TAt.mono {w w' : World} (h : TAt w) (hb : Below w.heap.size w w') : TAt w' := by
  unfold TAt at h ⊢
  rw [hb.cell (World.block_lt_of_cell? w _ h)]; exact h
theorem tz64_any (w : World) (h : TAt w) : Calls Tryd.prog 210 #[.int .u64 16] w fun e w' => e = .returned (.int .i64 4) ∧ w' = w := by
  unfold TAt at h
  have a1 : bits BinOp.and IntKind.u64 16 (IntKind.u64.wrap (-16)) = 16 := by kernel_rfl
  have a2 : IntKind.u64.wrap (16 * 285870213051353865) / 288230376151711744 = 15 := by kernel_rfl
  have a3 : IntKind.u64.wrap (4573923408821661840) / 288230376151711744 = 15 := by kernel_rfl
  go_enter Tryd.func210, Tryd.ntmps210
  go_wp2_with fail
  go_ret
  exact ⟨rfl, rfl⟩
theorem tz_any (w : World) (h : TAt w) : Calls Tryd.prog 197 #[.int .u64 16] w fun e w' => e = .returned (.int .i64 4) ∧ w' = w := by
  go_enter Tryd.func197, Tryd.ntmps197
  go_wp2_with (go_at_call 210; refine (tz64_any _ h).mono ?_; rintro e w1 ⟨rfl, rfl⟩)
  go_ret
  exact ⟨rfl, rfl⟩
theorem pow2_any (w : World) : Calls Tryd.prog 196 #[.int .i64 16] w fun e w' => e = .returned (.bool true) ∧ w' = w := by
  go_enter Tryd.func196, Tryd.ntmps196
  go_wp2_with fail
  go_ret
  exact ⟨rfl, rfl⟩

theorem and15 (u : Nat) (h : u < 18446744073709551616) : bits .and .u64 (u : Int) 15 = ((u % 16 : Nat) : Int) := by
  have h0 := bits_and_u64_nat u 15 (by omega) (by omega)
  rw [show (15 : Nat) = 2 ^ 4 - 1 from rfl, Nat.and_two_pow_sub_one_eq_mod] at h0
  exact h0
set_option maxRecDepth 100000 in
set_option maxHeartbeats 1000000 in
theorem fbits_any (x : Nat) (hx : x < 256) (w : World) (ht : TAt w) :
    Calls Tryd.prog 178 #[.slice none 0 0, .int .u64 ((x + 256 : Nat) : Int), .int .i64 16, .bool false, .bool false] w fun e w' => e = .returned (.tuple #[.slice none 0 0, .string ⟨#[49, hexD (x / 16), hexD (x % 16)]⟩]) ∧ Below w.heap.size w w' := by
  obtain ⟨u0, hu0⟩ : ∃ u0, u0 = x + 256 := ⟨_, rfl⟩
  rw [← hu0]
  have HU0 := Lib.hid hu0
  clear hu0
  go_enter Tryd.func178, Tryd.ntmps178
  go_wp2_with (first | (go_at_call 196; refine (pow2_any _).mono ?_; rintro e w1 ⟨rfl, rfl⟩) | (go_at_call 197; refine (tz_any _ ?_).mono ?_; exact ht.mono ((Below.refl _ _).alloc (Nat.le_refl _) _); rintro e w1 ⟨rfl, rfl⟩))
  go_loopw [1, 13] (fun a b wr => ∃ (u i : Nat) (L : List Value), a = .int .u64 u ∧ b = .int .i64 i ∧ L.length = 65 ∧ (i = 65 ∧ u = x + 256 ∨ i = 64 ∧ u = x / 16 + 16 ∧ L[64]? = some (u8v (hexD (x % 16))) ∨ i = 63 ∧ u = 1 ∧ L[64]? = some (u8v (hexD (x % 16))) ∧ L[63]? = some (u8v (hexD (x / 16)))) ∧ CAt wr w.heap.size 245 L ∧ Below w.heap.size w wr) (fun _ b _ => (intOf b).toNat)
  case atStart => exact ⟨u0, 65, List.replicate 65 (.int .u8 0), rfl, rfl, rfl, .inl ⟨rfl, HU0.out⟩, (heap_alloc_new w _).trans (by kernel_rfl), (Below.refl _ _).alloc (Nat.le_refl _) _⟩
  case round =>
    obtain ⟨u, i, L, rfl, rfl, hL, hst, hC, hB⟩ := hrel
    have hub : u < 1000 := by omega
    have hi1 : 63 ≤ i := by omega
    have hi2 : i ≤ 65 := by omega
    have HST := Lib.hid hst
    have HC := Lib.hid hC
    have HB := Lib.hid hB
    have HL := Lib.hid hL
    have hcf := hC.free (i - 1)
    have hbw := hB.size
    obtain ⟨d, hd⟩ : ∃ d, d = u % 16 := ⟨_, rfl⟩
    have hd16 : d < 16 := by omega
    have hix := fun k W => idx36 k d hd16 W
    have hand := and15 u (by omega)
    rw [← hd] at hand
    have HD := Lib.hid hd
    clear hst hC hB hL hd
    by_cases hu : 16 ≤ u
    · have e1 : (16 : Int) ≤ u := by omega
      have hi3 : 64 ≤ i := by have := HST.out; omega
      have e2 : ((i : Int) - 1).toNat = i - 1 := by omega
      obtain ⟨y, hy⟩ : ∃ y, L[i - 1]? = some y := ⟨_, List.getElem?_eq_getElem (by have := HL.out; omega)⟩
      have hcc : wr.cell? ⟨w.heap.size, i - 1, none⟩ = some y := by
        have hlt : i - 1 < L.length := by have := HL.out; omega
        rw [HC.out.cell (i - 1) hlt]
        rw [List.getElem?_eq_getElem hlt] at hy
        exact hy
      clear hy
      go_wp2_with fail
      go_roundw
      case rel =>
        refine ⟨u / 16, i - 1, L.set (i - 1) (u8v (hexD d)), rfl, by congr 1; omega, by rw [List.length_set]; exact HL.out, ?_, HC.out.set _ _, below_set HB.out (Nat.le_refl _) _⟩
        have hd := HD.out
        have hLl := HL.out
        rcases HST.out with ⟨rfl, hu⟩ | ⟨rfl, hu, h1⟩ | ⟨rfl, hu, h1, h2⟩
        · refine .inr (.inl ⟨rfl, by omega, ?_⟩)
          rw [List.getElem?_set_self (by omega), show d = x % 16 from by omega]
        · refine .inr (.inr ⟨rfl, by omega, ?_, ?_⟩)
          · rw [List.getElem?_set_ne (by decide)]; exact h1
          · rw [List.getElem?_set_self (by omega), show d = x / 16 from by omega]
        · omega
      case measure => simp [intOf]; omega
    · have hst := HST.out
      obtain ⟨rfl, rfl, h1, h2⟩ : i = 63 ∧ u = 1 ∧ L[64]? = some (u8v (hexD (x % 16))) ∧ L[63]? = some (u8v (hexD (x / 16))) := by
        rcases hst with ⟨_, h⟩ | ⟨_, h, _⟩ | h
        · omega
        · omega
        · exact h
      have hLl := HL.out
      have hcc := HC.out.cell 62 (by omega)
      obtain ⟨y, hy⟩ : ∃ y, L[62] = y := ⟨_, rfl⟩
      rw [hy] at hcc
      have hcf2 := HC.out.free 62
      have hC2 := HC.out.set 62 (u8v 49)
      have hcv := string_of_cells (P := Tryd.prog) 145 5 u_bytes u_u8 (w := wr.setCell ⟨w.heap.size, 62, none⟩ (.int .u8 (((⟨#[48, 49, 50, 51, 52, 53, 54, 55, 56, 57, 97, 98, 99, 100, 101, 102, 103, 104, 105, 106, 107, 108, 109, 110, 111, 112, 113, 114, 115, 116, 117, 118, 119, 120, 121, 122]⟩ : ByteArray)[1]'(by decide)).toNat : Int))) (g := w.heap.size) (j := 62) (c := 3) [49, hexD (x / 16), hexD (x % 16)] (show _ = 3 from rfl) (fun i hi => by
        have hi3 : i < 3 := hi
        refine Eq.trans (hC2.cell (62 + i) (by rw [List.length_set]; omega)) ?_
        have e : ∀ k (h : k < (L.set 62 (u8v 49)).length) (v : Value), (L.set 62 (u8v 49))[k]? = some v → (L.set 62 (u8v 49))[k] = v := by
          intro k h v hv
          rw [List.getElem?_eq_getElem h] at hv
          exact Option.some.inj hv
        rcases (by omega : i = 0 ∨ i = 1 ∨ i = 2) with rfl | rfl | rfl
        · rw [e 62 _ (u8v 49) (List.getElem?_set_self (by omega))]; rfl
        · rw [e 63 _ (u8v (hexD (x / 16))) (by rw [List.getElem?_set_ne (by decide)]; exact h2)]; rfl
        · rw [e 64 _ (u8v (hexD (x % 16))) (by rw [List.getElem?_set_ne (by decide)]; exact h1)]; rfl) 9 u_str
      clear hy h1 h2 hst hC2 hix hand hub hi1 hi2 hcf hd16
      rw [show ((63 : Nat) : Int) = 63 from rfl, show ((1 : Nat) : Int) = 1 from rfl]
      go_wp2_with fail
      go_ret2
      exact ⟨rfl, below_set HB.out (Nat.le_refl _) _⟩
theorem fmti_any (x : Nat) (hx : x < 256) (w : World) (ht : TAt w) :
    Calls Tryd.prog 145 #[.int .i64 ((x : Int) + 256), .int .i64 16] w fun e w' => e = .returned (.string ⟨#[49, hexD (x / 16), hexD (x % 16)]⟩) ∧ Below w.heap.size w w' := by
  have e1 : ¬ (x : Int) + 256 < 0 := by omega
  go_enter Tryd.func145, Tryd.ntmps145
  go_wp2_with (go_at_call 178; refine (fbits_any x hx _ ht).mono ?_; rintro e w1 ⟨rfl, hB1⟩)
  go_ret
  exact ⟨rfl, hB1⟩
theorem fmt_any (x : Nat) (hx : x < 256) (w : World) (ht : TAt w) :
    Calls Tryd.prog 97 #[.int .i64 ((x : Int) + 256), .int .i64 16] w fun e w' => e = .returned (.string ⟨#[49, hexD (x / 16), hexD (x % 16)]⟩) ∧ Below w.heap.size w w' := by
  go_enter Tryd.func97, Tryd.ntmps97
  go_wp2_with (go_at_call 145; refine (fmti_any x hx _ ht).mono ?_; rintro e w1 ⟨rfl, hB1⟩)
  go_ret
  exact ⟨rfl, hB1⟩

theorem hexL_snoc (l : List UInt8) (k : Nat) (c : UInt8) (h : l[k]? = some c) : hexL (l.take (k + 1)) = hexL (l.take k) ++ [hexD (c.toNat / 16), hexD (c.toNat % 16)] := by
  have hk : k < l.length := (List.getElem?_eq_some_iff.1 h).1
  have he : l[k] = c := (List.getElem?_eq_some_iff.1 h).2
  unfold hexL
  rw [List.take_succ_eq_append_getElem hk, List.flatMap_append, List.flatMap_singleton, he]
theorem hexL_length (l : List UInt8) : (hexL l).length = 2 * l.length := by
  induction l with
  | nil => rfl
  | cons x l ih => simp only [hexL, List.flatMap_cons, List.length_append, List.length_cons] at ih ⊢; rw [ih]; simp; omega

set_option maxHeartbeats 1000000 in
theorem rhex_any (s : ByteArray) (hs : s.size ≤ 1000000000) (w : World) (ht : TAt w) :
    Calls Tryd.prog 18 #[.string s] w fun e w' => e = .returned (.string (hexS s)) ∧ Below w.heap.size w w' := by
  have Ht := Lib.hid ht
  clear ht
  go_enter Tryd.func18, Tryd.ntmps18
  go_wp2_with fail
  go_loopw [3, 7] (fun a b wr => ∃ k : Nat, k ≤ s.size ∧ a = .string ⟨(hexL (s.data.toList.take k)).toArray⟩ ∧ b = .int .i64 k ∧ Below w.heap.size w wr) (fun _ b _ => s.size - (intOf b).toNat)
  case atStart => exact ⟨0, Nat.zero_le _, rfl, rfl, Below.refl _ _⟩
  case round =>
    obtain ⟨k, hk, rfl, rfl, hB⟩ := hrel
    have HB := Lib.hid hB
    by_cases hlt : k < s.size
    · have hkl : k < s.data.toList.length := by simpa using hlt
      obtain ⟨c, hc⟩ : ∃ c, s.data.toList[k]? = some c := ⟨_, List.getElem?_eq_getElem hkl⟩
      have hsn := Lib.hid (hexL_snoc _ k c hc)
      have hsk : s[k] = c := by
        have := (List.getElem?_eq_some_iff.1 hc).2
        rw [← this]; rfl
      have hx2 : c.toNat < 256 := c.toNat_lt
      have htl : (hexL (s.data.toList.take k)).length ≤ 2 * k := by rw [hexL_length, List.length_take]; omega
      generalize hmm : hexL (s.data.toList.take k) = m at *
      have hT := Lib.hid (Ht.out.mono hB)
      clear hc hB hmm
      go_wp2_with (go_at_call 97; refine (fmt_any c.toNat hx2 _ hT.out).mono ?_; rintro e w1 ⟨rfl, hB1⟩)
      go_roundw
      case rel =>
        refine ⟨k + 1, hlt, ?_, by go_num, HB.out.trans (hB1.mono HB.out.size)⟩
        rw [hsn.out, ← bytes_app]
        rfl
      case measure => simp [intOf]; omega
    · have hfin : Hid (hexL (s.data.toList.take k) = hexL s.data.toList) := by
        unfold Hid
        rw [List.take_of_length_le (by simp; omega)]
      have hge : s.size ≤ k := by omega
      have hd1 : decide (k < s.size) = false := decide_eq_false hlt
      clear hB hlt
      go_wp2_with fail
      go_ret
      exact ⟨by rw [hfin.out]; rfl, HB.out⟩

set_option maxRecDepth 100000 in
set_option maxHeartbeats 1000000 in
theorem hex_any (s : ByteArray) (hs : s.size ≤ 1000000000) (w : World) :
    Calls Tryd.prog 17 #[.string s] w fun e w' => e = .returned (.string (hexS s)) ∧ Below w.heap.size w w' := by
  go_enter Tryd.func17, Tryd.ntmps17
  go_wp2_with fail
  go_loopw [3, 7] (fun a b wr => ∃ k : Nat, k ≤ s.size ∧ Own wr w.heap.size 5 1 a (2 * k) (u8c (hexL (s.data.toList.take k))) ∧ b = .int .i64 k ∧ Below w.heap.size w wr) (fun _ b _ => s.size - (intOf b).toNat)
  case atStart => exact ⟨0, Nat.zero_le _, Own.nil _ _ _ _, rfl, Below.refl _ _⟩
  case round =>
    obtain ⟨k, hk, hO, rfl, hB⟩ := hrel
    have HB := Lib.hid hB
    have HO := Lib.hid hO
    have hbw := hB.size
    by_cases hlt : k < s.size
    · have hkl : k < s.data.toList.length := by simpa using hlt
      obtain ⟨c, hc⟩ : ∃ c, s.data.toList[k]? = some c := ⟨_, List.getElem?_eq_getElem hkl⟩
      have hsn : Hid (hexL (s.data.toList.take (k + 1)) = hexL (s.data.toList.take k) ++ [hexD (c.toNat / 16), hexD (c.toNat % 16)]) := hexL_snoc _ k c hc
      have hsk : s[k] = c := by
        have := (List.getElem?_eq_some_iff.1 hc).2
        rw [← this]; rfl
      have hx2 : c.toNat < 256 := c.toNat_lt
      obtain ⟨hi, hhi⟩ : ∃ hi, hi = c.toNat / 16 := ⟨_, rfl⟩
      obtain ⟨lo, hlo⟩ : ∃ lo, lo = c.toNat % 16 := ⟨_, rfl⟩
      have e1 := nib_hi c
      have e2 := nib_lo c
      have i1 := fun K W => idx16 K hi (by omega) W
      have i2 := fun K W => idx16 K lo (by omega) W
      rw [← hhi] at e1 hsn
      rw [← hlo] at e2 hsn
      have HHI := Lib.hid hhi
      have HLO := Lib.hid hlo
      clear hhi hlo
      generalize hmm : hexL (s.data.toList.take k) = m at *
      clear hc hB hO hmm
      go_wp2_with fail
      refine wp_region_any (by kernel_rfl) ?_
      change wpAny _ _ _ _ _ _ _ wr.drew
      generalize hWd : wr.drew = W
      have hWs : Hid (W.heap.size = wr.heap.size) := by subst hWd; rfl
      have HO2 : Hid (Own W w.heap.size 5 1 u3 (2 * k) (u8c m)) := by subst hWd; exact HO.out
      have HB2 : Hid (Below w.heap.size w W) := by subst hWd; exact HB.out.drew
      clear hWd
      refine wpAny_take (i := 0) (v := ?_) rfl (by kernel_rfl) (by kernel_rfl) (by kernel_rfl) (fun _ _ _ h => h) (Or.inl ⟨by rfl, ?_⟩) ?_
      case refine_2 => intro w; go_simp <;> with_reducible rfl
      refine wpAny_take (i := 1) (v := ?_) rfl (by kernel_rfl) (by kernel_rfl) (by kernel_rfl) (fun _ _ _ h => h) (Or.inl ⟨by rfl, ?_⟩) ?_
      case refine_2 => intro w; go_simp <;> with_reducible rfl
      refine wpAny_take (i := 2) (v := ?_) rfl (by kernel_rfl) (by kernel_rfl) (by kernel_rfl) (fun _ _ _ h => h) (Or.inl ⟨by rfl, ?_⟩) ?_
      case refine_2 => intro w; go_simp <;> with_reducible rfl
      refine wpAny_take (i := 3) (v := ?_) rfl (by kernel_rfl) (by kernel_rfl) (by kernel_rfl) (fun _ _ _ h => h) (Or.inl ⟨by rfl, ?_⟩) ?_
      case refine_2 => intro w; go_simp <;> with_reducible rfl
      refine wpAny_take (i := 4) (v := ?_) rfl (by kernel_rfl) (by kernel_rfl) (by kernel_rfl) (fun _ _ _ h => h) (Or.inl ⟨by rfl, ?_⟩) ?_
      case refine_2 => intro w; go_simp <;> with_reducible rfl
      refine wpAny_take (i := 5) (v := ?_) rfl (by kernel_rfl) (by kernel_rfl) (by kernel_rfl) (fun _ _ _ h => h) (Or.inl ⟨by rfl, ?_⟩) ?_
      case refine_2 => intro w; go_simp <;> with_reducible rfl
      refine wpAny_take (i := 6) (v := ?_) rfl (by kernel_rfl) (by kernel_rfl) (by kernel_rfl) (fun _ _ _ h => h) (Or.inl ⟨by rfl, ?_⟩) ?_
      case refine_2 => intro w; go_simp <;> with_reducible rfl
      refine wpAny_take (i := 7) (v := ?_) rfl (by kernel_rfl) (by kernel_rfl) (by kernel_rfl) (fun _ _ _ h => h) (Or.inl ⟨by rfl, ?_⟩) ?_
      case refine_2 => intro w; go_simp <;> with_reducible rfl
      refine wpAny_take (i := 8) (v := ?_) rfl (by kernel_rfl) (by kernel_rfl) (by kernel_rfl) (fun _ _ _ h => h) (Or.inl ⟨by rfl, ?_⟩) ?_
      case refine_2 => intro w; go_simp <;> with_reducible rfl
      refine wpAny_take (i := 9) (v := ?_) rfl (by kernel_rfl) (by kernel_rfl) (by kernel_rfl) (fun _ _ _ h => h) (Or.inl ⟨by rfl, ?_⟩) ?_
      case refine_2 => intro w; go_simp <;> with_reducible rfl
      refine wpAny_take (i := 10) (v := ?_) rfl (by kernel_rfl) (by kernel_rfl) (by kernel_rfl) (fun _ _ _ h => h) (Or.inl ⟨by rfl, ?_⟩) ?_
      case refine_2 => intro w; go_simp <;> with_reducible rfl
      refine wpAny_tail (k := 11) (by kernel_rfl) ?_
      simp only [List.drop_succ_cons, List.drop_zero]
      go_wp2_with (first | (at_builtin; refine app_lit rfl _ _ 145 rfl w.heap.size 5 (.int .u8 0) 1 1 u_bytes i_u8 rfl (by decide) _ _ _ rfl HO2.out 2 _ rfl rfl (by intro u hu; simp at hu; rcases hu with rfl | rfl <;> rfl) (by omega) (by omega) HB2.out.size ?_; intro v1 w1 hown1 hgrow1))
      have hrow : ∀ j, u3.ownBlock = some j → w.heap.size ≤ j := fun j hj => (HO2.out.lt j hj).1
      go_roundw
      case rel =>
        refine ⟨k + 1, hlt, ?_, by go_num, HB2.out.grown hgrow1 HB2.out.size hrow⟩
        rw [hsn.out, u8c, List.map_append]
        exact hown1
      case measure => simp [intOf]; omega
    · have hfin : Hid (hexL (s.data.toList.take k) = hexL s.data.toList) := by
        unfold Hid
        rw [List.take_of_length_le (by simp; omega)]
      have hge : s.size ≤ k := by omega
      have hd1 : decide (k < s.size) = false := decide_eq_false hlt
      have hO8 : Bytes8 wr w.heap.size u3 (hexL s.data.toList) := by
        have h1 := hO
        rw [hfin.out] at h1
        have h2 : (hexL s.data.toList).length = 2 * k := by
          rw [hexL_length]
          have : s.data.toList.length = s.size := by simp
          omega
        unfold Bytes8
        rw [h2]; exact h1
      have hcv := string_of_bytes (P := Tryd.prog) 145 5 u_bytes u_u8 hO8 9 u_str
      clear hB hlt hO hO8
      go_wp2_with fail
      go_ret
      exact ⟨rfl, HB.out⟩
end Go.Proofs.YtfhjnfocmlndpaaDoor
