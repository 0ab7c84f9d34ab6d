/- once.Sign and once.From: the program's. -/
import Derived.Test.YtfhjnfocmlndpaaDoorSjOnce
namespace Go.Proofs.YtfhjnfocmlndpaaDoor
open Go Go.RowKit Go.Proofs

def pubL (seed : ByteArray) (key : Int) (n : Nat) : List ByteArray := (List.range n).map fun c => chainS (secretS seed key c) c 0 15
def pubS (seed : ByteArray) (key : Int) : ByteArray := markS 112 (pubL seed key 35)
def signL (seed : ByteArray) (key : Int) (m : ByteArray) (n : Nat) : List ByteArray := (List.range n).map fun c => chainS (secretS seed key c) c 0 ((digitsL m.data.toList).getD c 0)
def fromL (m : ByteArray) (sig : List ByteArray) (n : Nat) : List ByteArray :=
  (List.range n).map fun c => chainS (sig.getD c ⟨#[]⟩) c ((digitsL m.data.toList).getD c 0) (15 - (digitsL m.data.toList).getD c 0)
def fromS (m : ByteArray) (sig : List ByteArray) : ByteArray := markS 112 (fromL m sig 35)
theorem pubL_succ (seed : ByteArray) (key : Int) (n : Nat) : pubL seed key (n + 1) = pubL seed key n ++ [chainS (secretS seed key n) n 0 15] := by
  simp [pubL, List.range_succ]
theorem signL_succ (seed : ByteArray) (key : Int) (m : ByteArray) (n : Nat) : signL seed key m (n + 1) = signL seed key m n ++ [chainS (secretS seed key n) n 0 ((digitsL m.data.toList).getD n 0)] := by
  simp [signL, List.range_succ]
theorem fromL_succ (m : ByteArray) (sig : List ByteArray) (n : Nat) :
    fromL m sig (n + 1) = fromL m sig n ++ [chainS (sig.getD n ⟨#[]⟩) n ((digitsL m.data.toList).getD n 0) (15 - (digitsL m.data.toList).getD n 0)] := by
  simp [fromL, List.range_succ]
theorem pubL_small (seed : ByteArray) (key : Int) (n : Nat) : ∀ p ∈ pubL seed key n, p.size ≤ 1000 := by
  intro p hp
  obtain ⟨c, _, rfl⟩ := List.mem_map.1 hp
  exact Nat.le_trans (chainS_size _ _ _ _ (by rw [secretS_size]; decide)) (by decide)

/-- one more text behind a list of texts -/
def strV (l : List ByteArray) : List Value := l.map Value.string
theorem strV_snoc (l : List ByteArray) (p : ByteArray) : strV (l ++ [p]) = strV l ++ [.string p] := by simp [strV]
theorem strV_length (l : List ByteArray) : (strV l).length = l.length := by simp [strV]

set_option maxRecDepth 100000 in
set_option maxHeartbeats 2000000 in
theorem public_ok (seed : ByteArray) (key : Int) (w : World) (h16 : seed.size = 16) (h0 : -9223372036854775808 ≤ key) (h1 : key ≤ 9223372036854775807) (hK : KAt w 0) :
    Calls Tryd.prog 25 #[.string seed, .int .i64 key] w fun e w' => e = .returned (.tuple #[.string (pubS seed key), .nilIface]) ∧ Below w.heap.size w w' := by
  have HK := Lib.hid hK
  have h60 : seed.size ≤ 60 := by omega
  have H0 := Lib.hid h0
  have H1 := Lib.hid h1
  clear hK h0 h1
  go_enter Tryd.func25, Tryd.ntmps25
  go_wp2_with fail
  go_loopw [6, 12] (fun v i wr => ∃ k : Nat, k ≤ 35 ∧ i = .int .i64 k ∧ Own wr w.heap.size 9 1 v k (strV (pubL seed key k)) ∧ Below w.heap.size w wr) (fun _ i _ => 35 - (intOf i).toNat)
  case atStart => exact ⟨0, by omega, rfl, Own.nil _ _ _ _, Below.refl _ _⟩
  case round =>
    obtain ⟨k, hk, rfl, hO, hB⟩ := hrel
    have HO := Lib.hid hO
    have HB := Lib.hid hB
    have hbw := hB.size
    clear hO hB
    by_cases hlt : k < 35
    · have e1 : (k : Int) < 35 := by omega
      have hsz := secretS_size seed key k
      have hz : (secretS seed key k).size ≤ 60 := by omega
      have HS := fun W hW => Lib.hid (secret_any seed key k W h60 H0.out H1.out (by omega) hW)
      have HW := fun W hW => Lib.hid (walk_any (secretS seed key k) k 0 15 W hz (by omega) (by omega) (by omega) hW)
      obtain ⟨y, hy⟩ : ∃ y, y = secretS seed key k := ⟨_, rfl⟩
      rw [← hy] at HS HW hz
      have HY := Lib.hid hy
      clear hy hsz
      go_wp2_with (first
        | (go_at_call 101; refine (HS _ (HK.out.mono HB.out)).out.mono ?_; rintro e w1 ⟨rfl, hB1⟩)
        | (go_at_call 100; refine (HW _ (HK.out.mono (HB.out.trans (hB1.mono HB.out.size)))).out.mono ?_; rintro e w2 ⟨rfl, hB2⟩; have hC := hB1.trans (hB2.mono hB1.size); have hOw := HO.out.below hC (fun j hj => (HO.out.lt j hj).2); have hbw2 := Nat.le_trans hbw hC.size)
        | (at_builtin; refine app_lit rfl _ _ 22 rfl w.heap.size 9 (.string ⟨#[]⟩) 1 16 u_strs i_str rfl (by decide) _ _ _ rfl hOw 1 _ rfl rfl (by intro u hu; simp at hu; subst hu; rfl) (by omega) (by omega) hbw2 ?_; intro v1 w3 hown1 hgrow1))
      have hrow : ∀ j, u6.ownBlock = some j → w.heap.size ≤ j := fun j hj => (HO.out.lt j hj).1
      go_roundw
      case rel =>
        refine ⟨k + 1, hlt, by go_num, ?_, (HB.out.trans (hC.mono HB.out.size)).grown hgrow1 hbw2 hrow⟩
        rw [pubL_succ, strV_snoc, ← HY.out]
        exact hown1
      case measure => simp [intOf]; omega
    · have hd1 : decide (k < 35) = false := decide_eq_false hlt
      have e1 : ¬ (k : Int) < 35 := by omega
      have hk35 : k = 35 := by omega
      have hO35 : Own wr w.heap.size 9 1 u6 35 (strV (pubL seed key 35)) := by
        have := HO.out
        rwa [hk35] at this
      obtain ⟨g, cap, hu, hg1, hg2, hnc, hcm⟩ := hO35.some_ (by omega)
      have HM := Lib.hid (mark_any 112 u6 (pubL seed key 35) wr (by rw [show (pubL seed key 35).length = 35 from by simp [pubL]]; exact Reads.of_own hO35) (small_mark 112 _ (by simp [pubL]) (pubL_small _ _ _)) (HK.out.mono HB.out))
      clear hk35 hO35 hlt hu hg1 hg2 hnc hcm
      go_wp2_with (go_at_call 21; refine HM.out.mono ?_; rintro e w1 ⟨rfl, hB1⟩)
      go_ret2
      exact ⟨rfl, HB.out.trans (hB1.mono HB.out.size)⟩
theorem public_no (seed : ByteArray) (key : Int) (w : World) (h16 : seed.size ≠ 16) :
    Calls Tryd.prog 25 #[.string seed, .int .i64 key] w fun e w' => e = .returned (.tuple #[.string ⟨#[]⟩, .iface 31 (.int .i64 1)]) ∧ w' = w := by
  have e1 : ((seed.size : Int) != 16) = true := by rw [bne_iff_ne]; omega
  have e2 : ((seed.size : Int) == 16) = false := by rw [beq_eq_false_iff_ne]; omega
  go_enter Tryd.func25, Tryd.ntmps25
  go_wp2_with fail
  go_ret2
  exact ⟨rfl, rfl⟩
end Go.Proofs.YtfhjnfocmlndpaaDoor

namespace Go.Proofs.YtfhjnfocmlndpaaDoor
open Go Go.RowKit Go.Proofs

theorem digL_le (l : List UInt8) : ∀ d ∈ digL l, d ≤ 15 := by
  intro d hd
  obtain ⟨c, _, h⟩ := List.mem_flatMap.1 hd
  have := c.toNat_lt
  simp only [List.mem_cons, List.not_mem_nil, or_false] at h
  omega
theorem digitsL_le (l : List UInt8) (h : l.length = 16) : ∀ d ∈ digitsL l, d ≤ 15 := by
  intro d hd
  have hL := lackL_le l
  rcases List.mem_append.1 hd with hd | hd
  · exact digL_le l d hd
  · simp only [List.mem_cons, List.not_mem_nil, or_false] at hd
    omega
theorem digitsL_length (l : List UInt8) (h : l.length = 16) : (digitsL l).length = 35 := by
  unfold digitsL
  rw [List.length_append, digL_length, h]
  rfl

set_option maxRecDepth 100000 in
set_option maxHeartbeats 2000000 in
theorem sign_ok (seed : ByteArray) (key : Int) (m : ByteArray) (w : World) (h16 : seed.size = 16) (hm16 : m.size = 16) (h0 : -9223372036854775808 ≤ key) (h1 : key ≤ 9223372036854775807) (hK : KAt w 0) :
    Calls Tryd.prog 28 #[.string seed, .int .i64 key, .string m] w fun e w' => ∃ v, e = .returned (.tuple #[v, .nilIface]) ∧ Own w' w.heap.size 9 1 v 35 (strV (signL seed key m 35)) ∧ Below w.heap.size w w' := by
  have HK := Lib.hid hK
  have h60 : seed.size ≤ 60 := by omega
  have H0 := Lib.hid h0
  have H1 := Lib.hid h1
  have hml : m.data.toList.length = 16 := by simpa using hm16
  obtain ⟨D, hD⟩ : ∃ D, D = digitsL m.data.toList := ⟨_, rfl⟩
  have hDl : Hid (D.length = 35) := by unfold Hid; rw [hD]; exact digitsL_length _ hml
  have hDb : Hid (∀ d ∈ D, d ≤ 15) := by unfold Hid; rw [hD]; exact digitsL_le _ hml
  have HD := Lib.hid hD
  have HG := Lib.hid (digits_any m (by omega) w)
  clear hK h0 h1 hml hD
  go_enter Tryd.func28, Tryd.ntmps28
  go_wp2_with (go_at_call 104; refine HG.out.mono ?_; rintro e w1 ⟨v, rfl, hOd, hBd⟩; obtain ⟨g, cap, rfl, hg1, hg2, hnc, hcm⟩ := hOd.some_ (by omega); have HOd : Hid (Own w1 w.heap.size 3 1 (.slice (some ⟨g, 0, none⟩) 35 cap) 35 (ic D)) := (by have h2 : 2 * m.size + 3 = 35 := (by omega); unfold Hid; rw [HD.out]; rw [h2] at hOd; exact hOd); have h35 : 2 * m.size + 3 = 35 := (by omega); rw [h35])
  go_loopw [8, 23] (fun v i wr => ∃ k : Nat, k ≤ 35 ∧ i = .int .i64 k ∧ Own wr w1.heap.size 9 1 v k (strV (signL seed key m k)) ∧ Below w1.heap.size w1 wr) (fun _ i _ => 35 - (intOf i).toNat)
  case atStart => exact ⟨0, by omega, rfl, Own.nil _ _ _ _, Below.refl _ _⟩
  case round =>
    obtain ⟨k, hk, rfl, hO, hB⟩ := hrel
    have HO := Lib.hid hO
    have HB := Lib.hid hB
    have hbw := hB.size
    have HOd2 := Lib.hid (HOd.out.below hB (fun j hj => (HOd.out.lt j hj).2))
    have HKw := Lib.hid ((HK.out.mono hBd).mono hB)
    clear hO hB
    by_cases hlt : k < 35
    · have e1 : (k : Int) < 35 := by omega
      have hkD : k < D.length := by rw [hDl.out]; exact hlt
      obtain ⟨d, hd⟩ : ∃ d, D[k]? = some d := ⟨_, List.getElem?_eq_getElem hkD⟩
      have hd15 : d ≤ 15 := hDb.out d (List.mem_of_getElem? hd)
      have hcell := HOd2.out.cell (g := g) rfl (show (ic D)[k]? = some (.int .i64 (d : Int)) from by unfold ic; rw [List.getElem?_map, hd]; rfl)
      have hgd : Hid ((digitsL m.data.toList).getD k 0 = d) := by unfold Hid; rw [← HD.out, List.getD_eq_getElem?_getD, hd]; rfl
      have hsz := secretS_size seed key k
      have hz : (secretS seed key k).size ≤ 60 := by omega
      have HS := fun W hW => Lib.hid (secret_any seed key k W h60 H0.out H1.out (by omega) hW)
      have HW := fun W hW => Lib.hid (walk_any (secretS seed key k) k 0 d W hz (by omega) (by omega) (by omega) hW)
      obtain ⟨y, hy⟩ : ∃ y, y = secretS seed key k := ⟨_, rfl⟩
      rw [← hy] at HS HW hz
      have HY := Lib.hid hy
      clear hy hsz hd hkD
      go_wp2_with (first
        | (go_at_call 101; refine (HS _ HKw.out).out.mono ?_; rintro e w2 ⟨rfl, hB1⟩)
        | (go_at_call 100; refine (HW _ (HKw.out.mono hB1)).out.mono ?_; rintro e w3 ⟨rfl, hB2⟩; have hC := hB1.trans (hB2.mono hB1.size); have hOw := HO.out.below hC (fun j hj => (HO.out.lt j hj).2); have hbw2 := Nat.le_trans hbw hC.size)
        | (at_builtin; refine app_lit rfl _ _ 22 rfl w1.heap.size 9 (.string ⟨#[]⟩) 1 16 u_strs i_str rfl (by decide) _ _ _ rfl hOw 1 _ rfl rfl (by intro u hu; simp at hu; subst hu; rfl) (by omega) (by omega) hbw2 ?_; intro v1 w4 hown1 hgrow1))
      have hrow : ∀ j, u8.ownBlock = some j → w1.heap.size ≤ j := fun j hj => (HO.out.lt j hj).1
      go_roundw
      case rel =>
        refine ⟨k + 1, hlt, by go_num, ?_, (HB.out.trans (hC.mono HB.out.size)).grown hgrow1 hbw2 hrow⟩
        rw [signL_succ, strV_snoc, hgd.out, ← HY.out]
        exact hown1
      case measure => simp [intOf]; omega
    · have hd1 : decide (k < 35) = false := decide_eq_false hlt
      have e1 : ¬ (k : Int) < 35 := by omega
      have hk35 : k = 35 := by omega
      have hO35 : Hid (Own wr w1.heap.size 9 1 u8 35 (strV (signL seed key m 35))) := by
        have := HO.out
        rwa [hk35] at this
      clear hk35 hlt
      go_wp2_with fail
      go_ret2
      exact ⟨u8, rfl, hO35.out.base_mono hBd.size, hBd.trans (HB.out.mono hBd.size)⟩
theorem sign_no (seed : ByteArray) (key : Int) (m : ByteArray) (w : World) (h : ¬ (seed.size = 16 ∧ m.size = 16)) :
    Calls Tryd.prog 28 #[.string seed, .int .i64 key, .string m] w fun e w' => e = .returned (.tuple #[.slice none 0 0, .iface 31 (.int .i64 1)]) ∧ w' = w := by
  by_cases h1 : seed.size = 16
  · have h2 : m.size ≠ 16 := fun h2 => h ⟨h1, h2⟩
    have e1 : ((m.size : Int) != 16) = true := by rw [bne_iff_ne]; omega
    have e2 : ((m.size : Int) == 16) = false := by rw [beq_eq_false_iff_ne]; omega
    clear h
    go_enter Tryd.func28, Tryd.ntmps28
    go_wp2_with fail
    go_ret2
    exact ⟨rfl, rfl⟩
  · have e1 : ((seed.size : Int) != 16) = true := by rw [bne_iff_ne]; omega
    have e2 : ((seed.size : Int) == 16) = false := by rw [beq_eq_false_iff_ne]; omega
    clear h
    go_enter Tryd.func28, Tryd.ntmps28
    go_wp2_with fail
    go_ret2
    exact ⟨rfl, rfl⟩
end Go.Proofs.YtfhjnfocmlndpaaDoor
