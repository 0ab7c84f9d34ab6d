/- once.Public, Sign, From, as the reference tells them. -/
import Derived.Test.YtfhjnfocmlndpaaDoorSjOnceR
namespace Go.Proofs.YtfhjnfocmlndpaaDoor
open Go Go.RowKit Go.Proofs

theorem rmk_any (s : ByteArray) (w : World) : Calls Tryd.prog 98 #[.string s] w fun e w' => e = .returned (.bool (decide (s.size = 16))) ∧ w' = w := by
  by_cases h : s.size = 16
  · have e1 : ((s.size : Int) == 16) = true := by rw [beq_iff_eq]; omega
    go_enter Tryd.func98, Tryd.ntmps98
    go_wp2_with fail
    go_ret
    exact ⟨by rw [decide_eq_true h]; rfl, rfl⟩
  · have e1 : ((s.size : Int) == 16) = false := by rw [beq_eq_false_iff_ne]; omega
    go_enter Tryd.func98, Tryd.ntmps98
    go_wp2_with fail
    go_ret
    exact ⟨by rw [decide_eq_false h]; rfl, rfl⟩
theorem rmk_yes (s : ByteArray) (w : World) (h : s.size = 16) : Calls Tryd.prog 98 #[.string s] w fun e w' => e = .returned (.bool true) ∧ w = w' := by
  refine (rmk_any s w).mono ?_
  rintro e w' ⟨rfl, rfl⟩
  exact ⟨by rw [decide_eq_true h], rfl⟩
theorem rmk_no (s : ByteArray) (w : World) (h : s.size ≠ 16) : Calls Tryd.prog 98 #[.string s] w fun e w' => e = .returned (.bool false) ∧ w = w' := by
  refine (rmk_any s w).mono ?_
  rintro e w' ⟨rfl, rfl⟩
  exact ⟨by rw [decide_eq_false h], rfl⟩

set_option maxRecDepth 100000 in
set_option maxHeartbeats 2000000 in
theorem rpublic_ok (r : Nat) (seed : ByteArray) (key : Int) (w : World) (h16 : seed.size = 16) (h0 : -9223372036854775808 ≤ key) (h1 : key ≤ 9223372036854775807) (hK : RAt w r) :
    Calls Tryd.prog 24 #[.pointer (some ⟨r, 0, none⟩), .string seed, .int .i64 key] w fun e w' => e = .returned (.tuple #[.string (pubS seed key), .int .i64 0]) ∧ Below w.heap.size w w' := by
  have HK := Lib.hid hK
  have h60 : seed.size ≤ 60 := by omega
  have H0 := Lib.hid h0
  have H1 := Lib.hid h1
  clear hK h0 h1
  go_enter Tryd.func24, Tryd.ntmps24
  go_wp2_with (go_at_call 98; refine (rmk_yes _ _ h16).mono ?_; rintro e w0 ⟨rfl, rfl⟩)
  go_loopw [8, 13] (fun v i wr => ∃ k : Nat, k ≤ 35 ∧ i = .int .i64 k ∧ Own wr w.heap.size 9 1 v k (strV (pubL seed key k)) ∧ Below w.heap.size w wr) (fun _ i _ => 35 - (intOf i).toNat)
  case atStart => exact ⟨0, by omega, rfl, Own.nil _ _ _ _, Below.refl _ _⟩
  case round =>
    obtain ⟨k, hk, rfl, hO, hB⟩ := hrel
    have HO := Lib.hid hO
    have HB := Lib.hid hB
    have hbw := hB.size
    clear hO hB
    by_cases hlt : k < 35
    · have e1 : (k : Int) < 35 := by omega
      have hsz := secretS_size seed key k
      have hz : (secretS seed key k).size ≤ 60 := by omega
      have hn1 := numS_size key
      have hn2 := numS_size (k : Int)
      have HS := fun W hW => Lib.hid (rmark3 r 115 115 rfl seed (numS key) (numS k) W (by omega) (by omega) (by omega) hW)
      have hC := Below.refl wr.heap.size wr
      have HW := fun W hW => Lib.hid (along_any r (secretS seed key k) k 0 15 W hz (by omega) (by omega) (by omega) hW)
      obtain ⟨y, hy⟩ : ∃ y, y = secretS seed key k := ⟨_, rfl⟩
      rw [show markS 115 [seed, numS key, numS k] = y from by rw [hy]; rfl] at HS
      rw [← hy] at HW hz
      have HY := Lib.hid hy
      clear hy hsz
      go_wp2_with (first
        | (go_at_call 20; refine (rnum_any _ _ (by have := H0.out; omega) (by have := H1.out; omega)).mono ?_; rintro e w1 ⟨rfl, hB1⟩; have hC := hC.trans (hB1.mono hC.size))
        | (go_at_call 22; refine (HS _ ((HK.out.mono HB.out).mono hC)).out.mono ?_; rintro e w1 ⟨rfl, hB1⟩; have hC := hC.trans (hB1.mono hC.size))
        | (go_at_call 99; refine (HW _ ((HK.out.mono HB.out).mono hC)).out.mono ?_; rintro e w2 ⟨rfl, hB2⟩; have hC := hC.trans (hB2.mono hC.size); have hOw := HO.out.below hC (fun j hj => (HO.out.lt j hj).2); have hbw2 := Nat.le_trans hbw hC.size)
        | (at_builtin; refine app_lit rfl _ _ 22 rfl w.heap.size 9 (.string ⟨#[]⟩) 1 16 u_strs i_str rfl (by decide) _ _ _ rfl hOw 1 _ rfl rfl (by intro u hu; simp at hu; subst hu; rfl) (by omega) (by omega) hbw2 ?_; intro v1 w3 hown1 hgrow1))
      have hrow : ∀ j, u8.ownBlock = some j → w.heap.size ≤ j := fun j hj => (HO.out.lt j hj).1
      go_roundw
      case rel =>
        refine ⟨k + 1, hlt, by go_num, ?_, (HB.out.trans (hC.mono HB.out.size)).grown hgrow1 hbw2 hrow⟩
        rw [pubL_succ, strV_snoc, ← HY.out]
        exact hown1
      case measure => simp [intOf]; omega
    · have hd1 : decide (k < 35) = false := decide_eq_false hlt
      have e1 : ¬ (k : Int) < 35 := by omega
      have hk35 : k = 35 := by omega
      have hO35 : Own wr w.heap.size 9 1 u8 35 (strV (pubL seed key 35)) := by
        have := HO.out
        rwa [hk35] at this
      obtain ⟨g, cap, hu, hg1, hg2, hnc, hcm⟩ := hO35.some_ (by omega)
      have HM := Lib.hid (rmark_any r 112 u8 (pubL seed key 35) wr (HK.out.mono HB.out) (by rw [show (pubL seed key 35).length = 35 from by simp [pubL]]; exact Reads.of_own hO35) (small_mark 112 _ (by simp [pubL]) (pubL_small _ _ _)))
      clear hk35 hO35 hlt hu hg1 hg2 hnc hcm
      go_wp2_with (go_at_call 22; refine HM.out.mono ?_; rintro e w1 ⟨rfl, hB1⟩)
      go_ret2
      exact ⟨rfl, HB.out.trans (hB1.mono HB.out.size)⟩
theorem rpublic_no (r : Nat) (seed : ByteArray) (key : Int) (w : World) (h16 : seed.size ≠ 16) :
    Calls Tryd.prog 24 #[.pointer (some ⟨r, 0, none⟩), .string seed, .int .i64 key] w fun e w' => e = .returned (.tuple #[.string ⟨#[]⟩, .int .i64 1]) ∧ w' = w := by
  go_enter Tryd.func24, Tryd.ntmps24
  go_wp2_with (go_at_call 98; refine (rmk_no _ _ h16).mono ?_; rintro e w0 ⟨rfl, rfl⟩)
  go_ret2
  exact ⟨rfl, rfl⟩

set_option maxRecDepth 100000 in
set_option maxHeartbeats 2000000 in
theorem rsign_ok (r : Nat) (seed : ByteArray) (key : Int) (m : ByteArray) (w : World) (h16 : seed.size = 16) (hm16 : m.size = 16) (h0 : -9223372036854775808 ≤ key) (h1 : key ≤ 9223372036854775807) (hK : RAt w r) :
    Calls Tryd.prog 27 #[.pointer (some ⟨r, 0, none⟩), .string seed, .int .i64 key, .string m] w fun e w' => ∃ v, e = .returned (.tuple #[v, .int .i64 0]) ∧ Own w' w.heap.size 9 1 v 35 (strV (signL seed key m 35)) ∧ Below w.heap.size w w' := by
  have HK := Lib.hid hK
  have h60 : seed.size ≤ 60 := by omega
  have H0 := Lib.hid h0
  have H1 := Lib.hid h1
  have hml : m.data.toList.length = 16 := by simpa using hm16
  obtain ⟨D, hD⟩ : ∃ D, D = digitsL m.data.toList := ⟨_, rfl⟩
  have hDl : Hid (D.length = 35) := by unfold Hid; rw [hD]; exact digitsL_length _ hml
  have hDb : Hid (∀ d ∈ D, d ≤ 15) := by unfold Hid; rw [hD]; exact digitsL_le _ hml
  have HD := Lib.hid hD
  have HG := Lib.hid (rdigits_any m (by omega) w)
  clear hK h0 h1 hml hD
  go_enter Tryd.func27, Tryd.ntmps27
  go_wp2_with (first | (go_at_call 98; refine (rmk_yes _ _ (by omega)).mono ?_; rintro e w0 ⟨rfl, rfl⟩) | (go_at_call 103; refine HG.out.mono ?_; rintro e w1 ⟨v, rfl, hOd, hBd⟩; obtain ⟨g, cap, rfl, hg1, hg2, hnc, hcm⟩ := hOd.some_ (by omega); have HOd : Hid (Own w1 w.heap.size 3 1 (.slice (some ⟨g, 0, none⟩) 35 cap) 35 (ic D)) := (by have h2 : 2 * m.size + 3 = 35 := (by omega); unfold Hid; rw [HD.out]; rw [h2] at hOd; exact hOd); have h35 : 2 * m.size + 3 = 35 := (by omega); rw [h35]))
  go_loopw [10, 24] (fun v i wr => ∃ k : Nat, k ≤ 35 ∧ i = .int .i64 k ∧ Own wr w1.heap.size 9 1 v k (strV (signL seed key m k)) ∧ Below w1.heap.size w1 wr) (fun _ i _ => 35 - (intOf i).toNat)
  case atStart => exact ⟨0, by omega, rfl, Own.nil _ _ _ _, Below.refl _ _⟩
  case round =>
    obtain ⟨k, hk, rfl, hO, hB⟩ := hrel
    have HO := Lib.hid hO
    have HB := Lib.hid hB
    have hbw := hB.size
    have HOd2 := Lib.hid (HOd.out.below hB (fun j hj => (HOd.out.lt j hj).2))
    have HKw := Lib.hid ((HK.out.mono hBd).mono hB)
    clear hO hB
    by_cases hlt : k < 35
    · have e1 : (k : Int) < 35 := by omega
      have hkD : k < D.length := by rw [hDl.out]; exact hlt
      obtain ⟨d, hd⟩ : ∃ d, D[k]? = some d := ⟨_, List.getElem?_eq_getElem hkD⟩
      have hd15 : d ≤ 15 := hDb.out d (List.mem_of_getElem? hd)
      have hcell := HOd2.out.cell (g := g) rfl (show (ic D)[k]? = some (.int .i64 (d : Int)) from by unfold ic; rw [List.getElem?_map, hd]; rfl)
      have hgd : Hid ((digitsL m.data.toList).getD k 0 = d) := by unfold Hid; rw [← HD.out, List.getD_eq_getElem?_getD, hd]; rfl
      have hsz := secretS_size seed key k
      have hz : (secretS seed key k).size ≤ 60 := by omega
      have hn1 := numS_size key
      have hn2 := numS_size (k : Int)
      have HS := fun W hW => Lib.hid (rmark3 r 115 115 rfl seed (numS key) (numS k) W (by omega) (by omega) (by omega) hW)
      have hC := Below.refl wr.heap.size wr
      have HW := fun W hW => Lib.hid (along_any r (secretS seed key k) k 0 d W hz (by omega) (by omega) (by omega) hW)
      obtain ⟨y, hy⟩ : ∃ y, y = secretS seed key k := ⟨_, rfl⟩
      rw [show markS 115 [seed, numS key, numS k] = y from by rw [hy]; rfl] at HS
      rw [← hy] at HW hz
      have HY := Lib.hid hy
      clear hy hsz hd hkD
      go_wp2_with (first
        | (go_at_call 20; refine (rnum_any _ _ (by have := H0.out; omega) (by have := H1.out; omega)).mono ?_; rintro e w2 ⟨rfl, hB1⟩; have hC := hC.trans (hB1.mono hC.size))
        | (go_at_call 22; refine (HS _ (HKw.out.mono hC)).out.mono ?_; rintro e w2 ⟨rfl, hB1⟩; have hC := hC.trans (hB1.mono hC.size))
        | (go_at_call 99; refine (HW _ (HKw.out.mono hC)).out.mono ?_; rintro e w3 ⟨rfl, hB2⟩; have hC := hC.trans (hB2.mono hC.size); have hOw := HO.out.below hC (fun j hj => (HO.out.lt j hj).2); have hbw2 := Nat.le_trans hbw hC.size)
        | (at_builtin; refine app_lit rfl _ _ 22 rfl w1.heap.size 9 (.string ⟨#[]⟩) 1 16 u_strs i_str rfl (by decide) _ _ _ rfl hOw 1 _ rfl rfl (by intro u hu; simp at hu; subst hu; rfl) (by omega) (by omega) hbw2 ?_; intro v1 w4 hown1 hgrow1))
      have hrow : ∀ j, u10.ownBlock = some j → w1.heap.size ≤ j := fun j hj => (HO.out.lt j hj).1
      go_roundw
      case rel =>
        refine ⟨k + 1, hlt, by go_num, ?_, (HB.out.trans (hC.mono HB.out.size)).grown hgrow1 hbw2 hrow⟩
        rw [signL_succ, strV_snoc, hgd.out, ← HY.out]
        exact hown1
      case measure => simp [intOf]; omega
    · have hd1 : decide (k < 35) = false := decide_eq_false hlt
      have e1 : ¬ (k : Int) < 35 := by omega
      have hk35 : k = 35 := by omega
      have hO35 : Hid (Own wr w1.heap.size 9 1 u10 35 (strV (signL seed key m 35))) := by
        have := HO.out
        rwa [hk35] at this
      clear hk35 hlt
      go_wp2_with fail
      go_ret2
      exact ⟨u10, rfl, hO35.out.base_mono hBd.size, hBd.trans (HB.out.mono hBd.size)⟩
theorem rsign_no (r : Nat) (seed : ByteArray) (key : Int) (m : ByteArray) (w : World) (h : ¬ (seed.size = 16 ∧ m.size = 16)) :
    Calls Tryd.prog 27 #[.pointer (some ⟨r, 0, none⟩), .string seed, .int .i64 key, .string m] w fun e w' => e = .returned (.tuple #[.slice none 0 0, .int .i64 1]) ∧ w' = w := by
  by_cases h1 : seed.size = 16
  · have h2 : m.size ≠ 16 := fun h2 => h ⟨h1, h2⟩
    clear h
    go_enter Tryd.func27, Tryd.ntmps27
    go_wp2_with (go_at_call 98; first | ((with_reducible refine (rmk_yes seed _ h1).mono ?_); rintro e w0 ⟨rfl, rfl⟩) | ((with_reducible refine (rmk_no m _ h2).mono ?_); rintro e w0 ⟨rfl, rfl⟩))
    go_ret2
    exact ⟨rfl, rfl⟩
  · clear h
    go_enter Tryd.func27, Tryd.ntmps27
    go_wp2_with (go_at_call 98; refine (rmk_no _ _ h1).mono ?_; rintro e w0 ⟨rfl, rfl⟩)
    go_ret2
    exact ⟨rfl, rfl⟩
end Go.Proofs.YtfhjnfocmlndpaaDoor
