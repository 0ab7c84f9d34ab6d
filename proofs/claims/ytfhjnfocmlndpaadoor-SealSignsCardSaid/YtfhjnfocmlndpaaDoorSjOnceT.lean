/- once.From, as the reference tells it. -/
import Derived.Test.YtfhjnfocmlndpaaDoorSjOnceQ
namespace Go.Proofs.YtfhjnfocmlndpaaDoor
open Go Go.RowKit Go.Proofs

def AllPost (l : List ByteArray) (w : World) (e : Ending) (w' : World) : Prop := ∃ b : Bool, e = .returned (.bool b) ∧ w = w' ∧ (b = true → ∀ p ∈ l, p.size = 16) ∧ (b = false → ∃ p ∈ l, p.size ≠ 16)
set_option maxHeartbeats 1000000 in
theorem rmarks_any (v : Value) (l : List ByteArray) (w : World) (hv : Reads w v l.length 1 (l.map Value.string)) (hl : l.length ≤ 1000000) :
    Calls Tryd.prog 105 #[v] w (AllPost l w) := by
  obtain ⟨a, cap, rfl⟩ : ∃ a cap, v = .slice a l.length cap := by
    rcases hv.2 with ⟨_, a, c, rfl⟩ | ⟨b, off, cap, rfl, _⟩
    · exact ⟨a, c, rfl⟩
    · exact ⟨_, cap, rfl⟩
  obtain ⟨n, hn⟩ : ∃ n, n = l.length := ⟨_, rfl⟩
  rw [← hn] at hv
  have Hv := Lib.hid hv
  have Hn := Lib.hid hn
  have hnb : n ≤ 1000000 := by omega
  rw [← hn]
  clear hn hv hl
  go_enter Tryd.func105, Tryd.ntmps105
  go_wp2_with fail
  go_loopw [7] (fun i wr => ∃ k : Nat, k ≤ n ∧ i = .int .i64 k ∧ wr = w ∧ ∀ p ∈ l.take k, p.size = 16) (fun i _ => n - (intOf i).toNat)
  case atStart => exact ⟨0, Nat.zero_le _, rfl, rfl, by simp⟩
  case round =>
    obtain ⟨k, hk, rfl, rfl, hall⟩ := hrel
    have HA := Lib.hid hall
    clear hall
    by_cases hlt : k < n
    · have hkl : k < l.length := by have := Hn.out; omega
      obtain ⟨p, hp⟩ : ∃ p, l[k]? = some p := ⟨l[k], List.getElem?_eq_getElem hkl⟩
      obtain ⟨b, off, hcell⟩ : ∃ b off, a = some ⟨b, off, none⟩ ∧ wr.cell? ⟨b, off + k, none⟩ = some (.string p) := by
        rcases Hv.out.2 with ⟨h0, _⟩ | ⟨b, off, cap', he, hc⟩
        · have : l = [] := by simpa using h0
          rw [this] at hkl; simp at hkl
        · simp only [Value.slice.injEq] at he
          exact ⟨b, off, he.1, hc k _ (by simp [hp])⟩
      obtain ⟨rfl, hcell⟩ := hcell
      have hmem : p ∈ l := List.mem_of_getElem? hp
      have HP := Lib.hid hp
      clear hp
      have e2 : (k : Int) < n := by omega
      by_cases h16 : p.size = 16
      · have HL := Lib.hid (rmk_yes p wr h16)
        go_wp2_with (go_at_call 98; refine HL.out.mono ?_; rintro e w1 ⟨rfl, rfl⟩)
        go_roundw
        case rel =>
          refine ⟨k + 1, by omega, by go_num, by first | rfl | trivial, ?_⟩
          intro q hq
          rw [List.take_succ_eq_append_getElem hkl, List.mem_append] at hq
          rcases hq with hq | hq
          · exact HA.out q hq
          · have : q = p := by
              have h1 := HP.out
              rw [List.getElem?_eq_getElem hkl] at h1
              simp at hq
              rw [hq]; exact Option.some.inj h1
            rw [this]; exact h16
        case measure => simp [intOf]; omega
      · have HL := Lib.hid (rmk_no p wr h16)
        go_wp2_with (go_at_call 98; refine HL.out.mono ?_; rintro e w1 ⟨rfl, rfl⟩)
        go_ret
        exact ⟨false, rfl, rfl, fun h => (by cases h), fun _ => ⟨p, hmem, h16⟩⟩
    · have hge : n ≤ k := by omega
      have hd1 : decide (k < n) = false := decide_eq_false hlt
      have e2 : ¬ (k : Int) < n := by omega
      go_wp2_with fail
      go_ret
      refine ⟨true, rfl, rfl, fun _ => ?_, fun h => (by cases h)⟩
      have := HA.out
      rwa [List.take_of_length_le (by have := Hn.out; omega)] at this
set_option maxRecDepth 100000 in
set_option maxHeartbeats 2000000 in
theorem rfrom_ok (r : Nat) (m : ByteArray) (v : Value) (l : List ByteArray) (w : World) (hm16 : m.size = 16) (hl : l.length = 35) (h16 : ∀ p ∈ l, p.size = 16) (hv : Reads w v l.length 1 (l.map Value.string)) (hK : RAt w r) :
    Calls Tryd.prog 30 #[.pointer (some ⟨r, 0, none⟩), .string m, v] w fun e w' => e = .returned (.tuple #[.string (fromS m l), .int .i64 0]) ∧ Below w.heap.size w w' := by
  obtain ⟨b0, off0, cap0, rfl, hcell0⟩ : ∃ b off cap, v = .slice (some ⟨b, off, none⟩) 35 cap ∧ ∀ j u, (l.map Value.string)[j]? = some u → w.cell? ⟨b, off + j, none⟩ = some u := by
    rcases hv.2 with ⟨h0, _⟩ | ⟨b, off, cap, rfl, hc⟩
    · have : l = [] := by simpa using h0
      rw [this] at hl; simp at hl
    · exact ⟨b, off, cap, by rw [hl], hc⟩
  have hRd := hv
  rw [hl] at hRd
  have HK := Lib.hid hK
  have hml : m.data.toList.length = 16 := by simpa using hm16
  obtain ⟨D, hD⟩ : ∃ D, D = digitsL m.data.toList := ⟨_, rfl⟩
  have hDl : Hid (D.length = 35) := by unfold Hid; rw [hD]; exact digitsL_length _ hml
  have hDb : Hid (∀ d ∈ D, d ≤ 15) := by unfold Hid; rw [hD]; exact digitsL_le _ hml
  have HD := Lib.hid hD
  have HG := Lib.hid (rdigits_any m (by omega) w)
  have HF := Lib.hid (rmarks_any _ l w hv (by omega))
  have HL := Lib.hid hl
  have HA := Lib.hid h16
  have HC0 := Lib.hid hcell0
  have HR := Lib.hid hRd
  clear hK hml hD hv hl h16 hcell0 hRd
  go_enter Tryd.func30, Tryd.ntmps30
  go_wp2_with (first
    | (go_at_call 98; refine (rmk_yes _ _ hm16).mono ?_; rintro e w0 ⟨rfl, rfl⟩)
    | (go_at_call 105; refine HF.out.mono ?_; rintro e w0 ⟨b, rfl, rfl, hb1, hb2⟩; obtain rfl : b = true := (by cases b with | true => rfl | false => obtain ⟨p, hp, hq⟩ := hb2 rfl; exact absurd (HA.out p hp) hq); clear hb1 hb2)
    | (go_at_call 103; refine HG.out.mono ?_; rintro e w1 ⟨v, rfl, hOd, hBd⟩; obtain ⟨g, cap, rfl, hg1, hg2, hnc, hcm⟩ := hOd.some_ (by omega); have HOd : Hid (Own w1 w.heap.size 3 1 (.slice (some ⟨g, 0, none⟩) 35 cap) 35 (ic D)) := (by have h2 : 2 * m.size + 3 = 35 := (by omega); unfold Hid; rw [HD.out]; rw [h2] at hOd; exact hOd); have h35 : 2 * m.size + 3 = 35 := (by omega); rw [h35]))
  go_loopw [8, 27] (fun v i wr => ∃ k : Nat, k ≤ 35 ∧ i = .int .i64 k ∧ Own wr w1.heap.size 9 1 v k (strV (fromL m l k)) ∧ Below w1.heap.size w1 wr) (fun _ i _ => 35 - (intOf i).toNat)
  case atStart => exact ⟨0, by omega, rfl, Own.nil _ _ _ _, Below.refl _ _⟩
  case round =>
    obtain ⟨k, hk, rfl, hO, hB⟩ := hrel
    have HO := Lib.hid hO
    have HB := Lib.hid hB
    have hbw := hB.size
    have HOd2 := Lib.hid (HOd.out.below hB (fun j hj => (HOd.out.lt j hj).2))
    have HKw := Lib.hid ((HK.out.mono hBd).mono hB)
    have hBa := hBd.trans (hB.mono hBd.size)
    have HBa := Lib.hid hBa
    clear hO hB hBa
    by_cases hlt : k < 35
    · have e1 : (k : Int) < 35 := by omega
      have hkD : k < D.length := by rw [hDl.out]; exact hlt
      obtain ⟨d, hd⟩ : ∃ d, D[k]? = some d := ⟨_, List.getElem?_eq_getElem hkD⟩
      have hd15 : d ≤ 15 := hDb.out d (List.mem_of_getElem? hd)
      have hcell := HOd2.out.cell (g := g) rfl (show (ic D)[k]? = some (.int .i64 (d : Int)) from by unfold ic; rw [List.getElem?_map, hd]; rfl)
      have hgd : Hid ((digitsL m.data.toList).getD k 0 = d) := by unfold Hid; rw [← HD.out, List.getD_eq_getElem?_getD, hd]; rfl
      have hkl : k < l.length := by rw [HL.out]; exact hlt
      obtain ⟨p, hp⟩ : ∃ p, l[k]? = some p := ⟨_, List.getElem?_eq_getElem hkl⟩
      have hp16 : p.size = 16 := HA.out p (List.mem_of_getElem? hp)
      have hpc := HC0.out k (.string p) (by rw [List.getElem?_map, hp]; rfl)
      have hpcl := cell_lt hpc
      have hcp : wr.cell? ⟨b0, off0 + k, none⟩ = some (.string p) := by rw [HBa.out.cell (by exact hpcl)]; exact hpc
      have hgp : Hid (l.getD k ⟨#[]⟩ = p) := by unfold Hid; rw [List.getD_eq_getElem?_getD, hp]; rfl
      have HW := fun W hW => Lib.hid (along_any r p k d 15 W (by omega) (by omega) (by omega) (by omega) hW)
      clear hd hkD hpc hpcl hp hkl
      go_wp2_with (first
        | (go_at_call 99; refine (HW _ HKw.out).out.mono ?_; rintro e w3 ⟨rfl, hC⟩; have hOw := HO.out.below hC (fun j hj => (HO.out.lt j hj).2); have hbw2 := Nat.le_trans hbw hC.size)
        | (at_builtin; refine app_lit rfl _ _ 22 rfl w1.heap.size 9 (.string ⟨#[]⟩) 1 16 u_strs i_str rfl (by decide) _ _ _ rfl hOw 1 _ rfl rfl (by intro u hu; simp at hu; subst hu; rfl) (by omega) (by omega) hbw2 ?_; intro v1 w4 hown1 hgrow1))
      have hrow : ∀ j, u8.ownBlock = some j → w1.heap.size ≤ j := fun j hj => (HO.out.lt j hj).1
      go_roundw
      case rel =>
        refine ⟨k + 1, hlt, by go_num, ?_, (HB.out.trans (hC.mono HB.out.size)).grown hgrow1 hbw2 hrow⟩
        rw [fromL_succ, strV_snoc, hgd.out, hgp.out]
        exact hown1
      case measure => simp [intOf]; omega
    · have hd1 : decide (k < 35) = false := decide_eq_false hlt
      have e1 : ¬ (k : Int) < 35 := by omega
      have hk35 : k = 35 := by omega
      have hO35 : Own wr w1.heap.size 9 1 u8 35 (strV (fromL m l 35)) := by
        have := HO.out
        rwa [hk35] at this
      have HM := Lib.hid (rmark_any r 112 u8 (fromL m l 35) wr HKw.out (by rw [show (fromL m l 35).length = 35 from by simp [fromL]]; exact Reads.of_own hO35) (small_mark 112 _ (by simp [fromL]) (fromL_small _ _ _ HA.out)))
      clear hk35 hO35 hlt
      go_wp2_with (go_at_call 22; refine HM.out.mono ?_; rintro e w4 ⟨rfl, hB1⟩)
      go_ret2
      exact ⟨rfl, HBa.out.trans (hB1.mono HBa.out.size)⟩
theorem rfrom_no (r : Nat) (m : ByteArray) (v : Value) (l : List ByteArray) (w : World) (h : ¬ (m.size = 16 ∧ l.length = 35 ∧ ∀ p ∈ l, p.size = 16)) (hl : l.length ≤ 1000000) (hv : Reads w v l.length 1 (l.map Value.string)) :
    Calls Tryd.prog 30 #[.pointer (some ⟨r, 0, none⟩), .string m, v] w fun e w' => e = .returned (.tuple #[.string ⟨#[]⟩, .int .i64 1]) ∧ w' = w := by
  have HF := Lib.hid (rmarks_any v l w hv hl)
  obtain ⟨a, cap, rfl⟩ : ∃ a cap, v = .slice a l.length cap := by
    rcases hv.2 with ⟨_, a, c, rfl⟩ | ⟨b, off, cap, rfl, _⟩
    · exact ⟨a, c, rfl⟩
    · exact ⟨_, cap, rfl⟩
  clear hv
  obtain ⟨n, hn⟩ : ∃ n, n = l.length := ⟨_, rfl⟩
  rw [← hn] at HF hl h ⊢
  clear hn
  by_cases h1 : m.size = 16
  · by_cases h2 : n = 35
    · have e3 : ((n : Int) != 35) = false := by rw [bne_eq_false_iff_eq]; omega
      have e4 : ((n : Int) == 35) = true := by rw [beq_iff_eq]; omega
      have h3 : Hid (¬ ∀ p ∈ l, p.size = 16) := fun h3 => h ⟨h1, h2, h3⟩
      have H1 := Lib.hid h1
      clear h h2 h1
      go_enter Tryd.func30, Tryd.ntmps30
      go_wp2_with (first
        | (go_at_call 98; refine (rmk_yes _ _ H1.out).mono ?_; rintro e w0 ⟨rfl, rfl⟩)
        | (go_at_call 105; refine HF.out.mono ?_; rintro e w1 ⟨b, rfl, rfl, hb1, hb2⟩; obtain rfl : b = false := (by cases b with | false => rfl | true => exact absurd (hb1 rfl) h3.out); clear hb1 hb2))
      go_ret2
      exact ⟨rfl, rfl⟩
    · have e3 : ((n : Int) != 35) = true := by rw [bne_iff_ne]; omega
      have e4 : ((n : Int) == 35) = false := by rw [beq_eq_false_iff_ne]; omega
      have H1 := Lib.hid h1
      clear h h1
      go_enter Tryd.func30, Tryd.ntmps30
      go_wp2_with (go_at_call 98; refine (rmk_yes _ _ H1.out).mono ?_; rintro e w0 ⟨rfl, rfl⟩)
      go_ret2
      exact ⟨rfl, rfl⟩
  · have H1 := Lib.hid h1
    clear h h1
    go_enter Tryd.func30, Tryd.ntmps30
    go_wp2_with (go_at_call 98; refine (rmk_no _ _ H1.out).mono ?_; rintro e w0 ⟨rfl, rfl⟩)
    go_ret2
    exact ⟨rfl, rfl⟩
end Go.Proofs.YtfhjnfocmlndpaaDoor
