/- once.From, walked. -/
import Derived.Test.YtfhjnfocmlndpaaDoorSjOnceS
namespace Go.Proofs.YtfhjnfocmlndpaaDoor
open Go Go.RowKit Go.Proofs

theorem pred_any (p : ByteArray) (w : World) : Calls Tryd.prog 107 #[.string p] w fun e w' => e = .returned (.bool (decide (p.size ≠ 16))) ∧ w' = w := by
  by_cases h : p.size = 16
  · have e1 : ((p.size : Int) != 16) = false := by rw [bne_eq_false_iff_eq]; omega
    have e2 : ((p.size : Int) == 16) = true := by rw [beq_iff_eq]; omega
    have e3 : decide (p.size ≠ 16) = false := by simpa using h
    go_enter Tryd.func107, Tryd.ntmps107
    go_wp2_with fail
    go_ret
    exact ⟨by rw [e3]; rfl, rfl⟩
  · have e1 : ((p.size : Int) != 16) = true := by rw [bne_iff_ne]; omega
    have e2 : ((p.size : Int) == 16) = false := by rw [beq_eq_false_iff_ne]; omega
    have e3 : decide (p.size ≠ 16) = true := by simpa using h
    go_enter Tryd.func107, Tryd.ntmps107
    go_wp2_with fail
    go_ret
    exact ⟨by rw [e3]; rfl, rfl⟩

def FindPost (l : List ByteArray) (w : World) (e : Ending) (w' : World) : Prop := ∃ j : Int, e = .returned (.int .i64 j) ∧ w' = w ∧ (j < 0 → ∀ p ∈ l, p.size = 16) ∧ (0 ≤ j → ∃ p ∈ l, p.size ≠ 16)
set_option maxHeartbeats 1000000 in
theorem index_any (v : Value) (l : List ByteArray) (w : World) (hv : Reads w v l.length 1 (l.map Value.string)) (hl : l.length ≤ 1000000) :
    Calls Tryd.prog 148 #[v, .func (Fn.func 107) #[] #[]] w (FindPost l w) := by
  obtain ⟨a, cap, rfl⟩ : ∃ a cap, v = .slice a l.length cap := by
    rcases hv.2 with ⟨_, a, c, rfl⟩ | ⟨b, off, cap, rfl, _⟩
    · exact ⟨a, c, rfl⟩
    · exact ⟨_, cap, rfl⟩
  obtain ⟨n, hn⟩ : ∃ n, n = l.length := ⟨_, rfl⟩
  rw [← hn] at hv
  have Hv := Lib.hid hv
  have Hn := Lib.hid hn
  have hnb : n ≤ 1000000 := by omega
  rw [← hn]
  clear hn hv hl
  go_enter Tryd.func148, Tryd.ntmps148
  go_wp2_with fail
  go_loopw [8] (fun i wr => ∃ k : Nat, k ≤ n ∧ i = .int .i64 k ∧ wr = w ∧ ∀ p ∈ l.take k, p.size = 16) (fun i _ => n - (intOf i).toNat)
  case atStart => exact ⟨0, Nat.zero_le _, rfl, rfl, by simp⟩
  case round =>
    obtain ⟨k, hk, rfl, rfl, hall⟩ := hrel
    have HA := Lib.hid hall
    clear hall
    by_cases hlt : k < n
    · have hkl : k < l.length := by have := Hn.out; omega
      obtain ⟨p, hp⟩ : ∃ p, l[k]? = some p := ⟨l[k], List.getElem?_eq_getElem hkl⟩
      obtain ⟨b, off, hcell⟩ : ∃ b off, a = some ⟨b, off, none⟩ ∧ wr.cell? ⟨b, off + k, none⟩ = some (.string p) := by
        rcases Hv.out.2 with ⟨h0, _⟩ | ⟨b, off, cap', he, hc⟩
        · have : l = [] := by simpa using h0
          rw [this] at hkl; simp at hkl
        · simp only [Value.slice.injEq] at he
          exact ⟨b, off, he.1, hc k _ (by simp [hp])⟩
      obtain ⟨rfl, hcell⟩ := hcell
      have hmem : p ∈ l := List.mem_of_getElem? hp
      have HP := Lib.hid hp
      clear hp
      have e2 : (k : Int) < n := by omega
      by_cases h16 : p.size = 16
      · have hL : Calls Tryd.prog 107 #[.string p] wr fun e w' => e = .returned (.bool false) ∧ w' = wr := by
          refine (pred_any p wr).mono ?_
          rintro e w' ⟨rfl, rfl⟩
          exact ⟨by rw [show decide (p.size ≠ 16) = false from by simpa using h16], rfl⟩
        have HL := Lib.hid hL
        clear hL
        go_wp2_with (go_at_call 107; refine HL.out.mono ?_; rintro e w1 ⟨rfl, rfl⟩)
        go_roundw
        case rel =>
          refine ⟨k + 1, by omega, by go_num, by first | rfl | trivial, ?_⟩
          intro q hq
          rw [List.take_succ_eq_append_getElem hkl, List.mem_append] at hq
          rcases hq with hq | hq
          · exact HA.out q hq
          · have : q = p := by
              have h1 := HP.out
              rw [List.getElem?_eq_getElem hkl] at h1
              simp at hq
              rw [hq]; exact Option.some.inj h1
            rw [this]; exact h16
        case measure => simp [intOf]; omega
      · have hL : Calls Tryd.prog 107 #[.string p] wr fun e w' => e = .returned (.bool true) ∧ w' = wr := by
          refine (pred_any p wr).mono ?_
          rintro e w' ⟨rfl, rfl⟩
          exact ⟨by rw [show decide (p.size ≠ 16) = true from by simpa using h16], rfl⟩
        have HL := Lib.hid hL
        clear hL
        go_wp2_with (go_at_call 107; refine HL.out.mono ?_; rintro e w1 ⟨rfl, rfl⟩)
        go_ret
        exact ⟨k, rfl, rfl, fun h => by omega, fun _ => ⟨p, hmem, h16⟩⟩
    · have hge : n ≤ k := by omega
      have hd1 : decide (k < n) = false := decide_eq_false hlt
      have e2 : ¬ (k : Int) < n := by omega
      go_wp2_with fail
      go_ret
      refine ⟨-1, rfl, rfl, fun _ => ?_, fun h => by omega⟩
      have := HA.out
      rwa [List.take_of_length_le (by have := Hn.out; omega)] at this
def HasPost (l : List ByteArray) (w : World) (e : Ending) (w' : World) : Prop := ∃ b : Bool, e = .returned (.bool b) ∧ w' = w ∧ (b = false → ∀ p ∈ l, p.size = 16) ∧ (b = true → ∃ p ∈ l, p.size ≠ 16)
theorem has_any (v : Value) (l : List ByteArray) (w : World) (hv : Reads w v l.length 1 (l.map Value.string)) (hl : l.length ≤ 1000000) :
    Calls Tryd.prog 106 #[v, .func (Fn.func 107) #[] #[]] w (HasPost l w) := by
  have HI := Lib.hid (index_any v l w hv hl)
  clear hv hl
  go_enter Tryd.func106, Tryd.ntmps106
  go_wp2_with (go_at_call 148; refine HI.out.mono ?_; rintro e w1 ⟨j, rfl, rfl, h1, h2⟩)
  go_ret
  refine ⟨decide (0 ≤ j), rfl, rfl, fun h => h1 ?_, fun h => h2 ?_⟩
  · have := of_decide_eq_false h; omega
  · exact of_decide_eq_true h
end Go.Proofs.YtfhjnfocmlndpaaDoor

namespace Go.Proofs.YtfhjnfocmlndpaaDoor
open Go Go.RowKit Go.Proofs

theorem pred_anyS (p : ByteArray) (w : World) : Calls Tryd.prog 131 #[.string p] w fun e w' => e = .returned (.bool (decide (p.size ≠ 16))) ∧ w' = w := by
  by_cases h : p.size = 16
  · have e1 : ((p.size : Int) != 16) = false := by rw [bne_eq_false_iff_eq]; omega
    have e2 : ((p.size : Int) == 16) = true := by rw [beq_iff_eq]; omega
    have e3 : decide (p.size ≠ 16) = false := by simpa using h
    go_enter Tryd.func131, Tryd.ntmps131
    go_wp2_with fail
    go_ret
    exact ⟨by rw [e3]; rfl, rfl⟩
  · have e1 : ((p.size : Int) != 16) = true := by rw [bne_iff_ne]; omega
    have e2 : ((p.size : Int) == 16) = false := by rw [beq_eq_false_iff_ne]; omega
    have e3 : decide (p.size ≠ 16) = true := by simpa using h
    go_enter Tryd.func131, Tryd.ntmps131
    go_wp2_with fail
    go_ret
    exact ⟨by rw [e3]; rfl, rfl⟩

set_option maxHeartbeats 1000000 in
theorem index_anyS (v : Value) (l : List ByteArray) (w : World) (hv : Reads w v l.length 1 (l.map Value.string)) (hl : l.length ≤ 1000000) :
    Calls Tryd.prog 148 #[v, .func (Fn.func 131) #[] #[]] w (FindPost l w) := by
  obtain ⟨a, cap, rfl⟩ : ∃ a cap, v = .slice a l.length cap := by
    rcases hv.2 with ⟨_, a, c, rfl⟩ | ⟨b, off, cap, rfl, _⟩
    · exact ⟨a, c, rfl⟩
    · exact ⟨_, cap, rfl⟩
  obtain ⟨n, hn⟩ : ∃ n, n = l.length := ⟨_, rfl⟩
  rw [← hn] at hv
  have Hv := Lib.hid hv
  have Hn := Lib.hid hn
  have hnb : n ≤ 1000000 := by omega
  rw [← hn]
  clear hn hv hl
  go_enter Tryd.func148, Tryd.ntmps148
  go_wp2_with fail
  go_loopw [8] (fun i wr => ∃ k : Nat, k ≤ n ∧ i = .int .i64 k ∧ wr = w ∧ ∀ p ∈ l.take k, p.size = 16) (fun i _ => n - (intOf i).toNat)
  case atStart => exact ⟨0, Nat.zero_le _, rfl, rfl, by simp⟩
  case round =>
    obtain ⟨k, hk, rfl, rfl, hall⟩ := hrel
    have HA := Lib.hid hall
    clear hall
    by_cases hlt : k < n
    · have hkl : k < l.length := by have := Hn.out; omega
      obtain ⟨p, hp⟩ : ∃ p, l[k]? = some p := ⟨l[k], List.getElem?_eq_getElem hkl⟩
      obtain ⟨b, off, hcell⟩ : ∃ b off, a = some ⟨b, off, none⟩ ∧ wr.cell? ⟨b, off + k, none⟩ = some (.string p) := by
        rcases Hv.out.2 with ⟨h0, _⟩ | ⟨b, off, cap', he, hc⟩
        · have : l = [] := by simpa using h0
          rw [this] at hkl; simp at hkl
        · simp only [Value.slice.injEq] at he
          exact ⟨b, off, he.1, hc k _ (by simp [hp])⟩
      obtain ⟨rfl, hcell⟩ := hcell
      have hmem : p ∈ l := List.mem_of_getElem? hp
      have HP := Lib.hid hp
      clear hp
      have e2 : (k : Int) < n := by omega
      by_cases h16 : p.size = 16
      · have hL : Calls Tryd.prog 131 #[.string p] wr fun e w' => e = .returned (.bool false) ∧ w' = wr := by
          refine (pred_anyS p wr).mono ?_
          rintro e w' ⟨rfl, rfl⟩
          exact ⟨by rw [show decide (p.size ≠ 16) = false from by simpa using h16], rfl⟩
        have HL := Lib.hid hL
        clear hL
        go_wp2_with (go_at_call 131; refine HL.out.mono ?_; rintro e w1 ⟨rfl, rfl⟩)
        go_roundw
        case rel =>
          refine ⟨k + 1, by omega, by go_num, by first | rfl | trivial, ?_⟩
          intro q hq
          rw [List.take_succ_eq_append_getElem hkl, List.mem_append] at hq
          rcases hq with hq | hq
          · exact HA.out q hq
          · have : q = p := by
              have h1 := HP.out
              rw [List.getElem?_eq_getElem hkl] at h1
              simp at hq
              rw [hq]; exact Option.some.inj h1
            rw [this]; exact h16
        case measure => simp [intOf]; omega
      · have hL : Calls Tryd.prog 131 #[.string p] wr fun e w' => e = .returned (.bool true) ∧ w' = wr := by
          refine (pred_anyS p wr).mono ?_
          rintro e w' ⟨rfl, rfl⟩
          exact ⟨by rw [show decide (p.size ≠ 16) = true from by simpa using h16], rfl⟩
        have HL := Lib.hid hL
        clear hL
        go_wp2_with (go_at_call 131; refine HL.out.mono ?_; rintro e w1 ⟨rfl, rfl⟩)
        go_ret
        exact ⟨k, rfl, rfl, fun h => by omega, fun _ => ⟨p, hmem, h16⟩⟩
    · have hge : n ≤ k := by omega
      have hd1 : decide (k < n) = false := decide_eq_false hlt
      have e2 : ¬ (k : Int) < n := by omega
      go_wp2_with fail
      go_ret
      refine ⟨-1, rfl, rfl, fun _ => ?_, fun h => by omega⟩
      have := HA.out
      rwa [List.take_of_length_le (by have := Hn.out; omega)] at this
theorem has_anyS (v : Value) (l : List ByteArray) (w : World) (hv : Reads w v l.length 1 (l.map Value.string)) (hl : l.length ≤ 1000000) :
    Calls Tryd.prog 106 #[v, .func (Fn.func 131) #[] #[]] w (HasPost l w) := by
  have HI := Lib.hid (index_anyS v l w hv hl)
  clear hv hl
  go_enter Tryd.func106, Tryd.ntmps106
  go_wp2_with (go_at_call 148; refine HI.out.mono ?_; rintro e w1 ⟨j, rfl, rfl, h1, h2⟩)
  go_ret
  refine ⟨decide (0 ≤ j), rfl, rfl, fun h => h1 ?_, fun h => h2 ?_⟩
  · have := of_decide_eq_false h; omega
  · exact of_decide_eq_true h
end Go.Proofs.YtfhjnfocmlndpaaDoor

namespace Go.Proofs.YtfhjnfocmlndpaaDoor
open Go Go.RowKit Go.Proofs

theorem fromL_small (m : ByteArray) (sig : List ByteArray) (n : Nat) (h : ∀ p ∈ sig, p.size = 16) : ∀ p ∈ fromL m sig n, p.size ≤ 1000 := by
  intro p hp
  obtain ⟨c, _, rfl⟩ := List.mem_map.1 hp
  refine Nat.le_trans (chainS_size _ _ _ _ ?_) (by decide)
  rw [List.getD_eq_getElem?_getD]
  cases hc : sig[c]? with
  | none => exact Nat.zero_le _
  | some q =>
    have := h q (List.mem_of_getElem? hc)
    show q.size ≤ 60
    omega
set_option maxRecDepth 100000 in
set_option maxHeartbeats 2000000 in
theorem from_ok (m : ByteArray) (v : Value) (l : List ByteArray) (w : World) (hm16 : m.size = 16) (hl : l.length = 35) (h16 : ∀ p ∈ l, p.size = 16) (hv : Reads w v l.length 1 (l.map Value.string)) (hK : KAt w 0) :
    Calls Tryd.prog 31 #[.string m, v] w fun e w' => e = .returned (.tuple #[.string (fromS m l), .nilIface]) ∧ Below w.heap.size w w' := by
  obtain ⟨b0, off0, cap0, rfl, hcell0⟩ : ∃ b off cap, v = .slice (some ⟨b, off, none⟩) 35 cap ∧ ∀ j u, (l.map Value.string)[j]? = some u → w.cell? ⟨b, off + j, none⟩ = some u := by
    rcases hv.2 with ⟨h0, _⟩ | ⟨b, off, cap, rfl, hc⟩
    · have : l = [] := by simpa using h0
      rw [this] at hl; simp at hl
    · exact ⟨b, off, cap, by rw [hl], hc⟩
  have hRd := hv
  rw [hl] at hRd
  have HK := Lib.hid hK
  have hml : m.data.toList.length = 16 := by simpa using hm16
  obtain ⟨D, hD⟩ : ∃ D, D = digitsL m.data.toList := ⟨_, rfl⟩
  have hDl : Hid (D.length = 35) := by unfold Hid; rw [hD]; exact digitsL_length _ hml
  have hDb : Hid (∀ d ∈ D, d ≤ 15) := by unfold Hid; rw [hD]; exact digitsL_le _ hml
  have HD := Lib.hid hD
  have HG := Lib.hid (digits_any m (by omega) w)
  have HF := Lib.hid (has_any _ l w hv (by omega))
  have HL := Lib.hid hl
  have HA := Lib.hid h16
  have HC0 := Lib.hid hcell0
  have HR := Lib.hid hRd
  clear hK hml hD hv hl h16 hcell0 hRd
  go_enter Tryd.func31, Tryd.ntmps31
  go_wp2_with (first
    | (go_at_call 106; refine HF.out.mono ?_; rintro e w0 ⟨b, rfl, hw0, hb1, hb2⟩; obtain rfl : w = w0 := hw0.symm; obtain rfl : b = false := (by cases b with | false => rfl | true => obtain ⟨p, hp, hq⟩ := hb2 rfl; exact absurd (HA.out p hp) hq); clear hb1 hb2)
    | (go_at_call 104; refine HG.out.mono ?_; rintro e w1 ⟨v, rfl, hOd, hBd⟩; obtain ⟨g, cap, rfl, hg1, hg2, hnc, hcm⟩ := hOd.some_ (by omega); have HOd : Hid (Own w1 w.heap.size 3 1 (.slice (some ⟨g, 0, none⟩) 35 cap) 35 (ic D)) := (by have h2 : 2 * m.size + 3 = 35 := (by omega); unfold Hid; rw [HD.out]; rw [h2] at hOd; exact hOd); have h35 : 2 * m.size + 3 = 35 := (by omega); rw [h35]))
  go_loopw [6, 25] (fun v i wr => ∃ k : Nat, k ≤ 35 ∧ i = .int .i64 k ∧ Own wr w1.heap.size 9 1 v k (strV (fromL m l k)) ∧ Below w1.heap.size w1 wr) (fun _ i _ => 35 - (intOf i).toNat)
  case atStart => exact ⟨0, by omega, rfl, Own.nil _ _ _ _, Below.refl _ _⟩
  case round =>
    obtain ⟨k, hk, rfl, hO, hB⟩ := hrel
    have HO := Lib.hid hO
    have HB := Lib.hid hB
    have hbw := hB.size
    have HOd2 := Lib.hid (HOd.out.below hB (fun j hj => (HOd.out.lt j hj).2))
    have HKw := Lib.hid ((HK.out.mono hBd).mono hB)
    have hBa := hBd.trans (hB.mono hBd.size)
    have HBa := Lib.hid hBa
    clear hO hB hBa
    by_cases hlt : k < 35
    · have e1 : (k : Int) < 35 := by omega
      have hkD : k < D.length := by rw [hDl.out]; exact hlt
      obtain ⟨d, hd⟩ : ∃ d, D[k]? = some d := ⟨_, List.getElem?_eq_getElem hkD⟩
      have hd15 : d ≤ 15 := hDb.out d (List.mem_of_getElem? hd)
      have hcell := HOd2.out.cell (g := g) rfl (show (ic D)[k]? = some (.int .i64 (d : Int)) from by unfold ic; rw [List.getElem?_map, hd]; rfl)
      have hgd : Hid ((digitsL m.data.toList).getD k 0 = d) := by unfold Hid; rw [← HD.out, List.getD_eq_getElem?_getD, hd]; rfl
      have hkl : k < l.length := by rw [HL.out]; exact hlt
      obtain ⟨p, hp⟩ : ∃ p, l[k]? = some p := ⟨_, List.getElem?_eq_getElem hkl⟩
      have hp16 : p.size = 16 := HA.out p (List.mem_of_getElem? hp)
      have hpc := HC0.out k (.string p) (by rw [List.getElem?_map, hp]; rfl)
      have hpcl := cell_lt hpc
      have hcp : wr.cell? ⟨b0, off0 + k, none⟩ = some (.string p) := by rw [HBa.out.cell (by exact hpcl)]; exact hpc
      have hgp : Hid (l.getD k ⟨#[]⟩ = p) := by unfold Hid; rw [List.getD_eq_getElem?_getD, hp]; rfl
      have HW := fun W hW => Lib.hid (walk_any p k d 15 W (by omega) (by omega) (by omega) (by omega) hW)
      clear hd hkD hpc hpcl hp hkl
      go_wp2_with (first
        | (go_at_call 100; refine (HW _ HKw.out).out.mono ?_; rintro e w3 ⟨rfl, hC⟩; have hOw := HO.out.below hC (fun j hj => (HO.out.lt j hj).2); have hbw2 := Nat.le_trans hbw hC.size)
        | (at_builtin; refine app_lit rfl _ _ 22 rfl w1.heap.size 9 (.string ⟨#[]⟩) 1 16 u_strs i_str rfl (by decide) _ _ _ rfl hOw 1 _ rfl rfl (by intro u hu; simp at hu; subst hu; rfl) (by omega) (by omega) hbw2 ?_; intro v1 w4 hown1 hgrow1))
      have hrow : ∀ j, u6.ownBlock = some j → w1.heap.size ≤ j := fun j hj => (HO.out.lt j hj).1
      go_roundw
      case rel =>
        refine ⟨k + 1, hlt, by go_num, ?_, (HB.out.trans (hC.mono HB.out.size)).grown hgrow1 hbw2 hrow⟩
        rw [fromL_succ, strV_snoc, hgd.out, hgp.out]
        exact hown1
      case measure => simp [intOf]; omega
    · have hd1 : decide (k < 35) = false := decide_eq_false hlt
      have e1 : ¬ (k : Int) < 35 := by omega
      have hk35 : k = 35 := by omega
      have hO35 : Own wr w1.heap.size 9 1 u6 35 (strV (fromL m l 35)) := by
        have := HO.out
        rwa [hk35] at this
      have HM := Lib.hid (mark_any 112 u6 (fromL m l 35) wr (by rw [show (fromL m l 35).length = 35 from by simp [fromL]]; exact Reads.of_own hO35) (small_mark 112 _ (by simp [fromL]) (fromL_small _ _ _ HA.out)) HKw.out)
      clear hk35 hO35 hlt
      go_wp2_with (go_at_call 21; refine HM.out.mono ?_; rintro e w4 ⟨rfl, hB1⟩)
      go_ret2
      exact ⟨rfl, HBa.out.trans (hB1.mono HBa.out.size)⟩
theorem from_no (m : ByteArray) (v : Value) (l : List ByteArray) (w : World) (h : ¬ (m.size = 16 ∧ l.length = 35 ∧ ∀ p ∈ l, p.size = 16)) (hl : l.length ≤ 1000000) (hv : Reads w v l.length 1 (l.map Value.string)) :
    Calls Tryd.prog 31 #[.string m, v] w fun e w' => e = .returned (.tuple #[.string ⟨#[]⟩, .iface 31 (.int .i64 1)]) ∧ w' = w := by
  have HF := Lib.hid (has_any v l w hv hl)
  obtain ⟨a, cap, rfl⟩ : ∃ a cap, v = .slice a l.length cap := by
    rcases hv.2 with ⟨_, a, c, rfl⟩ | ⟨b, off, cap, rfl, _⟩
    · exact ⟨a, c, rfl⟩
    · exact ⟨_, cap, rfl⟩
  clear hv
  obtain ⟨n, hn⟩ : ∃ n, n = l.length := ⟨_, rfl⟩
  rw [← hn] at HF hl h ⊢
  clear hn
  by_cases h1 : m.size = 16
  · have e1 : ((m.size : Int) != 16) = false := by rw [bne_eq_false_iff_eq]; omega
    have e2 : ((m.size : Int) == 16) = true := by rw [beq_iff_eq]; omega
    by_cases h2 : n = 35
    · have e3 : ((n : Int) != 35) = false := by rw [bne_eq_false_iff_eq]; omega
      have e4 : ((n : Int) == 35) = true := by rw [beq_iff_eq]; omega
      have h3 : Hid (¬ ∀ p ∈ l, p.size = 16) := fun h3 => h ⟨h1, h2, h3⟩
      clear h h2
      go_enter Tryd.func31, Tryd.ntmps31
      go_wp2_with (go_at_call 106; refine HF.out.mono ?_; rintro e w1 ⟨b, rfl, rfl, hb1, hb2⟩; obtain rfl : b = true := (by cases b with | true => rfl | false => exact absurd (hb1 rfl) h3.out); clear hb1 hb2)
      go_ret2
      exact ⟨rfl, rfl⟩
    · have e3 : ((n : Int) != 35) = true := by rw [bne_iff_ne]; omega
      have e4 : ((n : Int) == 35) = false := by rw [beq_eq_false_iff_ne]; omega
      clear h
      go_enter Tryd.func31, Tryd.ntmps31
      go_wp2_with fail
      go_ret2
      exact ⟨rfl, rfl⟩
  · have e1 : ((m.size : Int) != 16) = true := by rw [bne_iff_ne]; omega
    have e2 : ((m.size : Int) == 16) = false := by rw [beq_eq_false_iff_ne]; omega
    clear h
    go_enter Tryd.func31, Tryd.ntmps31
    go_wp2_with fail
    go_ret2
    exact ⟨rfl, rfl⟩
end Go.Proofs.YtfhjnfocmlndpaaDoor
