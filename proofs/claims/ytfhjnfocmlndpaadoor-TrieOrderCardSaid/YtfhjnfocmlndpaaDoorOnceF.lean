/- once.From: the program's. -/
import Derived.Test.YtfhjnfocmlndpaaDoorOnceS
namespace Go.Proofs.YtfhjnfocmlndpaaDoor
open Go Go.RowKit Go.Proofs

theorem pred_any (p : ByteArray) (w : World) : Calls Tryd.prog 107 #[.string p] w fun e w' => e = .returned (.bool (decide (p.size ≠ 16))) ∧ w' = w := by
  by_cases h : p.size = 16
  · have e1 : ((p.size : Int) != 16) = false := by rw [bne_eq_false_iff_eq]; omega
    have e2 : ((p.size : Int) == 16) = true := by rw [beq_iff_eq]; omega
    have e3 : decide (p.size ≠ 16) = false := by simpa using h
    go_enter Tryd.func107, Tryd.ntmps107
    go_wp2_with fail
    go_ret
    exact ⟨by rw [e3]; rfl, rfl⟩
  · have e1 : ((p.size : Int) != 16) = true := by rw [bne_iff_ne]; omega
    have e2 : ((p.size : Int) == 16) = false := by rw [beq_eq_false_iff_ne]; omega
    have e3 : decide (p.size ≠ 16) = true := by simpa using h
    go_enter Tryd.func107, Tryd.ntmps107
    go_wp2_with fail
    go_ret
    exact ⟨by rw [e3]; rfl, rfl⟩

def FindPost (l : List ByteArray) (w : World) (e : Ending) (w' : World) : Prop := ∃ j : Int, e = .returned (.int .i64 j) ∧ w' = w ∧ (j < 0 → ∀ p ∈ l, p.size = 16) ∧ (0 ≤ j → ∃ p ∈ l, p.size ≠ 16)
set_option maxHeartbeats 1000000 in
theorem index_any (v : Value) (l : List ByteArray) (w : World) (hv : Reads w v l.length 1 (l.map Value.string)) (hl : l.length ≤ 1000000) :
    Calls Tryd.prog 148 #[v, .func (Fn.func 107) #[] #[]] w (FindPost l w) := by
  obtain ⟨a, cap, rfl⟩ : ∃ a cap, v = .slice a l.length cap := by
    rcases hv.2 with ⟨_, a, c, rfl⟩ | ⟨b, off, cap, rfl, _⟩
    · exact ⟨a, c, rfl⟩
    · exact ⟨_, cap, rfl⟩
  obtain ⟨n, hn⟩ : ∃ n, n = l.length := ⟨_, rfl⟩
  rw [← hn] at hv
  have Hv := Lib.hid hv
  have Hn := Lib.hid hn
  have hnb : n ≤ 1000000 := by omega
  rw [← hn]
  clear hn hv hl
  go_enter Tryd.func148, Tryd.ntmps148
  go_wp2_with fail
  go_loopw [8] (fun i wr => ∃ k : Nat, k ≤ n ∧ i = .int .i64 k ∧ wr = w ∧ ∀ p ∈ l.take k, p.size = 16) (fun i _ => n - (intOf i).toNat)
  case atStart => exact ⟨0, Nat.zero_le _, rfl, rfl, by simp⟩
  case round =>
    obtain ⟨k, hk, rfl, rfl, hall⟩ := hrel
    have HA := Lib.hid hall
    clear hall
    by_cases hlt : k < n
    · have hkl : k < l.length := by have := Hn.out; omega
      obtain ⟨p, hp⟩ : ∃ p, l[k]? = some p := ⟨l[k], List.getElem?_eq_getElem hkl⟩
      obtain ⟨b, off, hcell⟩ : ∃ b off, a = some ⟨b, off, none⟩ ∧ wr.cell? ⟨b, off + k, none⟩ = some (.string p) := by
        rcases Hv.out.2 with ⟨h0, _⟩ | ⟨b, off, cap', he, hc⟩
        · have : l = [] := by simpa using h0
          rw [this] at hkl; simp at hkl
        · simp only [Value.slice.injEq] at he
          exact ⟨b, off, he.1, hc k _ (by simp [hp])⟩
      obtain ⟨rfl, hcell⟩ := hcell
      have hmem : p ∈ l := List.mem_of_getElem? hp
      have HP := Lib.hid hp
      clear hp
      have e2 : (k : Int) < n := by omega
      by_cases h16 : p.size = 16
      · have hL : Calls Tryd.prog 107 #[.string p] wr fun e w' => e = .returned (.bool false) ∧ w' = wr := by
          refine (pred_any p wr).mono ?_
          rintro e w' ⟨rfl, rfl⟩
          exact ⟨by rw [show decide (p.size ≠ 16) = false from by simpa using h16], rfl⟩
        have HL := Lib.hid hL
        clear hL
        go_wp2_with (go_at_call 107; refine HL.out.mono ?_; rintro e w1 ⟨rfl, rfl⟩)
        go_roundw
        case rel =>
          refine ⟨k + 1, by omega, by go_num, by first | rfl | trivial, ?_⟩
          intro q hq
          rw [List.take_succ_eq_append_getElem hkl, List.mem_append] at hq
          rcases hq with hq | hq
          · exact HA.out q hq
          · have : q = p := by
              have h1 := HP.out
              rw [List.getElem?_eq_getElem hkl] at h1
              simp at hq
              rw [hq]; exact Option.some.inj h1
            rw [this]; exact h16
        case measure => simp [intOf]; omega
      · have hL : Calls Tryd.prog 107 #[.string p] wr fun e w' => e = .returned (.bool true) ∧ w' = wr := by
          refine (pred_any p wr).mono ?_
          rintro e w' ⟨rfl, rfl⟩
          exact ⟨by rw [show decide (p.size ≠ 16) = true from by simpa using h16], rfl⟩
        have HL := Lib.hid hL
        clear hL
        go_wp2_with (go_at_call 107; refine HL.out.mono ?_; rintro e w1 ⟨rfl, rfl⟩)
        go_ret
        exact ⟨k, rfl, rfl, fun h => by omega, fun _ => ⟨p, hmem, h16⟩⟩
    · have hge : n ≤ k := by omega
      have hd1 : decide (k < n) = false := decide_eq_false hlt
      have e2 : ¬ (k : Int) < n := by omega
      go_wp2_with fail
      go_ret
      refine ⟨-1, rfl, rfl, fun _ => ?_, fun h => by omega⟩
      have := HA.out
      rwa [List.take_of_length_le (by have := Hn.out; omega)] at this
def HasPost (l : List ByteArray) (w : World) (e : Ending) (w' : World) : Prop := ∃ b : Bool, e = .returned (.bool b) ∧ w' = w ∧ (b = false → ∀ p ∈ l, p.size = 16) ∧ (b = true → ∃ p ∈ l, p.size ≠ 16)
theorem has_any (v : Value) (l : List ByteArray) (w : World) (hv : Reads w v l.length 1 (l.map Value.string)) (hl : l.length ≤ 1000000) :
    Calls Tryd.prog 106 #[v, .func (Fn.func 107) #[] #[]] w (HasPost l w) := by
  have HI := Lib.hid (index_any v l w hv hl)
  clear hv hl
  go_enter Tryd.func106, Tryd.ntmps106
  go_wp2_with (go_at_call 148; refine HI.out.mono ?_; rintro e w1 ⟨j, rfl, rfl, h1, h2⟩)
  go_ret
  refine ⟨decide (0 ≤ j), rfl, rfl, fun h => h1 ?_, fun h => h2 ?_⟩
  · have := of_decide_eq_false h; omega
  · exact of_decide_eq_true h
end Go.Proofs.YtfhjnfocmlndpaaDoor
