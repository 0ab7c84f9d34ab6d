/- once.Public, once.Sign, once.From: the program's. -/
import Derived.Test.YtfhjnfocmlndpaaDoorOnce
namespace Go.Proofs.YtfhjnfocmlndpaaDoor
open Go Go.RowKit Go.Proofs

def pubL (seed : ByteArray) (key : Int) (n : Nat) : List ByteArray := (List.range n).map fun c => chainS (secretS seed key c) c 0 15
def pubS (seed : ByteArray) (key : Int) : ByteArray := markS 112 (pubL seed key 35)
def signL (seed : ByteArray) (key : Int) (m : ByteArray) (n : Nat) : List ByteArray := (List.range n).map fun c => chainS (secretS seed key c) c 0 ((digitsL m.data.toList).getD c 0)
def fromL (m : ByteArray) (sig : List ByteArray) (n : Nat) : List ByteArray :=
  (List.range n).map fun c => chainS (sig.getD c ⟨#[]⟩) c ((digitsL m.data.toList).getD c 0) (15 - (digitsL m.data.toList).getD c 0)
def fromS (m : ByteArray) (sig : List ByteArray) : ByteArray := markS 112 (fromL m sig 35)
theorem pubL_succ (seed : ByteArray) (key : Int) (n : Nat) : pubL seed key (n + 1) = pubL seed key n ++ [chainS (secretS seed key n) n 0 15] := by
  simp [pubL, List.range_succ]
theorem signL_succ (seed : ByteArray) (key : Int) (m : ByteArray) (n : Nat) : signL seed key m (n + 1) = signL seed key m n ++ [chainS (secretS seed key n) n 0 ((digitsL m.data.toList).getD n 0)] := by
  simp [signL, List.range_succ]
theorem fromL_succ (m : ByteArray) (sig : List ByteArray) (n : Nat) :
    fromL m sig (n + 1) = fromL m sig n ++ [chainS (sig.getD n ⟨#[]⟩) n ((digitsL m.data.toList).getD n 0) (15 - (digitsL m.data.toList).getD n 0)] := by
  simp [fromL, List.range_succ]
theorem pubL_small (seed : ByteArray) (key : Int) (n : Nat) : ∀ p ∈ pubL seed key n, p.size ≤ 1000 := by
  intro p hp
  obtain ⟨c, _, rfl⟩ := List.mem_map.1 hp
  exact Nat.le_trans (chainS_size _ _ _ _ (by rw [secretS_size]; decide)) (by decide)

/-- one more text behind a list of texts -/
def strV (l : List ByteArray) : List Value := l.map Value.string
theorem strV_snoc (l : List ByteArray) (p : ByteArray) : strV (l ++ [p]) = strV l ++ [.string p] := by simp [strV]
theorem strV_length (l : List ByteArray) : (strV l).length = l.length := by simp [strV]

set_option maxRecDepth 100000 in
set_option maxHeartbeats 2000000 in
theorem public_ok (seed : ByteArray) (key : Int) (w : World) (h16 : seed.size = 16) (h0 : -9223372036854775808 ≤ key) (h1 : key ≤ 9223372036854775807) (hK : KAt w 0) :
    Calls Tryd.prog 25 #[.string seed, .int .i64 key] w fun e w' => e = .returned (.tuple #[.string (pubS seed key), .nilIface]) ∧ Below w.heap.size w w' := by
  have HK := Lib.hid hK
  have h60 : seed.size ≤ 60 := by omega
  have H0 := Lib.hid h0
  have H1 := Lib.hid h1
  clear hK h0 h1
  go_enter Tryd.func25, Tryd.ntmps25
  go_wp2_with fail
  go_loopw [6, 12] (fun v i wr => ∃ k : Nat, k ≤ 35 ∧ i = .int .i64 k ∧ Own wr w.heap.size 9 1 v k (strV (pubL seed key k)) ∧ Below w.heap.size w wr) (fun _ i _ => 35 - (intOf i).toNat)
  case atStart => exact ⟨0, by omega, rfl, Own.nil _ _ _ _, Below.refl _ _⟩
  case round =>
    obtain ⟨k, hk, rfl, hO, hB⟩ := hrel
    have HO := Lib.hid hO
    have HB := Lib.hid hB
    have hbw := hB.size
    clear hO hB
    by_cases hlt : k < 35
    · have e1 : (k : Int) < 35 := by omega
      have hsz := secretS_size seed key k
      have hz : (secretS seed key k).size ≤ 60 := by omega
      have HS := fun W hW => Lib.hid (secret_any seed key k W h60 H0.out H1.out (by omega) hW)
      have HW := fun W hW => Lib.hid (walk_any (secretS seed key k) k 0 15 W hz (by omega) (by omega) (by omega) hW)
      obtain ⟨y, hy⟩ : ∃ y, y = secretS seed key k := ⟨_, rfl⟩
      rw [← hy] at HS HW hz
      have HY := Lib.hid hy
      clear hy hsz
      go_wp2_with (first
        | (go_at_call 101; refine (HS _ (HK.out.mono HB.out)).out.mono ?_; rintro e w1 ⟨rfl, hB1⟩)
        | (go_at_call 100; refine (HW _ (HK.out.mono (HB.out.trans (hB1.mono HB.out.size)))).out.mono ?_; rintro e w2 ⟨rfl, hB2⟩; have hC := hB1.trans (hB2.mono hB1.size); have hOw := HO.out.below hC (fun j hj => (HO.out.lt j hj).2); have hbw2 := Nat.le_trans hbw hC.size)
        | (at_builtin; refine app_lit rfl _ _ 22 rfl w.heap.size 9 (.string ⟨#[]⟩) 1 16 u_strs i_str rfl (by decide) _ _ _ rfl hOw 1 _ rfl rfl (by intro u hu; simp at hu; subst hu; rfl) (by omega) (by omega) hbw2 ?_; intro v1 w3 hown1 hgrow1))
      have hrow : ∀ j, u6.ownBlock = some j → w.heap.size ≤ j := fun j hj => (HO.out.lt j hj).1
      go_roundw
      case rel =>
        refine ⟨k + 1, hlt, by go_num, ?_, (HB.out.trans (hC.mono HB.out.size)).grown hgrow1 hbw2 hrow⟩
        rw [pubL_succ, strV_snoc, ← HY.out]
        exact hown1
      case measure => simp [intOf]; omega
    · have hd1 : decide (k < 35) = false := decide_eq_false hlt
      have e1 : ¬ (k : Int) < 35 := by omega
      have hk35 : k = 35 := by omega
      have hO35 : Own wr w.heap.size 9 1 u6 35 (strV (pubL seed key 35)) := by
        have := HO.out
        rwa [hk35] at this
      obtain ⟨g, cap, hu, hg1, hg2, hnc, hcm⟩ := hO35.some_ (by omega)
      have HM := Lib.hid (mark_any 112 u6 (pubL seed key 35) wr (by rw [show (pubL seed key 35).length = 35 from by simp [pubL]]; exact Reads.of_own hO35) (small_mark 112 _ (by simp [pubL]) (pubL_small _ _ _)) (HK.out.mono HB.out))
      clear hk35 hO35 hlt hu hg1 hg2 hnc hcm
      go_wp2_with (go_at_call 21; refine HM.out.mono ?_; rintro e w1 ⟨rfl, hB1⟩)
      go_ret2
      exact ⟨rfl, HB.out.trans (hB1.mono HB.out.size)⟩
theorem public_no (seed : ByteArray) (key : Int) (w : World) (h16 : seed.size ≠ 16) :
    Calls Tryd.prog 25 #[.string seed, .int .i64 key] w fun e w' => e = .returned (.tuple #[.string ⟨#[]⟩, .iface 31 (.int .i64 1)]) ∧ w' = w := by
  have e1 : ((seed.size : Int) != 16) = true := by rw [bne_iff_ne]; omega
  have e2 : ((seed.size : Int) == 16) = false := by rw [beq_eq_false_iff_ne]; omega
  go_enter Tryd.func25, Tryd.ntmps25
  go_wp2_with fail
  go_ret2
  exact ⟨rfl, rfl⟩
end Go.Proofs.YtfhjnfocmlndpaaDoor
