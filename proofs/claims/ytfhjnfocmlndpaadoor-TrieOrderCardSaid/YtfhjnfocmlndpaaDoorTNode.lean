/- trie.node, trie.Root. -/
import Derived.Test.YtfhjnfocmlndpaaDoorTHalves
import Derived.Test.YtfhjnfocmlndpaaDoorProof
namespace Go.Proofs.YtfhjnfocmlndpaaDoor
open Go Go.RowKit Go.Proofs

theorem joinS_small (a b : ByteArray) : (joinS a b).size ≤ 1000 := by have := nodeJ_size a b; omega
theorem few_cases {α : Type} {l : List α} (h : ¬ 2 ≤ l.length) : l = [] ∨ ∃ x, l = [x] := by
  rcases l with _ | ⟨x, _ | ⟨y, l⟩⟩
  · exact .inl rfl
  · exact .inr ⟨x, rfl⟩
  · simp at h
set_option maxRecDepth 20000 in
set_option maxHeartbeats 4000000 in
theorem tnode_few (d : Nat) (v : Value) (l : List It) (w : World) (hd : d ≤ 128) (h2 : ¬ 2 ≤ l.length) (ha : Alike l d) (hv : IReads w v l) (hcm : ∀ x ∈ l, x.cm.size ≤ 1000) (hk : KAt w 0) :
    Calls Tryd.prog 137 #[v, .int .i64 d] w fun e w' => e = .returned (.string (nodeS l d)) ∧ Below w.heap.size w w' := by
  rcases few_cases h2 with rfl | ⟨x, rfl⟩
  · obtain ⟨a, cap, rfl, -⟩ := hv.shape
    have HE := Lib.hid (tempty_any d w (by omega) hk)
    have HS := Lib.hid (nodeS_nil d)
    rw [HS.out]
    clear hv hk
    go_enter Tryd.func137, Tryd.ntmps137
    go_wp2_with (go_at_call 112; refine HE.out.mono ?_; rintro e w1 ⟨rfl, hB1⟩)
    go_ret
    exact ⟨rfl, hB1⟩
  · obtain ⟨a, cap, rfl, -⟩ := hv.shape
    have HE := Lib.hid (tleaf_any x.ix x.cm d w (by omega) (by have := ha.size x (by simp); omega) (hcm x (by simp)) hk)
    have HS := Lib.hid (nodeS_one x d)
    rw [HS.out]
    obtain ⟨b, off, rfl, c0, c1⟩ := hv.at (k := 0) (x := x) rfl
    clear hv hk ha hcm h2
    rw [Nat.zero_mul, Nat.add_zero] at c0 c1
    go_enter Tryd.func137, Tryd.ntmps137
    go_wp2_with (go_at_call 113; refine HE.out.mono ?_; rintro e w1 ⟨rfl, hB1⟩)
    go_ret
    exact ⟨rfl, hB1⟩
set_option maxRecDepth 20000 in
set_option maxHeartbeats 4000000 in
theorem tnode_any : ∀ (m d : Nat) (v : Value) (l : List It) (w : World), d + m = 128 → Alike l d → IReads w v l → l.length ≤ 1000 → (∀ x ∈ l, x.cm.size ≤ 1000) → KAt w 0 →
    Calls Tryd.prog 137 #[v, .int .i64 d] w fun e w' => e = .returned (.string (nodeS l d)) ∧ Below w.heap.size w w' := by
  intro m
  induction m with
  | zero =>
    intro d v l w hd ha hv hl hcm hk
    have h2 : ¬ 2 ≤ l.length := fun h => by have := ha.lt h; omega
    exact tnode_few d v l w (by omega) h2 ha hv hcm hk
  | succ m ih =>
    intro d v l w hd ha hv hl hcm hk
    by_cases h2 : 2 ≤ l.length
    · obtain ⟨a, cap, rfl, -⟩ := hv.shape
      have hlo := (List.takeWhile_sublist (l := l) fun x : It => decide (bitAt x.ix d = 0))
      have hhi := (List.dropWhile_sublist (l := l) fun x : It => decide (bitAt x.ix d = 0))
      have Hv0 := Lib.hid hv
      have HH := Lib.hid (thalves_any (.slice a l.length cap) l d w hv hl ha.size (by omega))
      have HL := Lib.hid (fun (W : World) (u : Value) (hW : Below w.heap.size w W) (hu : IReads W u (loI l d)) => ih (d + 1) u (loI l d) W (by omega) ha.lo hu (by have := hlo.length_le; exact Nat.le_trans this hl) (fun x hx => hcm x (hlo.subset hx)) (hk.mono hW))
      have HR := Lib.hid (fun (W : World) (u : Value) (hW : Below w.heap.size w W) (hu : IReads W u (hiI l d)) => ih (d + 1) u (hiI l d) W (by omega) ha.hi hu (by have := hhi.length_le; exact Nat.le_trans this hl) (fun x hx => hcm x (hhi.subset hx)) (hk.mono hW))
      have HJ := Lib.hid (fun W (hW : Below w.heap.size w W) => tjoin_any (nodeS (loI l d) (d + 1)) (nodeS (hiI l d) (d + 1)) W (by rw [ha.lo.node_size]; decide) (by rw [ha.hi.node_size]; decide) (hk.mono hW))
      have HS := Lib.hid (nodeS_two h2 (show d < 128 by omega))
      rw [HS.out]
      rw [show (((d + 1 : Nat) : Int)) = (d : Int) + 1 by omega] at HL HR
      obtain ⟨n, hn⟩ : ∃ n, n = l.length := ⟨_, rfl⟩
      rw [← hn] at HH h2 Hv0 ⊢
      have e1 : ((n : Int) == 0) = false := by rw [beq_eq_false_iff_ne]; omega
      have e2 : ((n : Int) == 1) = false := by rw [beq_eq_false_iff_ne]; omega
      have hd1 : (d : Int) < 128 := by omega
      generalize nodeS (loI l d) (d + 1) = A at *
      generalize nodeS (hiI l d) (d + 1) = B at *
      have hRf := Below.refl w.heap.size w
      clear hv hk hl ha hcm ih hlo hhi hn hd
      go_enter Tryd.func137, Tryd.ntmps137
      go_wp2_with (go_at_call 139; refine HH.out.mono ?_; rintro e w1 ⟨v0, v1, rfl, hB1, hr⟩; obtain ⟨hr0, hr1⟩ := hr _ (Hv0.out.mono hB1); have HR0 := Lib.hid hr0; have HR1 := Lib.hid hr1; clear hr0 hr1 hr)
      go_wp2_with fail
      refine ((HL.out _ _ hB1 HR0.out)).mono ?_
      rintro e w2 ⟨rfl, hB2⟩
      have hC2 := hB1.trans (hB2.mono hB1.size)
      go_wp2_with fail
      refine ((HR.out _ _ hC2 (HR1.out.mono hB2))).mono ?_
      rintro e w3 ⟨rfl, hB3⟩
      have hC3 := hC2.trans (hB3.mono hC2.size)
      go_wp2_with (go_at_call 115; refine (HJ.out _ hC3).mono ?_; rintro e w4 ⟨rfl, hB4⟩)
      go_ret
      exact ⟨rfl, hC3.trans (hB4.mono hC3.size)⟩
    · exact tnode_few d v l w (by omega) h2 ha hv hcm hk
def rootS (l : List It) : ByteArray := if rightI l then nodeS l 0 else ⟨#[]⟩
def rootK (l : List It) : Int := if rightI l then 0 else 1
set_option maxRecDepth 20000 in
theorem troot_any (v : Value) (l : List It) (w : World) (hv : IReads w v l) (hk : KAt w 0) :
    Calls Tryd.prog 79 #[v] w (StrPost (rootS l) (rootK l) w) := by
  have HR := Lib.hid (tright_any v l w hv)
  unfold StrPost rootS rootK
  unfold BoolPost at HR
  cases hr : rightI l with
  | false =>
    rw [hr] at HR
    clear hv hk hr
    go_enter Tryd.func79, Tryd.ntmps79
    go_wp2_with (go_at_call 75; refine HR.out.mono ?_; rintro e w1 ⟨rfl, hB1⟩)
    go_ret2
    exact ⟨rfl, hB1⟩
  | true =>
    rw [hr] at HR
    have hri := (rightI_iff l).1 hr
    have HN := Lib.hid (fun W (hW : Below w.heap.size w W) => tnode_any 128 0 v l W rfl (alike_of_right hr) (hv.mono hW) (by have := hri.1; omega) (fun x hx => by have := (hri.2.1 x hx).2; omega) (hk.mono hW))
    clear hv hk hr hri
    go_enter Tryd.func79, Tryd.ntmps79
    go_wp2_with (first
      | (go_at_call 75; refine HR.out.mono ?_; rintro e w1 ⟨rfl, hB1⟩)
      | (go_at_call 137; refine (HN.out _ hB1).mono ?_; rintro e w2 ⟨rfl, hB2⟩))
    go_ret2
    exact ⟨rfl, hB1.trans (hB2.mono hB1.size)⟩
end Go.Proofs.YtfhjnfocmlndpaaDoor
