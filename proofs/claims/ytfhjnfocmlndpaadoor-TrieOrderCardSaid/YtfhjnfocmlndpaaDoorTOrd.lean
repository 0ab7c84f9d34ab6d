/- Keep's pick, and the literal of TrieOrder; of what is set last. -/
import Derived.Test.YtfhjnfocmlndpaaDoorTHeld
namespace Go.Proofs.YtfhjnfocmlndpaaDoor
open Go Go.RowKit Go.Proofs Go.Shelf

set_option maxRecDepth 20000 in
theorem pick_any (a : Int) (n : Nat) (w : World) (h0 : 0 < n) (h1 : n ≤ 1000) :
    Calls Tryd.prog 76 #[.int .i64 a, .int .i64 n] w fun e w' => (∃ c : Nat, c < n ∧ e = .returned (.int .i64 c)) ∧ Below w.heap.size w w' := by
  obtain ⟨N, hN⟩ : ∃ N : Nat, IntKind.u64.wrap a = (N : Int) := ⟨(a % 18446744073709551616).toNat, by rw [IntKind.wrap_u64]; omega⟩
  have hn : IntKind.u64.wrap (n : Int) = (n : Int) := by rw [IntKind.wrap_u64]; omega
  have hne : ¬ n = 0 := by omega
  have hm1 : ((N : Int) % (n : Int)) = ((N % n : Nat) : Int) := by omega
  have hlt : N % n < n := Nat.mod_lt _ h0
  have hm2 : Int.tmod (N : Int) (n : Int) = ((N % n : Nat) : Int) := by rw [Int.tmod_eq_emod_of_nonneg (by omega)]; exact hm1
  generalize N % n = c at *
  have hw1 : IntKind.u64.wrap (c : Int) = (c : Int) := by rw [IntKind.wrap_u64]; omega
  have hw2 : IntKind.i64.wrap (c : Int) = (c : Int) := IntWalk.i64_in _ (by omega)
  clear hm1
  go_enter Tryd.func76, Tryd.ntmps76
  go_wp2_with fail
  go_ret
  exact ⟨⟨c, hlt, rfl⟩, Below.refl _ _⟩

theorem toList_apart {a b : ByteArray} (h : ¬ a = b) : ¬ a.toList = b.toList := fun h2 => h (by
  rw [ByteArray.toList_eq, ByteArray.toList_eq] at h2
  exact ByteArray.ext (Array.ext' h2))
/-- of one index with q, and of the right length else -/
def sameI (q : ByteArray) (x : It) : Bool := decide (x.ix = q) && decide (x.cm.size = 16)
set_option maxRecDepth 20000 in
theorem ordp_any (x : It) (BL Bi b off n cap k : Nat) (q : ByteArray) (w : World) (hL : w.cell? ⟨BL, 0, none⟩ = some (.slice (some ⟨b, off, none⟩) n cap)) (hi : w.cell? ⟨Bi, 0, none⟩ = some (.int .i64 k)) (hq : w.cell? ⟨b, off + k * 2, none⟩ = some (.string q)) (hk : k < n) :
    Calls Tryd.prog 82 #[x.val, .pointer (some ⟨BL, 0, none⟩), .pointer (some ⟨Bi, 0, none⟩)] w (BoolPost (sameI q x) w) := by
  have hb : Below w.heap.size w (w.alloc (.cells #[.string x.ix, .string x.cm] 49)) := (Below.refl _ _).alloc (Nat.le_refl _) _
  have l1 : BL < w.heap.size := World.block_lt_of_cell? _ _ hL
  have l2 : Bi < w.heap.size := World.block_lt_of_cell? _ _ hi
  have l3 : b < w.heap.size := World.block_lt_of_cell? _ _ hq
  have e1 : (k : Int) < n := by omega
  have e0 : (0 : Int) ≤ k := by omega
  unfold BoolPost sameI It.val
  by_cases h : x.ix = q
  · rw [decide_eq_true h, Bool.true_and]
    subst h
    by_cases h2 : x.cm.size = 16
    · rw [decide_eq_true h2]
      have e2 : (x.cm.size : Int) = 16 := by omega
      go_enter Tryd.func82, Tryd.ntmps82
      go_wp2_with fail
      go_quiet (fail)
      go_wp2_with fail
      go_ret
      exact ⟨rfl, belowN hb _⟩
    · rw [decide_eq_false h2]
      have e2 : ((x.cm.size : Int) == 16) = false := by rw [beq_eq_false_iff_ne]; omega
      have e3 : (x.cm.size == 16) = false := by rw [beq_eq_false_iff_ne]; exact h2
      go_enter Tryd.func82, Tryd.ntmps82
      go_wp2_with fail
      go_quiet (fail)
      go_wp2_with fail
      go_ret
      exact ⟨rfl, belowN hb _⟩
  · rw [decide_eq_false h, Bool.false_and]
    have hne : (x.ix.toList == q.toList) = false := beq_eq_false_iff_ne.2 (toList_apart h)
    clear h
    go_enter Tryd.func82, Tryd.ntmps82
    go_wp2_with fail
    go_quiet (fail)
    go_wp2_with fail
    go_ret
    exact ⟨rfl, belowN hb _⟩
/-- none of its index behind it: it is in what comes out -/
theorem made_last {l : List It} {q : Nat} {x : It} (h60 : l.length ≤ 60) (hx : l[q]? = some x) (h16 : okIt x = true) (hno : (l.drop (q + 1)).any (sameI x.ix) = false) : x ∈ madeI l := by
  refine ((made_is _ l rfl h60).2.2 x).2 ⟨h16, l.take q, l.drop (q + 1), ?_, fun z hz hok he => ?_⟩
  · obtain ⟨hq, rfl⟩ := List.getElem?_eq_some_iff.1 hx
    rw [List.getElem_cons_drop, List.take_append_drop]
  · have h1 := List.any_eq_false.1 hno z hz
    have h2 := (okIt_iff z).1 hok
    refine h1 ?_
    unfold sameI
    rw [decide_eq_true he, decide_eq_true h2.2]
    rfl
theorem made_turned {l : List It} {c : Nat} (h60 : l.length ≤ 60) (h : l.Pairwise fun x y => x.ix ≠ y.ix) : madeI (l.drop c ++ l.take c).reverse = madeI l := by
  refine (made_perm h60 h ?_).symm
  refine List.Perm.trans ?_ (List.reverse_perm _).symm
  have h2 : (l.take c ++ l.drop c).Perm (l.drop c ++ l.take c) := List.perm_append_comm
  rwa [List.take_append_drop] at h2
end Go.Proofs.YtfhjnfocmlndpaaDoor
