/- Seals, plain: marks of keys and levels; to which mark a seal leads. -/
import Derived.Test.YtfhjnfocmlndpaaDoorSjPRoot
import Derived.Test.YtfhjnfocmlndpaaDoorSjMark
import Derived.Test.YtfhjnfocmlndpaaDoorSjLawOnce
import Derived.Test.YtfhjnfocmlndpaaDoorSjIndexR
namespace Go.Proofs.YtfhjnfocmlndpaaDoor
open Go Go.RowKit Go.Proofs

set_option maxHeartbeats 1000000 in
theorem proot_no (ix : ByteArray) (pv : Value) (path : List ByteArray) (li lc : ByteArray) (w : World) (hv : Reads w pv path.length 1 (path.map Value.string)) (hl : path.length ≤ 1000000) (hr : ¬ rightP ix path li lc) :
    Calls Tryd.prog 33 #[.string ix, .agg #[pv, .string li, .string lc]] w fun e w' => e = .returned (.tuple #[.string ⟨#[]⟩, .iface 31 (.int .i64 1)]) ∧ Below w.heap.size w w' := by
  obtain ⟨a, cap, rfl⟩ : ∃ a cap, pv = .slice a path.length cap := by
    rcases hv.2 with ⟨_, a, c, rfl⟩ | ⟨b, off, cap, rfl, _⟩
    · exact ⟨a, c, rfl⟩
    · exact ⟨_, cap, rfl⟩
  have hWb : Below w.heap.size w ((w.alloc (.cells #[.string ix] 9)).alloc (.cells #[.slice a path.length cap, .string li, .string lc] 51)) := ((Below.refl _ _).alloc (Nat.le_refl _) _).alloc (by simp) _
  have hPR := Lib.hid (fun W (hb : Below w.heap.size w W) => pright_any ix (.slice a path.length cap) path li lc W (hv.mono hb) hl)
  have hRB : rightB ix path li lc = false := by unfold rightB; exact @decide_eq_false _ (Classical.propDecidable _) hr
  rw [hRB] at hPR
  clear hRB hv hr hl
  generalize path.length = n at *
  go_enter Tryd.func33, Tryd.ntmps33
  go_wp2_with (go_at_call 34; refine (hPR.out _ hWb).mono ?_; rintro e w1 ⟨rfl, hB1⟩)
  go_ret2
  exact ⟨rfl, hWb.trans (hB1.mono hWb.size)⟩
theorem proot_any (ix : ByteArray) (pv : Value) (path : List ByteArray) (li lc : ByteArray) (w : World) (hv : Reads w pv path.length 1 (path.map Value.string)) (hl : path.length ≤ 1000000) (hk : KAt w 0) :
    Calls Tryd.prog 33 #[.string ix, .agg #[pv, .string li, .string lc]] w (StrPost (prootS ix path li lc) (prootK ix path li lc) w) := by
  unfold StrPost prootS prootK
  by_cases h : rightP ix path li lc
  · rw [if_pos h, if_pos h, errV_0]
    exact proot_ok ix pv path li lc w hv h hk
  · rw [if_neg h, if_neg h]
    exact proot_no ix pv path li lc w hv hl h
theorem leadS_size (ix : ByteArray) (path : List ByteArray) (li lc : ByteArray) : (leadS ix path li lc).size = 16 := fold_size ix _ _ (startS_size _ _ _)

/-! ### Verify: what lies at an index -/
noncomputable def pverS (root ix : ByteArray) (path : List ByteArray) (li lc : ByteArray) : ByteArray := if prootK ix path li lc = 0 ∧ prootS ix path li lc = root ∧ li = ix then lc else ⟨#[]⟩
noncomputable def pverB (root ix : ByteArray) (path : List ByteArray) (li lc : ByteArray) : Bool := decide (prootK ix path li lc = 0) && decide (prootS ix path li lc = root) && decide (li = ix)
noncomputable def pverK (root ix : ByteArray) (path : List ByteArray) (li lc : ByteArray) : Int := if prootK ix path li lc = 0 then if prootS ix path li lc = root then 0 else 13 else prootK ix path li lc
theorem toList_inj {a b : ByteArray} (h : ¬ a = b) : ¬ a.toList = b.toList := fun h2 => h (by
  rw [ByteArray.toList_eq, ByteArray.toList_eq] at h2
  exact ByteArray.ext (Array.ext' h2))
set_option maxRecDepth 20000 in
set_option maxHeartbeats 1000000 in
theorem pverify_any (root ix : ByteArray) (pv : Value) (path : List ByteArray) (li lc : ByteArray) (w : World) (hv : Reads w pv path.length 1 (path.map Value.string)) (hl : path.length ≤ 1000000) (hk : KAt w 0) :
    Calls Tryd.prog 37 #[.string root, .string ix, .agg #[pv, .string li, .string lc]] w fun e w' => e = .returned (.tuple #[.string (pverS root ix path li lc), .bool (pverB root ix path li lc), errV (pverK root ix path li lc)]) ∧ Below w.heap.size w w' := by
  obtain ⟨a, cap, rfl⟩ : ∃ a cap, pv = .slice a path.length cap := by
    rcases hv.2 with ⟨_, a, c, rfl⟩ | ⟨b, off, cap, rfl, _⟩
    · exact ⟨a, c, rfl⟩
    · exact ⟨_, cap, rfl⟩
  have hb : Below w.heap.size w (w.alloc (.cells #[.slice a path.length cap, .string li, .string lc] 51)) := (Below.refl _ _).alloc (Nat.le_refl _) _
  have hP : Row3 (w.alloc (.cells #[.slice a path.length cap, .string li, .string lc] 51)) w.heap.size (.slice a path.length cap) (.string li) (.string lc) := Row3.of_row (T := 51) (heap_alloc_new _ _)
  have hR := proot_any ix (.slice a path.length cap) path li lc _ (hv.mono hb) hl (hk.mono hb)
  have hS : pverS root ix path li lc = if prootK ix path li lc = 0 ∧ prootS ix path li lc = root ∧ li = ix then lc else ⟨#[]⟩ := rfl
  have hBo : pverB root ix path li lc = (decide (prootK ix path li lc = 0) && decide (prootS ix path li lc = root) && decide (li = ix)) := rfl
  have hK : pverK root ix path li lc = if prootK ix path li lc = 0 then if prootS ix path li lc = root then 0 else 13 else prootK ix path li lc := rfl
  generalize pverS root ix path li lc = OS at *
  generalize pverB root ix path li lc = OB at *
  generalize pverK root ix path li lc = OK at *
  generalize prootK ix path li lc = K at *
  generalize prootS ix path li lc = S at *
  unfold StrPost at hR
  have HR := Lib.hid hR
  clear hR hv hk hl
  generalize path.length = n at *
  by_cases h1 : K = 0
  · subst h1
    rw [errV_0] at HR
    by_cases h2 : S = root
    · subst h2
      by_cases h3 : li = ix
      · subst h3
        obtain rfl : OS = lc := by rw [hS, if_pos ⟨rfl, rfl, rfl⟩]
        obtain rfl : OB = true := by rw [hBo]; simp
        obtain rfl : OK = 0 := by rw [hK]; simp
        rw [errV_0]
        clear hS hBo hK
        go_enter Tryd.func37, Tryd.ntmps37
        go_wp2_with (go_at_call 33; refine HR.out.mono ?_; rintro e w1 ⟨rfl, hB1⟩; obtain ⟨p0, p1, p2, -, -, -⟩ := hP.mono hB1; have hC1 := hb.trans (hB1.mono hb.size))
        go_ret3
        exact ⟨rfl, hC1⟩
      · have e3 := toList_inj h3
        have e3b : (li.toList == ix.toList) = false := by rw [beq_eq_false_iff_ne]; exact e3
        obtain rfl : OS = ⟨#[]⟩ := by rw [hS, if_neg (fun h => h3 h.2.2)]
        obtain rfl : OB = false := by rw [hBo]; simp [h3]
        obtain rfl : OK = 0 := by rw [hK]; simp
        rw [errV_0]
        clear hS hBo hK h3
        go_enter Tryd.func37, Tryd.ntmps37
        go_wp2_with (go_at_call 33; refine HR.out.mono ?_; rintro e w1 ⟨rfl, hB1⟩; obtain ⟨p0, p1, p2, -, -, -⟩ := hP.mono hB1; have hC1 := hb.trans (hB1.mono hb.size))
        go_ret3
        exact ⟨rfl, hC1⟩
    · have e2 := toList_inj h2
      have e2b : (S.toList == root.toList) = false := by rw [beq_eq_false_iff_ne]; exact e2
      obtain rfl : OS = ⟨#[]⟩ := by rw [hS, if_neg (fun h => h2 h.2.1)]
      obtain rfl : OB = false := by rw [hBo]; simp [h2]
      obtain rfl : OK = 13 := by rw [hK]; simp [h2]
      rw [show errV 13 = .iface 31 (.int .i64 13) from rfl]
      clear hS hBo hK h2
      go_enter Tryd.func37, Tryd.ntmps37
      go_wp2_with (go_at_call 33; refine HR.out.mono ?_; rintro e w1 ⟨rfl, hB1⟩; have hC1 := hb.trans (hB1.mono hb.size))
      go_ret3
      exact ⟨rfl, hC1⟩
  · obtain rfl : OS = ⟨#[]⟩ := by rw [hS, if_neg (fun h => h1 h.1)]
    obtain rfl : OB = false := by rw [hBo]; simp [h1]
    obtain rfl : OK = K := by rw [hK, if_neg h1]
    have heK : errV OK = .iface 31 (.int .i64 OK) := by unfold errV; rw [if_neg h1]
    rw [heK] at HR ⊢
    clear hS hBo hK h1 heK
    go_enter Tryd.func37, Tryd.ntmps37
    go_wp2_with (go_at_call 33; refine HR.out.mono ?_; rintro e w1 ⟨rfl, hB1⟩; have hC1 := hb.trans (hB1.mono hb.size))
    go_ret3
    exact ⟨rfl, hC1⟩

/-! ### Commit -/
def commitS (o v : ByteArray) : ByteArray := if o.size = 16 ∧ 1 ≤ v.size ∧ v.size ≤ 24 then markS 99 [o, v] else ⟨#[]⟩
def commitK (o v : ByteArray) : Int := if o.size = 16 ∧ 1 ≤ v.size ∧ v.size ≤ 24 then 0 else 1
theorem pcommit_any (o v : ByteArray) (w : World) (hk : KAt w 0) :
    Calls Tryd.prog 39 #[.string o, .string v] w (StrPost (commitS o v) (commitK o v) w) := by
  unfold StrPost commitS commitK
  by_cases h : o.size = 16 ∧ 1 ≤ v.size ∧ v.size ≤ 24
  · rw [if_pos h, if_pos h, errV_0]
    have f1 : (o.size : Int) = 16 := by omega
    have f2 : ¬ v.toList = [] := toList_ne (by omega)
    have f2b : v.toList.isEmpty = false := by rw [List.isEmpty_eq_false_iff]; exact f2
    have f3 : ¬ (24 : Int) < v.size := by omega
    have HM := Lib.hid (mark2 99 _ rfl o v w (by omega) (by omega) hk)
    clear h hk
    go_enter Tryd.func39, Tryd.ntmps39
    go_wp2_with (go_at_call 21; refine HM.out.mono ?_; rintro e w1 ⟨rfl, hB1⟩)
    go_ret2
    exact ⟨rfl, hB1⟩
  · rw [if_neg h, if_neg h, show errV 1 = .iface 31 (.int .i64 1) from rfl]
    have hor : (((o.size : Int) == 16) = false ∧ ((o.size : Int) != 16) = true) ∨ (o.size : Int) = 16 ∧ (v.toList = [] ∨ ((¬ v.toList = [] ∧ v.toList.isEmpty = false) ∧ (24 : Int) < v.size)) := by
      by_cases h1 : o.size = 16
      · refine .inr ⟨by omega, ?_⟩
        by_cases h2 : v.size = 0
        · exact .inl (toList_nil h2)
        · refine .inr ⟨⟨toList_ne h2, by rw [List.isEmpty_eq_false_iff]; exact toList_ne h2⟩, ?_⟩
          have : ¬ v.size ≤ 24 := fun h3 => h ⟨h1, by omega, h3⟩
          omega
      · exact .inl ⟨by rw [beq_eq_false_iff_ne]; omega, by rw [bne_iff_ne]; omega⟩
    clear h hk
    rcases hor with ⟨f1, f2⟩ | ⟨f1, f2 | ⟨⟨f2, f4⟩, f3⟩⟩
    all_goals
      go_enter Tryd.func39, Tryd.ntmps39
      go_wp2_with fail
      go_ret2
      exact ⟨rfl, Below.refl _ _⟩
end Go.Proofs.YtfhjnfocmlndpaaDoor

namespace Go.Proofs.YtfhjnfocmlndpaaDoor
open Go

def upM (a b : ByteArray) : ByteArray := markS 117 [a, b]
def keyT (k : Int) (p : ByteArray) : ByteArray := markS 116 [numS k, p]
theorem upM_size (a b : ByteArray) : (upM a b).size = 16 := markS_size _ _
theorem keyT_size (k : Int) (p : ByteArray) : (keyT k p).size = 16 := markS_size _ _
end Go.Proofs.YtfhjnfocmlndpaaDoor

namespace Go.Proofs.YtfhjnfocmlndpaaDoor
open Go Go.RowKit Go.Proofs

theorem fromS_size (m : ByteArray) (l : List ByteArray) : (fromS m l).size = 16 := markS_size _ _
/-- one level up, to the left or to the right -/
def stepT (x : ByteArray × Nat) (side : ByteArray) : ByteArray × Nat := (if x.2 % 2 = 0 then upM x.1 side else upM side x.1, x.2 / 2)
def sealTop (k : Nat) (p : ByteArray) (path : List ByteArray) : ByteArray := (path.foldl stepT (keyT k p, k)).1
def verP (pub mark : ByteArray) (key : Int) (sig path : List ByteArray) : Prop :=
  0 ≤ key ∧ key ≤ 7 ∧ path.length = 3 ∧ (∀ p ∈ path, p.size = 16) ∧ sigOk mark sig ∧ sealTop key.toNat (fromS mark sig) path = pub
open Classical in
noncomputable def verB (pub mark : ByteArray) (key : Int) (sig path : List ByteArray) : Bool := decide (verP pub mark key sig path)
/-- what both of them do -/
def VerPost (T pub : ByteArray) (w : World) (e : Ending) (w' : World) : Prop := ∃ c : Bool, e = .returned (.bool c) ∧ (c = true ↔ T = pub) ∧ Below w.heap.size w w'
theorem toList_iff {a b : ByteArray} : a.toList = b.toList ↔ a = b := ⟨fun h => Classical.byContradiction fun h2 => toList_inj h2 h, fun h => by rw [h]⟩
/-- what a slice of three texts holds -/
theorem Reads.three {w : World} {v : Value} {x y z : ByteArray} (h : Reads w v 3 1 ([x, y, z].map Value.string)) : ∃ b off cap, v = .slice (some ⟨b, off, none⟩) 3 cap ∧
    Hid (∀ W, Below w.heap.size w W → W.cell? ⟨b, off, none⟩ = some (.string x) ∧ W.cell? ⟨b, off + 1, none⟩ = some (.string y) ∧ W.cell? ⟨b, off + 2, none⟩ = some (.string z)) := by
  rcases h.2 with ⟨h0, _⟩ | ⟨b, off, cap, rfl, hc⟩
  · simp at h0
  · have c0 := hc 0 _ rfl
    have c1 := hc 1 _ rfl
    have c2 := hc 2 _ rfl
    have hlt := World.block_lt_of_cell? w _ c0
    exact ⟨b, off, cap, rfl, fun W hW => ⟨(hW.cell (p := ⟨b, off, none⟩) hlt).trans c0, (hW.cell (p := ⟨b, off + 1, none⟩) hlt).trans c1, (hW.cell (p := ⟨b, off + 2, none⟩) hlt).trans c2⟩⟩
end Go.Proofs.YtfhjnfocmlndpaaDoor
