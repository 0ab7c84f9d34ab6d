/- SealSigns: a seal that came in; the row, proved; the tied card. -/
import Derived.Test.YtfhjnfocmlndpaaDoorSjLawSeal
import Derived.Test.YtfhjnfocmlndpaaDoorSjLaid
namespace Go.Proofs.YtfhjnfocmlndpaaDoor
open Go Go.ChangeShapes Go.WideShapes Go.ChangeAt Go.RowKit

theorem seal_fields : ∃ f0 f1 f2, Tryd.prog.underlying 65 = some (.struct #[f0, f1, f2]) ∧ (f0.offset = 0 ∧ f0.type = 3) ∧ (f1.offset = 1 ∧ f1.type = 22) ∧ (f2.offset = 2 ∧ f2.type = 22) :=
  ⟨_, _, _, Tryd.underlying65, ⟨rfl, rfl⟩, ⟨rfl, rfl⟩, ⟨rfl, rfl⟩⟩
theorem cells_sealT : Tryd.prog.cellsOf 65 = 3 := by kernel_rfl
theorem cells_intT : Tryd.prog.cellsOf 3 = 1 := by kernel_rfl
theorem cells_strsT : Tryd.prog.cellsOf 22 = 1 := by kernel_rfl
theorem open_texts1 {H : Type} {enc : TypeId × Value → H} {W : World} {fuel : Nat} {v : Value} {x : DataW H × List MemPlace}
    (g : DataW.trod enc Tryd.prog W 0 (fun _ => true) true fuel 22 [v] = some x) : ∃ l : List ByteArray, Reads W v l.length 1 (l.map Value.string) := by
  obtain ⟨a, len, cap, rfl⟩ : ∃ a len cap, v = .slice a len cap := by
    rcases open_strings (by kernel_rfl) (by kernel_rfl) cells_str g with ⟨hcs, _⟩ | ⟨a, len, cap, ss, hcs, _⟩
    · simp at hcs; exact ⟨_, _, _, hcs⟩
    · simp at hcs; exact ⟨_, _, _, hcs⟩
  obtain ⟨l, rfl, hR, _⟩ := open_texts g
  exact ⟨l, hR⟩
set_option maxRecDepth 100000 in
/-- a seal, of its three cells -/
theorem open_seal {H : Type} {enc : TypeId × Value → H} {W : World} {fuel : Nat} {cs : Array Value} {x : DataW H × List MemPlace}
    (h : DataW.trod enc Tryd.prog W 0 (fun _ => true) true fuel 65 cs.toList = some x) :
    ∃ (k : Int) (sv pv : Value) (s p : List ByteArray), cs = #[.int .i64 k, sv, pv] ∧ Reads W sv s.length 1 (s.map Value.string) ∧ Reads W pv p.length 1 (p.map Value.string) := by
  obtain ⟨f0, f1, f2, hu, ⟨o0, t0⟩, ⟨o1, t1⟩, ⟨o2, t2⟩⟩ := seal_fields
  obtain ⟨xs, k, hk, hxy, hlen, hxl, hf⟩ := DataW.trod_struct hu h
  rw [cells_sealT] at hlen
  obtain ⟨v0, v1, v2, rfl⟩ : ∃ v0 v1 v2, cs = #[v0, v1, v2] := by
    obtain ⟨l⟩ := cs
    match l, hlen with
    | [v0, v1, v2], _ => exact ⟨v0, v1, v2, rfl⟩
  match xs, hxl with
  | [y0, y1, y2], _ =>
    have g0 := hf 0 f0 rfl
    have g1 := hf 1 f1 rfl
    have g2 := hf 2 f2 rfl
    rw [o0, t0, cells_intT] at g0
    rw [o1, t1, cells_strsT] at g1
    rw [o2, t2, cells_strsT] at g2
    obtain ⟨n, e0, _, hn⟩ := DataW.trod_int (k := .i64) (by kernel_rfl) g0
    obtain ⟨s, hs⟩ := open_texts1 (v := v1) g1
    obtain ⟨p, hp⟩ := open_texts1 (v := v2) g2
    simp at e0
    subst e0
    exact ⟨n, v1, v2, s, p, rfl, hs, hp⟩

theorem laid_met_seal (os : Os) (args : Array Value) : laidMetH Tryd.prog Rows.sealSignsRow.laid (((World.doorLaid Tryd.prog 4000 os)).forCall (fun _ _ => 0) ⟨#[], args, []⟩).memory :=
  laidMetH_of_parts (laidMet_of_run' 8 (by kernel_rfl) (by kernel_rfl)) (by kernel_rfl)

set_option maxRecDepth 100000 in
theorem seal_lifted (os : Os) (started : os.Started) (H : Type) (enc : TypeId × Value → H) :
    ReturnsInHanded {} Tryd.checked os 8 .any (fun w args => (Rows.sealSignsSpec.pre enc Tryd.prog Tryd.f8 [] false w args ∧ laidMetH Tryd.prog Rows.sealSignsRow.laid w) ∧ sizedMet enc Tryd.prog Tryd.f8 (OpenSpec.ofChange Rows.sealSignsSpec) false w args)
      (Rows.sealSignsSpec.post enc Tryd.prog Tryd.f8 false true false false) := by
  refine returnsInHanded_of_change_and (C := Tryd.checked) (X := fun w _ => laidMetH Tryd.prog Rows.sealSignsRow.laid w) (fun _ _ _ hh h => h.of_heap hh) Tryd.own started (by kernel_rfl) Tryd.func8
    (ChangeSpec.witness_shaped (enc := enc) (C := Tryd.checked) (os := os) (X := fun w _ => laidMetH Tryd.prog Rows.sealSignsRow.laid w) false (World.doorLaid Tryd.prog 4000 os) #[.string ⟨#[]⟩, .int .i64 0, .string ⟨#[]⟩, .agg #[.int .i64 0, .slice none 0 0, .slice none 0 0]] 8 rfl (World.shaped_of_RefB (by kernel_rfl) (by kernel_rfl)) (by kernel_rfl) (by kernel_rfl) (by kernel_rfl) (laid_met_seal os _)) ?_
  intro W base args ds gs before hval0 hW _ _ hL _
  have hval : ∀ (j : Nat) t v, Tryd.f8.params[j]? = some t → args[j]? = some v → Value.okWide Tryd.prog W .any base t v := hval0
  have hW' := hW
  obtain ⟨p, q, hA0, hV, rfl, hfz, hnd⟩ := hW
  have hA : DataW.TrodAll enc Tryd.prog W 0 (fun _ => true) true Tryd.f8.params.toList args.toList ds p := hA0
  rw [Tryd.params8] at hA hval
  obtain ⟨v0, v1, v2, v3, d0, d1, d2, d3, p0, p1, p2, p3, rfl, rfl, rfl, h0, h1, h2, h3⟩ := trodAll_four hA
  obtain ⟨rfl, rfl⟩ := trodVars_none hV
  obtain ⟨s, rfl, rfl, rfl, hs⟩ := ChangeMaps.open_string (by kernel_rfl) (hval 0 9 v0 rfl rfl) h0
  obtain ⟨n, rfl, rfl, rfl, hn⟩ := open_int (k := .i64) (by kernel_rfl) (hval 1 3 v1 rfl rfl) h1
  obtain ⟨m, rfl, rfl, rfl, hm⟩ := ChangeMaps.open_string (by kernel_rfl) (hval 2 9 v2 rfl rfl) h2
  obtain ⟨cs3, rfl, hc3⟩ := okWide_struct Tryd.underlying65 (hval 3 65 v3 rfl rfl)
  have h3k := h3
  obtain ⟨fuel, hf⟩ := h3
  clear hA0 hval0
  simp only [List.append_nil, List.nil_append] at hW'
  have hlt : ∀ x ∈ p3, x.block < W.heap.size := fun x hx => by simpa using hW'.lt x hx
  obtain ⟨k3, sv3, pv3, ls3, lp3, rfl, hRs, hRp⟩ := open_seal hf
  have hL0 : laidMet Tryd.prog [("rollkeeper/sum.rounds", Rows.laid_rollkeeper_sum_rounds)] W ∧ handlesMet Tryd.prog [("errors.errorType", Rows.laid_errors_errorType)] W := hL
  have hk := k_of_laid hL0.1
  have he := e_of_handles hL0.2
  refine (law_sealSigns s m n k3 sv3 pv3 ls3 lp3 W hRs hRp hk he).mono fun e W' ⟨he, hb⟩ => ?_
  subst he
  refine ⟨_, rfl, _, _, _, [] ++ [], [] ++ ([] ++ ([] ++ p3)), [], hW', ?_, ?_, rfl, hb.frame _, fun h => by cases h⟩
  · exact trodAll_mk1 (shut_bool (by kernel_rfl) true)
  · exact trodAll_mk4 (ChangeMaps.shut_string (by kernel_rfl) hs) (shut_int (by kernel_rfl) hn) (ChangeMaps.shut_string (by kernel_rfl) hm) (Below.trod Tryd.laidOut (by kernel_rfl) (of_decide_eq_true (by kernel_rfl)) h3k hb hlt)

theorem seal_holds : Rows.SealSignsSaid :=
  OpenClaim.holds_of_wide 8 Tryd.f8 rfl rfl rfl rfl rfl rfl rfl ⟨rfl, rfl, rfl, rfl, rfl⟩ rfl rfl rfl rfl rfl (by kernel_rfl) Tryd.func8 (by kernel_rfl)
    (of_decide_eq_true (by kernel_rfl)) (by unfold Func.isWrapper; rw [if_neg (of_decide_eq_false (by kernel_rfl))]; exact ⟨rfl, rfl⟩)
    (fun os started H enc _ => seal_lifted os started H enc)

theorem seal_card : Rows.SealSignsCardSaid :=
  Claim7.holds_tied_plain_at .later [] [.data, .handle] true (true, "451c53c2aa81993ef6003f5569233c4175ed6513d7301b564c80f0428081b591") true
    seal_holds (fun _ h => by cases h) (by kernel_rfl) (fun _ h => by cases h) sealSigns_row_tie rfl ⟨rfl, rfl⟩ (by kernel_rfl) rfl
    (fun f fn hf hfn => by
      obtain rfl : f = 8 := Option.some.inj ((show Tryd.prog.funcNamed "rollkeeper/rollkeeperlaw.SealSigns" = some 8 by kernel_rfl).symm.trans hf) |>.symm
      obtain rfl : fn = Tryd.f8 := (Option.some.inj (Tryd.func8.symm.trans hfn)).symm
      exact ⟨by kernel_rfl, fun j t ht => by
        rw [Tryd.params8] at ht
        rcases j with _ | _ | _ | _ | j
        · obtain rfl : t = 9 := by simpa using ht.symm
          exact (show Tryd.prog.wantsStandIn 9 = false by kernel_rfl)
        · obtain rfl : t = 3 := by simpa using ht.symm
          exact (show Tryd.prog.wantsStandIn 3 = false by kernel_rfl)
        · obtain rfl : t = 9 := by simpa using ht.symm
          exact (show Tryd.prog.wantsStandIn 9 = false by kernel_rfl)
        · obtain rfl : t = 65 := by simpa using ht.symm
          exact (show Tryd.prog.wantsStandIn 65 = false by kernel_rfl)
        · simp at ht⟩)
    (by kernel_rfl)
#print axioms seal_card
end Go.Proofs.YtfhjnfocmlndpaaDoor
