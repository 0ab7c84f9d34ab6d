/- The reference's times, above, root, primes and New: what they reckon; New's numbers are those of FIPS 180-4. -/
import Derived.Test.YtfhjnfocmlndpaaDoorSjRoots
namespace Go.Proofs.YtfhjnfocmlndpaaDoor
open Go Go.RowKit Go.Proofs

theorem u_u64 : Tryd.prog.underlying 144 = some (.int .u64) := by kernel_rfl
theorem u_u64s : Tryd.prog.underlying 223 = some (.slice 144) := by kernel_rfl
theorem i_u64 : (Tryd.prog.info? 144).map (fun i => (i.zero, i.size, i.bytes)) = some (some (.int .u64 0), 1, 8) := by kernel_rfl
def u64c (l : List Nat) : List Value := l.map fun d : Nat => Value.int .u64 (d : Int)
/-- a slice of digits that the call made -/
def Digits (w : World) (base : Nat) (v : Value) (l : List Nat) : Prop := Own w base 144 1 v l.length (u64c l) ∧ ∀ d ∈ l, d < 65536
def TimesPost (l : List Nat) (x : Nat) (w : World) (e : Ending) (w' : World) : Prop :=
  ∃ v out, e = .returned v ∧ Digits w' w.heap.size v out ∧ dval out = x * dval l ∧ out.length ≤ l.length + 3 ∧ Below w.heap.size w w'

set_option maxRecDepth 100000 in
set_option maxHeartbeats 1000000 in
theorem times_any (v : Value) (l : List Nat) (x : Nat) (w : World) (hv : Reads w v l.length 1 (u64c l)) (hd : ∀ d ∈ l, d < 65536) (hx : x < 2 ^ 41) (hl : l.length ≤ 1000) :
    Calls Tryd.prog 174 #[v, .int .u64 (x : Int)] w (TimesPost l x w) := by
  obtain ⟨a, cap, rfl⟩ : ∃ a cap, v = .slice a l.length cap := by
    rcases hv.2 with ⟨_, a, c, rfl⟩ | ⟨b, off, cap, rfl, _⟩
    · exact ⟨a, c, rfl⟩
    · exact ⟨_, cap, rfl⟩
  obtain ⟨n, hn⟩ : ∃ n, n = l.length := ⟨_, rfl⟩
  rw [← hn] at hv hl
  have Hv := Lib.hid hv
  have Hd := Lib.hid hd
  have Hn := Lib.hid hn
  clear hv hd
  rw [← hn]
  clear hn
  go_enter Tryd.func174, Tryd.ntmps174
  go_wp2_with fail
  go_loopw [5, 6, 7] (fun o c i wr => ∃ k q : Nat, k ≤ n + 3 ∧ i = .int .i64 k ∧ q = (timesTo l x k).2 ∧ q < 2 ^ 42 ∧ c = .int .u64 q ∧ Own wr w.heap.size 144 1 o k (u64c (timesTo l x k).1) ∧ Below w.heap.size w wr) (fun _ c i _ => (n - (intOf i).toNat) * 2 ^ 43 + (intOf c).toNat)
  case atStart => exact ⟨0, 0, by omega, rfl, rfl, by decide, rfl, Own.nil _ _ _ _, Below.refl _ _⟩
  case round =>
    obtain ⟨k, q, hk, rfl, hq, hq42, rfl, hO, hB⟩ := hrel
    have HO := Lib.hid hO
    have HB := Lib.hid hB
    have HQ := Lib.hid hq
    have hbw := hB.size
    clear hO hB hq
    by_cases hlt : k < n
    · have hkl : k < l.length := by have := Hn.out; omega
      obtain ⟨d, hdv⟩ : ∃ d, l[k]? = some d := ⟨l[k], List.getElem?_eq_getElem hkl⟩
      have hd16 : d < 65536 := Hd.out d (List.mem_of_getElem? hdv)
      have hR := Hv.out.mono HB.out
      obtain ⟨b, off, hcell⟩ : ∃ b off, a = some ⟨b, off, none⟩ ∧ wr.cell? ⟨b, off + k, none⟩ = some (.int .u64 (d : Int)) := by
        rcases hR.2 with ⟨h0, _⟩ | ⟨b, off, cap', he, hc⟩
        · have : l = [] := by simpa [u64c] using h0
          rw [this] at hkl; simp at hkl
        · simp only [Value.slice.injEq] at he
          exact ⟨b, off, he.1, hc k _ (by simp [u64c, hdv])⟩
      obtain ⟨rfl, hcell⟩ := hcell
      have hb1 : (d : Int) * (x : Int) ≤ 65535 * 2199023255552 := by
        have h1 : d * x ≤ 65535 * 2199023255552 := Nat.mul_le_mul (by omega) (by omega)
        have h2 := Int.ofNat_le.mpr h1
        rw [Int.natCast_mul] at h2
        exact h2
      have hb2 : (0 : Int) ≤ (d : Int) * (x : Int) := Int.mul_nonneg (Int.natCast_nonneg _) (Int.natCast_nonneg _)
      have HD := Lib.hid hdv
      clear hR hdv
      go_wp2_with (first | (at_builtin; refine app_lit rfl _ _ 223 rfl w.heap.size 144 (.int .u64 0) 1 8 u_u64s i_u64 rfl (by decide) _ _ _ rfl HO.out 1 _ rfl rfl (by intro u hu; simp at hu; subst hu; rfl) (by omega) (by omega) hbw ?_; intro v1 w1 hown1 hgrow1))
      have hrow : ∀ j, u5.ownBlock = some j → w.heap.size ≤ j := fun j hj => (HO.out.lt j hj).1
      have hst := timesTo_in l x k d q HD.out HQ.out
      have hca := timesTo_carry l x hx Hd.out (k + 1)
      have e1 : ((q : Int) + (d : Int) * (x : Int)) % 65536 = (((q + d * x) % 65536 : Nat) : Int) := by
        rw [Int.natCast_emod, Int.natCast_add, Int.natCast_mul]; rfl
      have e2 : ((q : Int) + (d : Int) * (x : Int)) / 65536 = (((q + d * x) / 65536 : Nat) : Int) := by
        rw [Int.natCast_ediv, Int.natCast_add, Int.natCast_mul]; rfl
      rw [e2]
      rw [e1] at hown1
      go_roundw
      case rel =>
        refine ⟨k + 1, _, by omega, by go_num, rfl, hca, ?_, ?_, HB.out.grown hgrow1 hbw hrow⟩
        · rw [hst]
        · rw [hst, u64c, List.map_append]; exact hown1
      case measure =>
        have h3 : (q + d * x) / 65536 < 2 ^ 42 := by rw [hst] at hca; exact hca
        simp only [intOf, Int.toNat_natCast]
        rw [show ((k : Int) + 1).toNat = k + 1 from by omega]
        have : (n - k) = (n - (k + 1)) + 1 := by omega
        rw [this]
        omega
    · have hge : n ≤ k := by omega
      have hkl : l.length ≤ k := by have := Hn.out; omega
      by_cases hq0 : q = 0
      · have t1 : (0 : Int) = (q : Int) := by omega
        have hdone := timesTo_done l x k hkl (by rw [← HQ.out]; exact hq0)
        have HQ0 := Lib.hid hq0
        have hq1 : ¬ (0 : Int) < q := by omega
        have HD := Lib.hid hdone
        clear hdone t1 hq0
        go_wp2_with fail
        go_ret
        exact ⟨u5, (timesTo l x k).1, rfl, ⟨by rw [timesTo_length]; exact HO.out, timesTo_digits l x k⟩, HD.out, by rw [timesTo_length]; have := Hn.out; omega, HB.out⟩
      · have hqp : (0 : Int) < q := by omega
        have hfew := timesTo_few l x hx Hd.out k hkl (by rw [← HQ.out]; omega)
        have hk2 : k + 1 ≤ n + 3 := by have := Hn.out; omega
        clear hfew
        go_wp2_with (first | (at_builtin; refine app_lit rfl _ _ 223 rfl w.heap.size 144 (.int .u64 0) 1 8 u_u64s i_u64 rfl (by decide) _ _ _ rfl HO.out 1 _ rfl rfl (by intro u hu; simp at hu; subst hu; rfl) (by omega) (by omega) hbw ?_; intro v1 w1 hown1 hgrow1))
        have hrow : ∀ j, u5.ownBlock = some j → w.heap.size ≤ j := fun j hj => (HO.out.lt j hj).1
        have hst := timesTo_out l x k q hkl HQ.out
        have hca := timesTo_carry l x hx Hd.out (k + 1)
        go_roundw
        case rel =>
          refine ⟨k + 1, _, hk2, by go_num, rfl, hca, ?_, ?_, HB.out.grown hgrow1 hbw hrow⟩
          · rw [hst]; rfl
          · rw [hst, u64c, List.map_append]; exact hown1
        case measure =>
          simp only [intOf, Int.toNat_natCast]
          rw [show ((k : Int) + 1).toNat = k + 1 from by omega, show (((q : Int)) / 65536).toNat = q / 65536 from by omega]
          omega
theorem u64c_app (l : List Nat) (d : Nat) : u64c (l ++ [d]) = u64c l ++ [.int .u64 (d : Int)] := by simp [u64c]
theorem u64c_get (l : List Nat) (i : Nat) (h : i < l.length) : (u64c l)[i]? = some (.int .u64 ((l.getD i 0 : Nat) : Int)) := by simp [u64c, h]
theorem digits_app {w' : World} {base n : Nat} {v' : Value} {l : List Nat} (d : Nat) (hd : d < 65536) (h : ∀ d ∈ l, d < 65536) (hn : n = l.length)
    (ho : Own w' base 144 1 v' (n + 1) (u64c l ++ [.int .u64 (d : Int)])) : Digits w' base v' (l ++ [d]) := by
  refine ⟨?_, ?_⟩
  · rw [u64c_app, List.length_append, ← hn]; exact ho
  · intro x hx
    rw [List.mem_append, List.mem_singleton] at hx
    rcases hx with hx | rfl
    · exact h x hx
    · exact hd

theorem made_zero (n : Nat) : (madeCells (Value.int .u64 0).cells (n * 1)).toList = u64c (List.replicate n 0) := by
  have h : (fun i : Nat => (Value.int .u64 0).cells[i % (Value.int .u64 0).cells.size]!) = fun _ => Value.int .u64 0 := funext fun i => by
    show (#[Value.int .u64 0] : Array Value)[i % 1]! = _
    rw [Nat.mod_one]; rfl
  rw [Nat.mul_one]
  unfold madeCells
  rw [h, u64c, List.map_replicate, Array.toList_map, Array.toList_range]
  exact List.map_const'.trans (by rw [List.length_range]; rfl)

set_option maxRecDepth 100000 in
set_option maxHeartbeats 2000000 in
theorem above_any (x k p : Nat) (w : World) (hx : x < 2 ^ 41) (hk0 : 0 < k) (hk : k ≤ 3) (hp : p < 65536) :
    Calls Tryd.prog 143 #[.int .u64 (x : Int), .int .i64 (k : Int), .int .u64 (p : Int)] w fun e w' => e = .returned (.bool (decide (x ^ k > p * 65536 ^ (2 * k)))) ∧ Below w.heap.size w w' := by
  go_enter Tryd.func143, Tryd.ntmps143
  go_wp2_with fail
  go_loopw [7, 12] (fun v i wr => ∃ q : Nat, ∃ l : List Nat, q ≤ k ∧ i = .int .i64 q ∧ Digits wr w.heap.size v l ∧ dval l = x ^ q ∧ l.length ≤ 1 + 3 * q ∧ Below w.heap.size w wr) (fun _ i _ => k - (intOf i).toNat)
  case atStart =>
    refine ⟨0, [1], by omega, rfl, ⟨?_, by simp⟩, rfl, by simp, (Below.refl _ _).alloc (Nat.le_refl _) _⟩
    exact ⟨rfl, .inr ⟨w.heap.size, 1, _, (0, 0), rfl, Nat.le_refl _, heap_alloc_new w _, Nat.le_refl _, by unfold maxLen; omega, rfl, fun i _ hi => by simp at hi, rfl⟩⟩
  case round =>
    obtain ⟨q, l, hq, rfl, hD, hval, hlen, hB⟩ := hrel
    have HB := Lib.hid hB
    have HD := Lib.hid hD
    have HV := Lib.hid hval
    have hbw := hB.size
    clear hB hD hval
    by_cases hlt : q < k
    · have HT := Lib.hid (times_any u7 l x wr (Reads.of_own HD.out.1) HD.out.2 hx (by omega))
      go_wp2_with (go_at_call 174; refine HT.out.mono ?_; rintro e w1 ⟨v1, out, rfl, hD1, hv1, hl1, hB1⟩)
      go_roundw
      case rel => exact ⟨q + 1, out, by omega, by go_num, ⟨hD1.1.base_mono hbw, hD1.2⟩, by rw [hv1, HV.out, Nat.pow_succ, Nat.mul_comm], by omega, HB.out.trans (hB1.mono hbw)⟩
      case measure => simp [intOf]; omega
    · have hge : k ≤ q := by omega
      have hd1 : decide (q < k) = false := decide_eq_false hlt
      have hvk : Hid (dval l = x ^ k) := by unfold Hid; rw [HV.out]; congr 1; omega
      have hll : l.length ≤ 10 := by omega
      obtain ⟨wo, rfl⟩ : ∃ wo, wo = wr := ⟨_, rfl⟩
      have a1 : IntKind.i64.wrap (2 * (k : Int)) = ((2 * k : Nat) : Int) := by rw [IntWalk.i64_in _ (by omega)]; omega
      clear hlt HV
      obtain ⟨i0, hi, hz0, hz1, hz2⟩ := info_parts i_u64
      go_upto_region 6 with fail
      have hWb : wo.heap.size ≤ wo.heap.size := Nat.le_refl _
      go_wp2_with (first
        | (at_make; refine wpList_make_full _ rfl _ _ 223 rfl wo.heap.size 144 i0 (.int .u64 0) 1 u_u64s hi hz0 hz1 _ _ _ _ (2 * k) rfl rfl (by omega) (by omega) (by rw [hz2]; omega) (by unfold maxLen; omega) hWb ?_; intro w1 hown1 hgrow1)
        | (at_builtin; refine app_lit2 rfl _ _ 223 rfl wo.heap.size 144 (.int .u64 0) 1 8 u_u64s i_u64 rfl (by decide) _ _ _ rfl (Own.of (by assumption)) 1 _ rfl rfl (by intro u hu; simp at hu; subst hu; rfl) (by omega) (by omega) (by have := (by assumption : wo.grownBy _ none).size; omega) ?_; intro v2 w2 hown2 hgrow2 hblk2))
      clear a1 hll hge
      have hB2 : Below wo.heap.size wo w2 := (below_grown hgrow1).grown hgrow2 hgrow1.size (fun b hb => by
        have : some wo.heap.size = some b := hb
        have := Option.some.inj this; omega)
      have hDu : Digits w2 wo.heap.size v2 (List.replicate (2 * k) 0 ++ [p]) := by
        refine ⟨?_, fun d hd => by
          rw [List.mem_append, List.mem_singleton] at hd
          rcases hd with hd | rfl
          · rw [(List.mem_replicate.1 hd).2]; decide
          · exact hp⟩
        rw [u64c_app, List.length_append, List.length_replicate]
        have e : (madeCells (Value.int .u64 0).cells (2 * k * 1)).toList = u64c (List.replicate (2 * k) 0) := by
          exact made_zero _
        rw [e] at hown2
        exact hown2
      have hu7 : ∀ b, u7.ownBlock = some b → b < wo.heap.size := fun b hb => (HD.out.1.lt b hb).2
      have hDv : Digits w2 w.heap.size u7 l := ⟨HD.out.1.below hB2 hu7, HD.out.2⟩
      have hBw : Below w.heap.size w w2 := HB.out.trans (hB2.mono hbw)
      obtain ⟨U, hU⟩ : ∃ U, U = List.replicate (2 * k) 0 ++ [p] := ⟨_, rfl⟩
      rw [← hU] at hDu
      have hUl : U.length = 2 * k + 1 := by rw [hU]; simp
      have hUv : Hid (dval U = p * 65536 ^ (2 * k)) := by
        unfold Hid
        rw [hU, dval_app, dval_zeros, List.length_replicate, Nat.zero_add]
        simp only [dval, Nat.mul_zero, Nat.add_zero]
        exact Nat.mul_comm _ _
      rcases hDu.1.shape with ⟨rfl, h0, _⟩ | ⟨gu, cu, rfl, hob, hg1, hg2, hnc, hcm⟩
      · rw [hUl] at h0; omega
      have hne : ∀ b, u7.ownBlock = some b → b ≠ gu := fun b hb => by have := hu7 b hb; omega
      have HDu := Lib.hid hDu
      have HDv := Lib.hid hDv
      have HBw := Lib.hid hBw
      have hbw2 := hBw.size
      have hlu : U.length = 2 * k + 1 := hUl
      have HUl := Lib.hid hUl
      clear hDu hDv hBw hB2 hown2 hgrow2 hblk2 hown1 hgrow1 hU hu7 HD HB hob hcm hUl hWb hi hz0 hz1 hz2
      generalize hnu : U.length = nu at *
      have HNu := Lib.hid hnu
      clear hnu
      have hnu7 : nu ≤ 7 := by omega
      have hnu1 : 1 ≤ nu := by omega
      have HL2 := Lib.hid hlu
      clear hlu
      go_loopw [7] (fun v wr => ∃ lv : List Nat, lv.length ≤ 100 ∧ Digits wr w.heap.size v lv ∧ dval lv = x ^ k ∧ (∀ b, v.ownBlock = some b → b ≠ gu) ∧ Digits wr wo.heap.size (.slice (some ⟨gu, 0, none⟩) nu cu) U ∧ Below w.heap.size w wr ∧ gu < wr.heap.size) (fun v _ => nu - lenV v)
      case atStart => exact ⟨l, by omega, HDv.out, hvk.out, hne, HDu.out, HBw.out, hg2⟩
      case round =>
        clear HDv HDu HBw hne hvk hbw2 hg2
        obtain ⟨lv, hm, hDv, hval, hne, hDu, hB, hg2⟩ := hrel
        have HDv := Lib.hid hDv
        have HDu := Lib.hid hDu
        have HB := Lib.hid hB
        have HV := Lib.hid hval
        have hbw2 := hB.size
        have hsh := hDv.1.shape
        obtain ⟨m, hml⟩ : ∃ m, m = lv.length := ⟨_, rfl⟩
        rw [← hml] at hsh hm
        have HM := Lib.hid hml
        have HO : Hid (Own wr w.heap.size 144 1 u7 m (u64c lv)) := by unfold Hid; rw [hml]; exact hDv.1
        obtain ⟨vo, vcap, rfl⟩ : ∃ vo vcap, u7 = .slice vo m vcap := by
          rcases hsh with ⟨rfl, h0, _⟩ | ⟨g, cap, rfl, _⟩
          · exact ⟨none, 0, by rw [h0]⟩
          · exact ⟨_, _, rfl⟩
        clear hDu hB hval hsh hDv hml
        by_cases hlt : m < nu
        · go_wp2_with (at_builtin; refine app_lit2 rfl _ _ 223 rfl w.heap.size 144 (.int .u64 0) 1 8 u_u64s i_u64 rfl (by decide) _ _ _ rfl HO.out 1 _ rfl rfl (by intro u hu; simp at hu; subst hu; rfl) (by omega) (by omega) hbw2 ?_; intro v3 w3 hown3 hgrow3 hblk3)
          have hrow : ∀ j, (Value.slice vo m vcap).ownBlock = some j → w.heap.size ≤ j := fun j hj => (HO.out.lt j hj).1
          have hsz3 := hgrow3.size
          have hl3 := hown3.lenV_eq
          go_roundw
          case rel =>
            refine ⟨lv ++ [0], by rw [List.length_append, ← HM.out]; simp; omega, digits_app 0 (by decide) HDv.out.2 HM.out hown3, ?_, ?_, ⟨HDu.out.1.kept hgrow3 ?_, HDu.out.2⟩, HB.out.grown hgrow3 hbw2 hrow, by omega⟩
            · rw [dval_app, HV.out]; simp [dval]
            · intro b hb
              rcases hblk3 b hb with h | h
              · exact hne b h
              · omega
            · right
              intro e
              exact hne gu e.symm rfl
          case measure =>
            show nu - lenV v3 < nu - m
            omega
        · have hge : nu ≤ m := by omega
          have hd2 : decide (m < nu) = false := decide_eq_false hlt
          obtain ⟨wp, rfl⟩ : ∃ wp, wp = wr := ⟨_, rfl⟩
          obtain ⟨wq, hwq⟩ : ∃ wq, wq = wo.heap.size := ⟨_, rfl⟩
          rw [← hwq] at HDu
          have hgu : ∀ j, vo = some j → j.block ≠ gu := fun j hj => hne j.block (by rw [hj]; rfl)
          have hbq : w.heap.size ≤ wq := by omega
          have HVo : Hid (∀ b, vo.map Addr.block = some b → b ≠ gu) := by
            intro b hb
            rw [Option.map_eq_some_iff] at hb
            obtain ⟨j, hj, rfl⟩ := hb
            exact hgu j hj
          clear hgu hwq hne
          have hwq2 : wq ≤ wp.heap.size := by have := (HDu.out.1.lt gu rfl).1; omega
          go_wp2_with fail
          go_loopw [8] (fun u wr => ∃ lu : List Nat, lu.length ≤ m ∧ Digits wr wq u lu ∧ dval lu = p * 65536 ^ (2 * k) ∧ (∀ b, u.ownBlock = some b → vo.map Addr.block ≠ some b) ∧ Digits wr w.heap.size (.slice vo m vcap) lv ∧ Below w.heap.size w wr ∧ (∀ b, vo.map Addr.block = some b → b < wr.heap.size) ∧ wq ≤ wr.heap.size) (fun u _ => m - lenV u)
          case atStart => exact ⟨U, by rw [HNu.out]; exact hge, HDu.out, hUv.out, fun b hb e => HVo.out b e (by simpa [Value.ownBlock] using hb.symm), HDv.out, HB.out, fun b hb => (HDv.out.1.lt b (by cases vo <;> simp_all [Value.ownBlock])).2, hwq2⟩
          case round =>
            clear HDv HDu HB HO hbw2 hg2 hbw hwq2
            obtain ⟨lu, hlu, hDu, hvalu, hneu, hDv, hB, hvlt, hwq2⟩ := hrel
            have HDv := Lib.hid hDv
            have HDu := Lib.hid hDu
            have HB := Lib.hid hB
            have HVU := Lib.hid hvalu
            have HNe := Lib.hid hneu
            have HVlt := Lib.hid hvlt
            have hsh := hDu.1.shape
            obtain ⟨mu, hml⟩ : ∃ mu, mu = lu.length := ⟨_, rfl⟩
            rw [← hml] at hsh hlu
            have HMu := Lib.hid hml
            have HO : Hid (Own wr wq 144 1 u8 mu (u64c lu)) := by unfold Hid; rw [hml]; exact hDu.1
            obtain ⟨uo, ucap, rfl⟩ : ∃ uo ucap, u8 = .slice uo mu ucap := by
              rcases hsh with ⟨rfl, h0, _⟩ | ⟨g, cap, rfl, _⟩
              · exact ⟨none, 0, by rw [h0]⟩
              · exact ⟨_, _, rfl⟩
            clear hDu hB hvalu hsh hDv hml hneu hvlt
            by_cases hlt2 : mu < m
            · go_wp2_with (at_builtin; refine app_lit2 rfl _ _ 223 rfl wq 144 (.int .u64 0) 1 8 u_u64s i_u64 rfl (by decide) _ _ _ rfl HO.out 1 _ rfl rfl (by intro u hu; simp at hu; subst hu; rfl) (by omega) (by omega) hwq2 ?_; intro v3 w3 hown3 hgrow3 hblk3)
              have hrow : ∀ j, (Value.slice uo mu ucap).ownBlock = some j → w.heap.size ≤ j := fun j hj => by have := (HO.out.lt j hj).1; omega
              have hsz3 := hgrow3.size
              have hl3 := hown3.lenV_eq
              have hbw2 := HB.out.size
              have hvb : (Value.slice vo m vcap).ownBlock = vo.map Addr.block := by cases vo <;> rfl
              go_roundw
              case rel =>
                refine ⟨lu ++ [0], by rw [List.length_append, ← HMu.out]; simp; omega, digits_app 0 (by decide) HDu.out.2 HMu.out hown3, ?_, ?_, ⟨HDv.out.1.kept hgrow3 ?_, HDv.out.2⟩, HB.out.grown hgrow3 hbw2 hrow, fun b hb => Nat.lt_of_lt_of_le (HVlt.out b hb) hsz3, by omega⟩
                · rw [dval_app, HVU.out]; simp [dval]
                · intro b hb e
                  rcases hblk3 b hb with h | h
                  · exact HNe.out b h e
                  · have := HVlt.out b e; omega
                · cases hq : vo.map Addr.block with
                  | none => left; rw [hvb, hq]
                  | some b =>
                    right
                    rw [hvb, hq]
                    intro e
                    exact HNe.out b e.symm hq
              case measure =>
                show m - lenV v3 < m - mu
                omega
            · have hd3 : decide (mu < m) = false := decide_eq_false hlt2
              have hmu : Hid (mu = m) := by unfold Hid; omega
              have hlL : Hid (lv.length = lu.length) := by unfold Hid; rw [← HMu.out, ← HM.out]; exact hmu.out.symm
              obtain ⟨gv, hgv⟩ : ∃ gv, vo = some ⟨gv, 0, none⟩ := by
                rcases HDv.out.1.shape with ⟨h0, h1, _⟩ | ⟨g, cap, h0, _⟩
                · rw [← HM.out] at h1; omega
                · simp only [Value.slice.injEq] at h0; exact ⟨g, h0.1⟩
              obtain ⟨gw, hgw⟩ : ∃ gw, uo = some ⟨gw, 0, none⟩ := by
                rcases HDu.out.1.shape with ⟨h0, h1, _⟩ | ⟨g, cap, h0, _⟩
                · rw [← HMu.out, hmu.out] at h1; omega
                · simp only [Value.slice.injEq] at h0; exact ⟨g, h0.1⟩
              subst hgv
              subst hgw
              have cv : Hid (∀ i, i < m → wr.cell? ⟨gv, i, none⟩ = some (.int .u64 ((lv.getD i 0 : Nat) : Int))) := fun i hi => HDv.out.1.cell (g := gv) rfl (u64c_get lv i (by rw [← HM.out]; exact hi))
              have cu : Hid (∀ i, i < m → wr.cell? ⟨gw, i, none⟩ = some (.int .u64 ((lu.getD i 0 : Nat) : Int))) := fun i hi => HDu.out.1.cell (g := gw) rfl (u64c_get lu i (by rw [← HMu.out, hmu.out]; exact hi))
              have HBr := Lib.hid HB.out
              have hm1 : 1 ≤ m := by omega
              have hmu2 : mu ≤ m := hlu
              have hmu3 : m ≤ mu := by omega
              obtain ⟨wz, rfl⟩ : ∃ wz, wz = wr := ⟨_, rfl⟩
              clear hlt2 HO HNe HVlt hwq2
              go_wp2_with fail
              go_loopw [9] (fun i wr => ∃ j : Nat, ∃ dr : Nat, j ≤ m ∧ i = .int .i64 ((j : Int) - 1) ∧ lv.drop j = lu.drop j ∧ wr = wz.drewN dr) (fun i _ => (intOf i + 1).toNat)
              case atStart => exact ⟨m, 0, Nat.le_refl _, rfl, by rw [List.drop_eq_nil_of_le (by rw [← HM.out]; exact Nat.le_refl _), List.drop_eq_nil_of_le (by rw [← hlL.out, ← HM.out]; exact Nat.le_refl _)], rfl⟩
              case round =>
                obtain ⟨j, dr, hj, rfl, hdrop, rfl⟩ := hrel
                have HDr := Lib.hid hdrop
                clear hdrop
                by_cases hj0 : 0 < j
                · obtain ⟨d, rfl⟩ : ∃ d, j = d + 1 := ⟨j - 1, by omega⟩
                  rw [show (((d + 1 : Nat) : Int) - 1) = (d : Int) from by omega]
                  obtain ⟨x1, hx1⟩ : ∃ x1, lv.getD d 0 = x1 := ⟨_, rfl⟩
                  obtain ⟨x2, hx2⟩ : ∃ x2, lu.getD d 0 = x2 := ⟨_, rfl⟩
                  have c1 := cv.out d (by omega)
                  have c2 := cu.out d (by omega)
                  rw [hx1] at c1
                  rw [hx2] at c2
                  have HX1 := Lib.hid hx1
                  have HX2 := Lib.hid hx2
                  have hdm : d < mu := by omega
                  have hdm2 : d < m := by omega
                  clear hx1 hx2
                  have hdl : d < lv.length := by rw [← HM.out]; exact hdm2
                  have hdu : d < lu.length := by rw [← HMu.out]; exact hdm
                  by_cases hne2 : x1 = x2
                  · have t1 : ((x1 : Int) != (x2 : Int)) = false := by rw [bne_eq_false_iff_eq]; omega
                    have t2 : ((x1 : Int) == (x2 : Int)) = true := by rw [beq_iff_eq]; omega
                    have hdr2 : Hid (lv.drop d = lu.drop d) := by
                      unfold Hid
                      rw [List.drop_eq_getElem_cons hdl, List.drop_eq_getElem_cons hdu, HDr.out]
                      have e1 := HX1.out
                      have e2 := HX2.out
                      rw [List.getD_eq_getElem?_getD, List.getElem?_eq_getElem hdl, Option.getD_some] at e1
                      rw [List.getD_eq_getElem?_getD, List.getElem?_eq_getElem hdu, Option.getD_some] at e2
                      rw [e1, e2, hne2]
                    have HE := Lib.hid hne2
                    clear hne2
                    go_wp2_with fail
                    go_quiet (fail)
                    go_wp2_with fail
                    go_roundw
                    case rel => exact ⟨d, _, by omega, rfl, hdr2.out, rfl⟩
                    case measure => simp [intOf]
                  · have t1 : ((x1 : Int) != (x2 : Int)) = true := by rw [bne_iff_ne]; omega
                    have t2 : ((x1 : Int) == (x2 : Int)) = false := by rw [beq_eq_false_iff_ne]; omega
                    have hcmp := dval_cmp lv lu d hlL.out hdl HDv.out.2 HDu.out.2 HDr.out (by rw [HX1.out, HX2.out]; exact hne2)
                    rw [HV.out, HVU.out, HX1.out, HX2.out] at hcmp
                    have hfin : Hid (decide (x ^ k > p * 65536 ^ (2 * k)) = decide (x2 < x1)) := by
                      unfold Hid; exact decide_eq_decide.2 hcmp
                    clear hcmp hne2
                    go_wp2_with fail
                    go_quiet (fail)
                    go_wp2_with fail
                    go_quiet (fail)
                    go_wp2_with fail
                    go_ret
                    rw [hfin.out]
                    exact ⟨by simp, belowN (belowN (belowN HBr.out _) _) _⟩
                · have hj1 : j = 0 := by omega
                  subst hj1
                  have hfin : Hid (decide (x ^ k > p * 65536 ^ (2 * k)) = false) := by
                    unfold Hid
                    have e : lv = lu := by simpa using HDr.out
                    refine decide_eq_false ?_
                    rw [← HV.out, ← HVU.out, e]; omega
                  go_wp2_with fail
                  go_ret
                  rw [hfin.out]
                  exact ⟨rfl, belowN HBr.out _⟩
set_option maxRecDepth 100000 in
set_option maxHeartbeats 1000000 in
theorem root_any (p k r : Nat) (w : World) (hk0 : 0 < k) (hk : k ≤ 3) (hp : p < 65536) (h1 : r ^ k ≤ p * 65536 ^ (2 * k)) (h2 : p * 65536 ^ (2 * k) < (r + 1) ^ k) (h3 : p * 65536 ^ (2 * k) < 1099511627776 ^ k) :
    Calls Tryd.prog 94 #[.int .u64 (p : Int), .int .i64 (k : Int)] w fun e w' => e = .returned (.int .u32 (iv (BitVec.ofNat 32 r))) ∧ Below w.heap.size w w' := by
  have H1 := Lib.hid h1
  have H2 := Lib.hid h2
  have H3 := Lib.hid h3
  clear h1 h2 h3
  go_enter Tryd.func94, Tryd.ntmps94
  go_wp2_with fail
  go_loopw [5, 6] (fun l h wr => ∃ lo hi : Nat, lo < hi ∧ hi ≤ 1099511627776 ∧ l = .int .u64 lo ∧ h = .int .u64 hi ∧ lo ^ k ≤ p * 65536 ^ (2 * k) ∧ p * 65536 ^ (2 * k) < hi ^ k ∧ Below w.heap.size w wr) (fun l h _ => (intOf h - intOf l).toNat)
  case atStart => exact ⟨0, 1099511627776, by omega, by omega, rfl, rfl, by rw [Nat.zero_pow hk0]; exact Nat.zero_le _, H3.out, Below.refl _ _⟩
  case round =>
    obtain ⟨lo, hi, hlt, hhi, rfl, rfl, hlo, hhk, hB⟩ := hrel
    have HLo := Lib.hid hlo
    have HHk := Lib.hid hhk
    have HB := Lib.hid hB
    have hbw := hB.size
    clear hlo hhk hB
    by_cases hc : lo + 1 < hi
    · obtain ⟨x, hx⟩ : ∃ x, x = (lo + hi) / 2 := ⟨_, rfl⟩
      have hx1 : ((lo : Int) + hi) / 2 = (x : Int) := by omega
      have hx2 : lo < x := by omega
      have hx3 : x < hi := by omega
      have HX := Lib.hid hx
      clear hx
      by_cases ha : x ^ k > p * 65536 ^ (2 * k)
      · have HC := Lib.hid (above_any x k p wr (by omega) hk0 hk hp)
        rw [decide_eq_true ha] at HC
        have HA := Lib.hid ha
        clear ha
        go_wp2_with (go_at_call 143; refine HC.out.mono ?_; rintro e w1 ⟨rfl, hB1⟩)
        go_roundw
        case rel => exact ⟨lo, x, hx2, by omega, rfl, rfl, HLo.out, HA.out, HB.out.trans (hB1.mono hbw)⟩
        case measure => simp [intOf]; omega
      · have HC := Lib.hid (above_any x k p wr (by omega) hk0 hk hp)
        rw [decide_eq_false ha] at HC
        have HA := Lib.hid (Nat.le_of_not_lt ha)
        clear ha
        go_wp2_with (go_at_call 143; refine HC.out.mono ?_; rintro e w1 ⟨rfl, hB1⟩)
        go_roundw
        case rel => exact ⟨x, hi, hx3, hhi, rfl, rfl, HA.out, HHk.out, HB.out.trans (hB1.mono hbw)⟩
        case measure => simp [intOf]; omega
    · have hhe : Hid (hi = lo + 1) := by unfold Hid; omega
      have hr : Hid (lo = r) := root_unique k _ lo r hk0 HLo.out (by have := HHk.out; rw [hhe.out] at this; exact this) H1.out H2.out
      have hcv : IntKind.u32.wrap (lo : Int) = iv (BitVec.ofNat 32 lo) := by
        rw [IntKind.wrap_u32]; unfold iv; rw [BitVec.toNat_ofNat]; omega
      go_wp2_with fail
      go_ret
      rw [← hr.out]
      exact ⟨by first | rfl | (rw [← hcv]; rfl), HB.out⟩

theorem u_ints : Tryd.prog.underlying 141 = some (.slice 3) := by kernel_rfl
theorem i_int : (Tryd.prog.info? 3).map (fun i => (i.zero, i.size, i.bytes)) = some (some (.int .i64 0), 1, 8) := by kernel_rfl
/-- numbers as cells -/
def intc (l : List Nat) : List Value := l.map fun d : Nat => Value.int .i64 (d : Int)
theorem intc_get (l : List Nat) (i : Nat) (h : i < l.length) : (intc l)[i]? = some (.int .i64 ((l.getD i 0 : Nat) : Int)) := by simp [intc, h]
def PrimesPost (w : World) (e : Ending) (w' : World) : Prop := ∃ v n, n = 64 ∧ e = .returned v ∧ Own w' w.heap.size 3 1 v n (intc P64) ∧ Below w.heap.size w w'

set_option maxRecDepth 100000 in
set_option maxHeartbeats 1000000 in
theorem primes_any (w : World) : Calls Tryd.prog 93 #[.int .i64 64] w (PrimesPost w) := by
  go_enter Tryd.func93, Tryd.ntmps93
  go_wp2_with fail
  go_loopw [3, 4] (fun l i wr => ∃ k n : Nat, 2 ≤ k ∧ k ≤ 312 ∧ i = .int .i64 k ∧ n = (pB (k - 2)).length ∧ Own wr w.heap.size 3 1 l n (intc (pB (k - 2))) ∧ Below w.heap.size w wr) (fun _ i _ => 312 - (intOf i).toNat)
  case atStart => exact ⟨2, 0, by omega, by omega, rfl, rfl, Own.nil _ _ _ _, Below.refl _ _⟩
  case round =>
    obtain ⟨k, n, hk2, hk, rfl, hn, hO, hB⟩ := hrel
    have HO := Lib.hid hO
    have HB := Lib.hid hB
    have HN := Lib.hid hn
    have hbw := hB.size
    have hsh := hO.shape
    obtain ⟨vo, vcap, rfl⟩ : ∃ vo vcap, u3 = .slice vo n vcap := by
      rcases hsh with ⟨rfl, h0, _⟩ | ⟨g, cap, rfl, _⟩
      · exact ⟨none, 0, by rw [h0]⟩
      · exact ⟨_, _, rfl⟩
    clear hO hB hn hsh
    by_cases hlt : k < 312
    · have hn64 : n < 64 := by rw [HN.out]; exact pB_short _ (by omega)
      have hn64i : (n : Int) < 64 := by omega
      obtain ⟨wo, rfl⟩ : ∃ wo, wo = wr := ⟨_, rfl⟩
      go_wp2_with fail
      go_loop [5, 16] (fun t i => ∃ q : Nat, q ≤ n ∧ i = .int .i64 q ∧ t = .bool (((pB (k - 2)).take q).all fun p => k % p != 0)) (fun _ i => n - (intOf i).toNat)
      case atStart => exact ⟨0, Nat.zero_le _, rfl, rfl⟩
      case round =>
        obtain ⟨q, hq, rfl, rfl⟩ := hrel
        by_cases hql : q < n
        · obtain ⟨p, hp⟩ : ∃ p, (pB (k - 2))[q]? = some p := ⟨_, List.getElem?_eq_getElem (by rw [← HN.out]; exact hql)⟩
          have hp2 := pB_pos _ p (List.mem_of_getElem? hp)
          obtain ⟨gv, hgv⟩ : ∃ gv, vo = some ⟨gv, 0, none⟩ := by
            rcases HO.out.shape with ⟨h0, h1, _⟩ | ⟨g, cap, h0, _⟩
            · omega
            · simp only [Value.slice.injEq] at h0; exact ⟨g, h0.1⟩
          subst hgv
          have hc : wo.cell? ⟨gv, q, none⟩ = some (.int .i64 (p : Int)) := HO.out.cell (g := gv) rfl (by simp [intc, hp])
          have hst : Hid ((((pB (k - 2)).take (q + 1)).all fun p => k % p != 0) = ((((pB (k - 2)).take q).all fun p => k % p != 0) && (k % p != 0))) := by
            unfold Hid
            obtain ⟨hql2, hpe⟩ := List.getElem?_eq_some_iff.1 hp
            rw [List.take_succ_eq_append_getElem hql2, List.all_append, hpe]
            simp
          generalize ((pB (k - 2)).take q).all (fun p => k % p != 0) = b at *
          have hp0 : ((p : Int) == 0) = false := by rw [beq_eq_false_iff_ne]; omega
          have hp1 : (2 : Int) ≤ p := by omega
          have hp3 : 2 ≤ p := by omega
          clear hp2 hp
          cases b with
          | false =>
            go_wp2_with fail
            go_round
            case rel => exact ⟨q + 1, by omega, by go_num, by rw [hst.out]; rfl⟩
            case measure => simp [intOf]; omega
          | true =>
            go_wp2_with fail
            go_round
            case rel =>
              refine ⟨q + 1, by omega, by go_num, ?_⟩
              rw [hst.out, Bool.true_and]
              congr 1
              rw [Bool.eq_iff_iff, bne_iff_ne, bne_iff_ne]
              omega
            case measure => simp [intOf]; omega
        · have hqe : q = n := by omega
          have hall : Hid ((((pB (k - 2)).take q).all fun p => k % p != 0) = isP k (pB (k - 2))) := by
            unfold Hid isP
            rw [List.take_of_length_le (by rw [← HN.out]; omega)]
          have hpB : Hid (pB (k + 1 - 2) = if isP k (pB (k - 2)) then pB (k - 2) ++ [k] else pB (k - 2)) := by
            unfold Hid
            obtain ⟨j, rfl⟩ : ∃ j, k = 2 + j := ⟨k - 2, by omega⟩
            rw [show 2 + j + 1 - 2 = j + 1 from by omega, show 2 + j - 2 = j from by omega, pB]
          have hd1 : decide (q < n) = false := decide_eq_false hql
          rw [hall.out]
          cases hb : isP k (pB (k - 2)) with
          | true =>
            rw [hb, if_pos rfl] at hpB
            clear hqe hql
            go_wp2_with (at_builtin; refine app_lit rfl _ _ 141 rfl w.heap.size 3 (.int .i64 0) 1 8 u_ints i_int rfl (by decide) _ _ _ rfl HO.out 1 _ rfl rfl (by intro u hu; simp at hu; subst hu; rfl) (by omega) (by omega) hbw ?_; intro v1 w1 hown1 hgrow1)
            have hrow : ∀ j, (Value.slice vo n vcap).ownBlock = some j → w.heap.size ≤ j := fun j hj => (HO.out.lt j hj).1
            go_roundw
            case rel =>
              refine ⟨k + 1, n + 1, by omega, by omega, by go_num, ?_, ?_, HB.out.grown hgrow1 hbw hrow⟩
              · rw [hpB.out, List.length_append, ← HN.out]; rfl
              · rw [hpB.out, intc, List.map_append]; exact hown1
            case measure => simp [intOf]; omega
          | false =>
            rw [hb, if_neg (by decide)] at hpB
            clear hqe hql
            go_wp2_with fail
            go_roundw
            case rel => exact ⟨k + 1, n, by omega, by omega, by go_num, by rw [hpB.out]; exact HN.out, by rw [hpB.out]; exact HO.out, HB.out⟩
            case measure => simp [intOf]; omega
    · have hk312 : k = 312 := by omega
      have hP : Hid (pB (k - 2) = P64) := by unfold Hid; rw [hk312]; exact pB_310
      have hn64 : Hid (n = 64) := by unfold Hid; rw [HN.out, hP.out]; rfl
      have hn64i : ¬ (n : Int) < 64 := by have := hn64.out; omega
      have hd2 : decide ((n : Int) < 64) = false := decide_eq_false hn64i
      have hfin : Hid (Own wr w.heap.size 3 1 (.slice vo n vcap) 64 (intc P64)) := by
        unfold Hid
        rw [← hP.out]
        have := HO.out
        rwa [hn64.out] at this ⊢
      clear hk312 hlt
      go_wp2_with fail
      go_ret
      exact ⟨_, 64, rfl, rfl, hfin.out, HB.out⟩

end Go.Proofs.YtfhjnfocmlndpaaDoor
