/- Slices that a call owns: what stands at another address appended, zero values appended, copied into; a row's spare cells taken in. -/
import Derived.Test.YtfhjnfocmlndpaaDoorMark
import Derived.Lib.AppendZerosOnto
namespace Go.Proofs.YtfhjnfocmlndpaaDoor
open Go Go.RowKit Go.Proofs

/-- what a copy into a row comes to -/
theorem run_copy_row (P : Program) (w : World) (dT sT ty elem : TypeId) (i : TypeInfo) (size : Nat) (hu : P.underlying dT = some (.slice elem)) (hi : P.info? elem = some i) (hsz : i.size = size)
    (g o dLen dCap : Nat) (A : Addr) (sLen sCap : Nat) (cs : List Value) (hn : cs.length = Nat.min sLen dLen * size) (hsrc : ∀ j u, cs[j]? = some u → w.cell? (A.add j) = some u)
    (cur : Array Value) (fr : Nat × Nat) (hg : w.heap[g]? = some (.cells cur elem fr)) (hfr : ∀ j, j < cur.size → ¬ (fr.1 ≤ j ∧ j < fr.2)) (hfit : o + cs.length ≤ cur.size) (h1 : ∀ u ∈ cs, u.oneCell' = true) :
    (Builtin.copy_ #[dT, sT] ty #[.slice (some ⟨g, o, none⟩) dLen dCap, .slice (some A) sLen sCap]).run P w = .ok (goInt (Nat.min sLen dLen)) (w.setRow g (cur.toList.take o ++ cs ++ cur.toList.drop (o + cs.length)).toArray) := by
  have hf := run_firstCells_some (P := P) w size (Nat.min sLen dLen) A sLen sCap cs hn hsrc
  have hst := storeCells_row P g o elem fr cs 0 cur w hg (by simpa using hfit) hfr h1
  simp only [Nat.add_zero] at hst
  simp [Builtin.copy_, run_underlying hu, Builtin.lenOf, sizeOf, typeInfo, hi, hsz, hf, hst]

section
variable {P : Program} {w : World} {ops : Array Oper} {rest : List Oper} {o : Oper} {a : Act} {Q : Exit → Act → World → Prop}
/-- the walk's law for 'append(s, x...)' of what can be read somewhere -/
theorem app_src (hgd : o.guard = none) (s x : Operand) (t : TypeId)
    (ho : o.op = .call { callee := .builtin .append, args := #[s, x], argTypes := #[t, t] })
    (base : Nat) (e : TypeId) (z : Value) (size bytes : Nat) (ht : P.underlying t = some (.slice e)) (hinf : (P.info? e).map (fun i => (i.zero, i.size, i.bytes)) = some (some z, size, bytes))
    (hzs : z.cells.size = size) (hsz : 0 < size)
    (v : Value) (n : Nat) (xs : List Value) (hs : a.eval s = v) (hown : Own w base e size v n xs)
    (A : Addr) (m c : Nat) (news : List Value) (hx : a.eval x = .slice (some A) m c) (hl : news.length = m * size) (hnews : ∀ j u, news[j]? = some u → w.cell? (A.add j) = some u) (h1 : ∀ u ∈ news, u.oneCell' = true)
    (hn : n + m ≤ 1000000000000) (hbytes : (n + m) * bytes ≤ 140737488355328) (hbase : base ≤ w.heap.size)
    (h : ∀ v' w', Own w' base e size v' (n + m) (xs ++ news) → w.grownBy w' v.ownBlock → (∀ k, v'.ownBlock = some k → v.ownBlock = some k ∨ w.heap.size ≤ k) → wpList P ops Q rest (a.put o.dst v') w') :
    wpList P ops Q (o :: rest) a w := by
  obtain ⟨i, hi, hz, hsize, hby⟩ := info_parts hinf
  refine wpList_plain hgd fun K hK => ?_
  obtain ⟨v', w', hr, h2, h3, h4⟩ := run_append P w base t o.type e i z size bytes ht hi hz hsize hby hzs hsz v n xs hown A m c news hl hnews h1 (by unfold maxLen; omega) hbytes hbase
  unfold Oper.wp execOp
  simp only [ho, resolve, invoke, builtin, Sem.run_bind, Sem.run_pure, Result.andThen_ok, List.map_toArray, List.map_cons, List.map_nil, hs, hx, hr]
  exact hK _ _ (h v' w' h2 h3 h4)
/-- the walk's law for 'copy(d, s)' where d lies in a row of the call's own -/
theorem copy_own (hgd : o.guard = none) (d s : Operand) (t t' : TypeId)
    (ho : o.op = .call { callee := .builtin .copy, args := #[d, s], argTypes := #[t, t'] })
    (base : Nat) (e : TypeId) (z : Value) (size bytes : Nat) (ht : P.underlying t = some (.slice e)) (hinf : (P.info? e).map (fun i => (i.zero, i.size, i.bytes)) = some (some z, size, bytes))
    (g n cap : Nat) (xs : List Value) (hown : Own w base e size (.slice (some ⟨g, 0, none⟩) n cap) n xs)
    (k dLen dCap : Nat) (hd : a.eval d = .slice (some ⟨g, k, none⟩) dLen dCap) (A : Addr) (sLen sCap : Nat) (cs : List Value) (hs : a.eval s = .slice (some A) sLen sCap)
    (c : Nat) (hc : Nat.min sLen dLen = c) (hn : cs.length = c * size) (hsrc : ∀ j u, cs[j]? = some u → w.cell? (A.add j) = some u) (h1 : ∀ u ∈ cs, u.oneCell' = true) (hfit : k + cs.length ≤ xs.length)
    (h : ∀ w', Own w' base e size (.slice (some ⟨g, 0, none⟩) n cap) n (xs.take k ++ cs ++ xs.drop (k + cs.length)) → w.grownBy w' (some g) → wpList P ops Q rest (a.put o.dst (.int .i64 (c : Int))) w') :
    wpList P ops Q (o :: rest) a w := by
  subst hc
  obtain ⟨i, hi, hz, hsize, hby⟩ := info_parts hinf
  refine wpList_plain hgd fun K hK => ?_
  obtain ⟨hxl, hrow⟩ := hown
  rcases hrow with ⟨hv, _⟩ | ⟨g', cap', cur, fr, hv, hbg, hg, hnc, hcm, hcs, hfr, htake⟩
  · cases hv
  · simp only [Value.slice.injEq, Option.some.injEq, Addr.mk.injEq, and_true, true_and] at hv
    obtain ⟨rfl, rfl⟩ := hv
    have hsplit : cur.toList = xs ++ cur.toList.drop (n * size) := by rw [← htake, List.take_append_drop]
    have hcl : n * size ≤ cur.size := by rw [hcs]; exact Nat.mul_le_mul_right _ hnc
    have hr := run_copy_row P w t t' o.type e i size ht hi hsize g k dLen dCap A sLen sCap cs hn hsrc cur fr hg hfr (by omega) h1
    have hnew : cur.toList.take k ++ cs ++ cur.toList.drop (k + cs.length) = (xs.take k ++ cs ++ xs.drop (k + cs.length)) ++ cur.toList.drop (n * size) := by
      rw [hsplit, List.take_append_of_le_length (by omega), List.drop_append_of_le_length (by omega), ← hsplit]
      simp
    have hln : (xs.take k ++ cs ++ xs.drop (k + cs.length)).length = n * size := by
      simp only [List.length_append, List.length_take, List.length_drop]
      omega
    unfold Oper.wp execOp
    simp only [ho, resolve, invoke, builtin, Sem.run_bind, Sem.run_pure, Result.andThen_ok, List.map_toArray, List.map_cons, List.map_nil, hd, hs, hr]
    refine hK _ _ (h _ ⟨hln, .inr ⟨g, cap, _, fr, rfl, hbg, setRow_heap w g cur _ e _ hg, hnc, hcm, ?_, ?_, ?_⟩⟩ ⟨rfl, rfl, rfl, by simp, fun j _ hj => setRow_other w g j _ (fun e => hj (by simp [e]))⟩)
    · rw [hnew]
      simp only [List.size_toArray, List.length_append, hln, List.length_drop, Array.length_toList]
      omega
    · intro j hj
      refine hfr j ?_
      rw [hnew] at hj
      simp only [List.size_toArray, List.length_append, hln, List.length_drop, Array.length_toList] at hj
      omega
    · rw [hnew, ← hln]
      exact List.take_left
/-- the walk's law for 'append(s[:k], make([]T, m)...)' that grows -/
theorem app_zeros (hgd : o.guard = none) (s x : Operand) (t tn : TypeId)
    (ho : o.op = .call { callee := .builtin .append, args := #[s, x], argTypes := #[t, tn] })
    (base : Nat) (e : TypeId) (z : Value) (size bytes : Nat) (kn : IntKind) (ht : P.underlying t = some (.slice e)) (htn : P.underlying tn = some (.int kn)) (hinf : (P.info? e).map (fun i => (i.zero, i.size, i.bytes)) = some (some z, size, bytes))
    (hzs : z.cells.size = size) (hsz : 0 < size)
    (g n cap : Nat) (xs : List Value) (hown : Own w base e size (.slice (some ⟨g, 0, none⟩) n cap) n xs)
    (k m N : Nat) (hN : k + m = N) (hk : k ≤ n) (hs : a.eval s = .slice (some ⟨g, 0, none⟩) k cap) (hx : a.eval x = .int .i64 (m : Int)) (hm : 0 < m) (hgrow : cap < k + m)
    (hn : k + m ≤ 1000000000000) (hbytes : (k + m) * bytes ≤ 140737488355328) (hbase : base ≤ w.heap.size)
    (h : ∀ c' w' zs, zs.length = m * size → Own w' base e size (.slice (some ⟨w.heap.size, 0, none⟩) N c') N (xs.take (k * size) ++ zs) → N ≤ c' → c' ≤ 9223372036854775807 → w.grownBy w' none → w.heap.size < w'.heap.size → wpList P ops Q rest (a.put o.dst (.slice (some ⟨w.heap.size, 0, none⟩) N c')) w') :
    wpList P ops Q (o :: rest) a w := by
  subst hN
  obtain ⟨i, hi, hz, hsize, hby⟩ := info_parts hinf
  subst hsize
  subst hby
  refine wpList_plain hgd fun K hK => ?_
  have hks : k * i.size ≤ xs.length := by rw [hown.1]; exact Nat.mul_le_mul_right _ hk
  have hold : (Builtin.firstCells i.size k (.slice (some ⟨g, 0, none⟩) k cap)).run P w.drew = .ok (xs.take (k * i.size)).toArray w.drew :=
    run_firstCells_some w.drew i.size k ⟨g, 0, none⟩ k cap (xs.take (k * i.size)) (by rw [List.length_take]; omega) (fun j v hj => by
      rw [add_addr]
      rw [List.getElem?_take] at hj
      split at hj
      · exact hown.cell (g := g) rfl hj
      · cases hj)
  have hmb : m * i.bytes ≤ (k + m) * i.bytes := Nat.mul_le_mul_right _ (Nat.le_add_left _ _)
  have hr := Lib.run_append_grow_zeros w t tn o.type e i z .i64 kn ht htn hi hz (some ⟨g, 0, none⟩) k cap (xs.take (k * i.size)) hold m hm hsz hgrow (by omega) (by omega) (growslice_fits hgrow hbytes)
  have hge := grownCap_ge w (k + m) cap e
  have hcm2 : grownCap w (k + m) cap e ≤ maxLen := grownCap_le_maxLen w (k + m) cap e (by unfold maxLen; omega)
  have hzl : ∀ j, (Builtin.zeroCells z.cells j).size = j * i.size := fun j => by rw [size_zeroCells, hzs]
  have hzt : (Builtin.zeroCells z.cells m).toList.length = m * i.size := by simpa using hzl m
  unfold Oper.wp execOp
  simp only [ho, resolve, invoke, builtin, Sem.run_bind, Sem.run_pure, Result.andThen_ok, List.map_toArray, List.map_cons, List.map_nil, hs, hx, hr]
  refine hK _ _ (h _ _ (Builtin.zeroCells z.cells m).toList hzt ⟨?_, .inr ⟨w.heap.size, _, _, (0, 0), rfl, hbase, heap_alloc_new w.drew _, hge, hcm2, ?_, fun j _ hj => by simp at hj, ?_⟩⟩ hge (by unfold maxLen at hcm2; omega) ⟨rfl, rfl, rfl, by simp, fun k hk _ => Below.heap_alloc w.drew _ k hk⟩ (by simp))
  · rw [List.length_append, List.length_take, hzt, Nat.add_mul]
    omega
  · rw [Array.size_append, Array.size_append, hzl, hzl, List.size_toArray, List.length_take, Nat.min_eq_left hks, ← Nat.add_mul, ← Nat.add_mul]
    congr 1
    omega
  · have e1 : ((xs.take (k * i.size)).toArray ++ Builtin.zeroCells z.cells m ++ Builtin.zeroCells z.cells (grownCap w (k + m) cap e - (k + m))).toList = (xs.take (k * i.size) ++ (Builtin.zeroCells z.cells m).toList) ++ (Builtin.zeroCells z.cells (grownCap w (k + m) cap e - (k + m))).toList := by simp
    have e2 : (xs.take (k * i.size) ++ (Builtin.zeroCells z.cells m).toList).length = (k + m) * i.size := by
      rw [List.length_append, List.length_take, hzt, Nat.add_mul]
      omega
    rw [e1, ← e2]
    exact List.take_left
end
/-- a row's spare cells -/
theorem Own.extend {w : World} {base : Nat} {e : TypeId} {size g n cap : Nat} {xs : List Value} (h : Own w base e size (.slice (some ⟨g, 0, none⟩) n cap) n xs) (m : Nat) (hm : n + m ≤ cap) :
    ∃ ys, ys.length = m * size ∧ Own w base e size (.slice (some ⟨g, 0, none⟩) (n + m) cap) (n + m) (xs ++ ys) := by
  obtain ⟨hxl, hrow⟩ := h
  rcases hrow with ⟨hv, _⟩ | ⟨g', cap', cur, fr, hv, hbg, hg, hnc, hcm, hcs, hfr, htake⟩
  · cases hv
  · simp only [Value.slice.injEq, Option.some.injEq, Addr.mk.injEq, and_true, true_and] at hv
    obtain ⟨rfl, rfl⟩ := hv
    have hcl : (n + m) * size ≤ cur.size := by rw [hcs]; exact Nat.mul_le_mul_right _ hm
    rw [Nat.add_mul] at hcl
    have hyl : ((cur.toList.drop (n * size)).take (m * size)).length = m * size := by
      rw [List.length_take, List.length_drop, Array.length_toList]
      omega
    refine ⟨(cur.toList.drop (n * size)).take (m * size), hyl, ?_, .inr ⟨g, cap, cur, fr, rfl, hbg, hg, hm, hcm, hcs, hfr, ?_⟩⟩
    · rw [List.length_append, hxl, hyl, Nat.add_mul]
    · rw [Nat.add_mul, List.take_add, htake]
theorem Own.cap_le {w : World} {base : Nat} {e : TypeId} {size g n cap : Nat} {xs : List Value} (h : Own w base e size (.slice (some ⟨g, 0, none⟩) n cap) n xs) : n ≤ cap ∧ cap ≤ maxLen := by
  rcases h.2 with ⟨hv, _⟩ | ⟨g', cap', cur, fr, hv, _, _, hnc, hcm, _⟩
  · cases hv
  · simp only [Value.slice.injEq, Option.some.injEq, Addr.mk.injEq, and_true, true_and] at hv
    obtain ⟨rfl, rfl⟩ := hv
    exact ⟨hnc, hcm⟩
theorem Own.plain {w : World} {base : Nat} {e : TypeId} {size g n cap : Nat} {xs : List Value} (h : Own w base e size (.slice (some ⟨g, 0, none⟩) n cap) n xs) : ∃ k, w.shape? g = some (e, k) ∧ k = cap * size := by
  rcases h.2 with ⟨hv, _⟩ | ⟨g', cap', cur, fr, hv, _, hg, _, _, hcs, _⟩
  · cases hv
  · simp only [Value.slice.injEq, Option.some.injEq, Addr.mk.injEq, and_true, true_and] at hv
    obtain ⟨rfl, rfl⟩ := hv
    exact ⟨cur.size, by simp [World.shape?, hg], hcs⟩
end Go.Proofs.YtfhjnfocmlndpaaDoor
