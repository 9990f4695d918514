/-
  What functions come to: Insert, Delete and Update. Conditions: none.
-/
import Derived.Test.YthncjbjlnligaaaPvS
set_option linter.unusedVariables false
set_option linter.unusedSimpArgs false
namespace Go.Pv
open Go
set_option maxRecDepth 100000
set_option maxHeartbeats 8000000

theorem idxS_of {l : List Tr} {id : Int} {k : Nat} (h : idxI l id = k) : idxS l id = some k := by
  unfold idxI at h
  cases hk : idxS l id with
  | none => rw [hk] at h; simp only at h; omega
  | some j => rw [hk] at h; simp only at h; congr 1; omega
theorem idxS_none {l : List Tr} {id : Int} (h : idxI l id = -1) : idxS l id = none := by
  unfold idxI at h
  cases hk : idxS l id with
  | none => rfl
  | some j => rw [hk] at h; simp only at h; omega

/-- A delete or an update of a transaction, in plain words. -/
def chR (s : Sto) (id : Int) (w : Wr) : Sto × Int := if ckStore s ≠ 0 then (emptySto, ckStore s) else match idxS s.opn id with
  | none => (emptySto, 6)
  | some k => match s.opn[k]? with
    | none => (emptySto, 6)
    | some t => if w.kind = 3 ∧ ckRow s.cols w.vals ≠ 0 then (emptySto, ckRow s.cols w.vals) else wrR s k t w
theorem chR_1 {s : Sto} {id : Int} {w : Wr} (h : ckStore s ≠ 0) : chR s id w = (emptySto, ckStore s) := if_pos h
theorem chR_2 {s : Sto} {id : Int} {w : Wr} (h : ckStore s = 0) (h2 : idxI s.opn id = -1) : chR s id w = (emptySto, 6) := by
  unfold chR; rw [if_neg (by simpa using h), idxS_none h2]
theorem chR_3 {s : Sto} {id : Int} {w : Wr} (h : ckStore s = 0) {k : Nat} (h2 : idxI s.opn id = k) {t : Tr} (h3 : s.opn[k]? = some t) : chR s id w = if w.kind = 3 ∧ ckRow s.cols w.vals ≠ 0 then (emptySto, ckRow s.cols w.vals) else wrR s k t w := by
  unfold chR; rw [if_neg (by simpa using h), idxS_of h2]; simp only [h3]

/-- An insert, in plain words. -/
def insR (s : Sto) (id : Int) (v : List Val) : Sto × Int × Int := if ckStore s ≠ 0 then (emptySto, 0, ckStore s) else match idxS s.opn id with
  | none => (emptySto, 0, 6)
  | some k => match s.opn[k]? with
    | none => (emptySto, 0, 6)
    | some t => if ckRow s.cols v ≠ 0 then (emptySto, 0, ckRow s.cols v) else if s.nextRow = 1000000 then (emptySto, 0, 14) else if t.writes.length = 200 then (emptySto, 0, 2)
      else ({ putW s k t ⟨1, s.nextRow, v⟩ with nextRow := s.nextRow + 1 }, s.nextRow, 0)
theorem insR_1 {s : Sto} {id : Int} {v : List Val} (h : ckStore s ≠ 0) : insR s id v = (emptySto, 0, ckStore s) := if_pos h
theorem insR_2 {s : Sto} {id : Int} {v : List Val} (h : ckStore s = 0) (h2 : idxI s.opn id = -1) : insR s id v = (emptySto, 0, 6) := by
  unfold insR; rw [if_neg (by simpa using h), idxS_none h2]
theorem insR_3 {s : Sto} {id : Int} {v : List Val} (h : ckStore s = 0) {k : Nat} (h2 : idxI s.opn id = k) {t : Tr} (h3 : s.opn[k]? = some t) : insR s id v = if ckRow s.cols v ≠ 0 then (emptySto, 0, ckRow s.cols v) else if s.nextRow = 1000000 then (emptySto, 0, 14) else if t.writes.length = 200 then (emptySto, 0, 2)
      else ({ putW s k t ⟨1, s.nextRow, v⟩ with nextRow := s.nextRow + 1 }, s.nextRow, 0) := by
  unfold insR; rw [if_neg (by simpa using h), idxS_of h2]; simp only [h3]

theorem wr_cases3 (s : Sto) (k : Nat) (t : Tr) (w : Wr) (p : Prop) (h1 : placeI (seesS s t) w.row < 0 → wrR s k t w = (emptySto, 6) → p)
    (h2 : ¬ placeI (seesS s t) w.row < 0 → (t.writes.length = 200) = True → wrR s k t w = (emptySto, 2) → p)
    (h3 : ¬ placeI (seesS s t) w.row < 0 → (t.writes.length = 200) = False → wrR s k t w = (putW s k t w, 0) → p) : p := by
  by_cases q1 : placeI (seesS s t) w.row < 0
  · exact h1 q1 (by simp [wrR, q1])
  · by_cases q2 : t.writes.length = 200
    · exact h2 q1 (eq_true q2) (by simp [wrR, q1, q2])
    · exact h3 q1 (eq_false q2) (by simp [wrR, q1, q2])

theorem sees_len {s : Sto} {t : Tr} (hv : s.vers.length ≤ 3000) (ht : t.writes.length ≤ 200) : (seesS s t).length < 2 ^ 30 := by
  have h1 := base_len s.vers t.sees
  have h : ∀ (ws : List Wr) (l : List Sn), (ws.foldl wroteS l).length ≤ l.length + ws.length := fun ws => by
    induction ws with
    | nil => intro l; simp
    | cons w ws ih =>
      intro l
      have h1 := ih (wroteS l w)
      have h2 := wrote_len l w
      rw [List.foldl_cons, List.length_cons]
      omega
  have := h t.writes (baseS s.vers t.sees)
  unfold seesS
  omega

theorem e61 (s : Sto) (hw : Wf s) (id : Int) (w : Wr) (hwv : ∀ a ∈ w.vals, a.text.size < 2 ^ 63) : Is code ext 11 61 [.agg s.e, .i id, .agg w.e] (.tup [.agg (chR s id w).1.e, .i (chR s id w).2]) := by
  refine Is.step code ext c61 fun n hn => ?_
  have h1 : isoOf (run1 code ext n) 12 [.agg s.e] = some (.i (ckStore s)) := e12' s hw n (by omega)
  simp only [Sto.e] at h1
  refine abort_cases s id _ ?_ ?_ ?_
  · intro q1 _ _ _
    rw [chR_1 q1]
    simp [A61, acode, runOps, step1, aop, wantedA, ev, put, opened, binV, binInt, binStr, app_v, Pr.run, Pr.map, Pr.bind, Pr.mapP, loadA, storeA, cellsVal, Pr.ofOption, cells, fillA, splice, nz, dr, cln, flat, one, bnd, slA, items, appA, Hp.get, Hp.app, Hp.set, eqAll, eq1, lookA, resA, rvA, fin, AV.i, AV.b, AV.s, beq_int, bne_int, emp_is, emp_iff, runD, step2, clash, apartFP, Pr.log, Sto.e, Wr.e, eVals, h1, q1, emptySto]
  · intro q1 q2 _ _ _
    have hrt := rt_of hw q1
    have h2 := e54 s id (by have := hrt.bd.o; omega) n (by omega)
    rw [q2] at h2
    rw [q1] at h1
    simp only [Sto.e] at h2
    rw [chR_2 q1 q2]
    simp [A61, acode, runOps, step1, aop, wantedA, ev, put, opened, binV, binInt, binStr, app_v, Pr.run, Pr.map, Pr.bind, Pr.mapP, loadA, storeA, cellsVal, Pr.ofOption, cells, fillA, splice, nz, dr, cln, flat, one, bnd, slA, items, appA, Hp.get, Hp.app, Hp.set, eqAll, eq1, lookA, resA, rvA, fin, AV.i, AV.b, AV.s, beq_int, bne_int, emp_is, emp_iff, runD, step2, clash, apartFP, Pr.log, Sto.e, Wr.e, eVals, h1, h2, emptySto]
  · intro k q1 q2 q3 _ _ _
    have hrt := rt_of hw q1
    have ho := hrt.bd.o
    have hc := hrt.c
    have h2 := e54 s id (by omega) n (by omega)
    rw [q2] at h2
    rw [q1] at h1
    obtain ⟨t, ht⟩ : ∃ t, s.opn[k] = t := ⟨_, rfl⟩
    have htk : s.opn[k]? = some t := by rw [List.getElem?_eq_getElem q3, ht]
    have hmem : t ∈ s.opn := by rw [← ht]; exact List.getElem_mem _
    obtain ⟨_, t2, _, _, t5⟩ := tr_ok q1 hmem
    have hvl := hrt.v
    have hsl := sees_len hvl t5
    have h3 := e99 s t (by omega) t5 n (by omega)
    rw [← t2] at h3
    have h4 := e98 (seesS s t) w.row (by omega) n (by omega)
    have h5 := e59 s k q3 ho t ht t5 w n (by omega)
    have h6 := e58 s.cols w.vals hwv (by omega) n (by omega)
    have hk : ¬ ((k : Int) < 0) := by omega
    rw [chR_3 q1 q2 htk]
    obtain ⟨x, hx⟩ : ∃ x, putW s k t w = x := ⟨_, rfl⟩
    rw [hx] at h5
    simp only [Sto.e, Tr.e, Wr.e, eVals, roS, roC] at h2 h3 h4 h5 h6
    by_cases k3 : w.kind = 3
    · rw [k3] at h5
      by_cases k4 : ckRow s.cols w.vals = 0
      · rw [if_neg (by simp [k4])]
        rw [k4] at h6
        refine wr_cases3 s k t w _ ?_ ?_ ?_
        · intro q5 r1
          rw [r1]
          simp [A61, acode, runOps, step1, aop, wantedA, ev, put, opened, binV, binInt, binStr, app_v, Pr.run, Pr.map, Pr.bind, Pr.mapP, loadA, storeA, cellsVal, Pr.ofOption, cells, fillA, splice, nz, dr, cln, flat, one, bnd, slA, items, appA, Hp.get, Hp.app, Hp.set, eqAll, eq1, lookA, resA, rvA, fin, AV.i, AV.b, AV.s, beq_int, bne_int, emp_is, emp_iff, runD, step2, clash, apartFP, Pr.log, Sto.e, Tr.e, Wr.e, eVals, h1, h2, h3, h4, hk, q3, ht, k3, h6, q5, emptySto]
        · intro q5 q6 r1
          rw [r1]
          simp [A61, acode, runOps, step1, aop, wantedA, ev, put, opened, binV, binInt, binStr, app_v, Pr.run, Pr.map, Pr.bind, Pr.mapP, loadA, storeA, cellsVal, Pr.ofOption, cells, fillA, splice, nz, dr, cln, flat, one, bnd, slA, items, appA, Hp.get, Hp.app, Hp.set, eqAll, eq1, lookA, resA, rvA, fin, AV.i, AV.b, AV.s, beq_int, bne_int, emp_is, emp_iff, runD, step2, clash, apartFP, Pr.log, Sto.e, Tr.e, Wr.e, eVals, h1, h2, h3, h4, hk, q3, ht, k3, h6, q5, eq200, q6, emptySto]
        · intro q5 q6 r1
          rw [r1, hx]
          simp [A61, acode, runOps, step1, aop, wantedA, ev, put, opened, binV, binInt, binStr, app_v, Pr.run, Pr.map, Pr.bind, Pr.mapP, loadA, storeA, cellsVal, Pr.ofOption, cells, fillA, splice, nz, dr, cln, flat, one, bnd, slA, items, appA, Hp.get, Hp.app, Hp.set, eqAll, eq1, lookA, resA, rvA, fin, AV.i, AV.b, AV.s, beq_int, bne_int, emp_is, emp_iff, runD, step2, clash, apartFP, Pr.log, Sto.e, Tr.e, Wr.e, eVals, h1, h2, h3, h4, hk, q3, ht, k3, h6, q5, eq200, q6, h5]
      · rw [if_pos ⟨k3, k4⟩]
        simp [A61, acode, runOps, step1, aop, wantedA, ev, put, opened, binV, binInt, binStr, app_v, Pr.run, Pr.map, Pr.bind, Pr.mapP, loadA, storeA, cellsVal, Pr.ofOption, cells, fillA, splice, nz, dr, cln, flat, one, bnd, slA, items, appA, Hp.get, Hp.app, Hp.set, eqAll, eq1, lookA, resA, rvA, fin, AV.i, AV.b, AV.s, beq_int, bne_int, emp_is, emp_iff, runD, step2, clash, apartFP, Pr.log, Sto.e, Tr.e, Wr.e, eVals, h1, h2, h6, hk, k3, k4, emptySto]
    · rw [if_neg (fun h => k3 h.1)]
      refine wr_cases3 s k t w _ ?_ ?_ ?_
      · intro q5 r1
        rw [r1]
        simp [A61, acode, runOps, step1, aop, wantedA, ev, put, opened, binV, binInt, binStr, app_v, Pr.run, Pr.map, Pr.bind, Pr.mapP, loadA, storeA, cellsVal, Pr.ofOption, cells, fillA, splice, nz, dr, cln, flat, one, bnd, slA, items, appA, Hp.get, Hp.app, Hp.set, eqAll, eq1, lookA, resA, rvA, fin, AV.i, AV.b, AV.s, beq_int, bne_int, emp_is, emp_iff, runD, step2, clash, apartFP, Pr.log, Sto.e, Tr.e, Wr.e, eVals, h1, h2, h3, h4, hk, q3, ht, k3, q5, emptySto]
      · intro q5 q6 r1
        rw [r1]
        simp [A61, acode, runOps, step1, aop, wantedA, ev, put, opened, binV, binInt, binStr, app_v, Pr.run, Pr.map, Pr.bind, Pr.mapP, loadA, storeA, cellsVal, Pr.ofOption, cells, fillA, splice, nz, dr, cln, flat, one, bnd, slA, items, appA, Hp.get, Hp.app, Hp.set, eqAll, eq1, lookA, resA, rvA, fin, AV.i, AV.b, AV.s, beq_int, bne_int, emp_is, emp_iff, runD, step2, clash, apartFP, Pr.log, Sto.e, Tr.e, Wr.e, eVals, h1, h2, h3, h4, hk, q3, ht, k3, q5, eq200, q6, emptySto]
      · intro q5 q6 r1
        rw [r1, hx]
        simp [A61, acode, runOps, step1, aop, wantedA, ev, put, opened, binV, binInt, binStr, app_v, Pr.run, Pr.map, Pr.bind, Pr.mapP, loadA, storeA, cellsVal, Pr.ofOption, cells, fillA, splice, nz, dr, cln, flat, one, bnd, slA, items, appA, Hp.get, Hp.app, Hp.set, eqAll, eq1, lookA, resA, rvA, fin, AV.i, AV.b, AV.s, beq_int, bne_int, emp_is, emp_iff, runD, step2, clash, apartFP, Pr.log, Sto.e, Tr.e, Wr.e, eVals, h1, h2, h3, h4, hk, q3, ht, k3, q5, eq200, q6, h5]

theorem e21 (s : Sto) (hw : Wf s) (id row : Int) : Is code ext 11 21 [.agg s.e, .i id, .i row] (.tup [.agg (chR s id ⟨2, row, []⟩).1.e, .i (chR s id ⟨2, row, []⟩).2]) := by
  refine Is.step code ext c21 fun n hn => ?_
  have h1 := e52 s hw id n (by omega)
  simp only [Sto.e] at h1
  refine abort_cases s id _ ?_ ?_ ?_
  · intro q1 _ r2 r3
    rw [r2, r3] at h1
    rw [chR_1 q1]
    simp [A21, acode, runOps, step1, aop, wantedA, ev, put, opened, binV, binInt, binStr, app_v, Pr.run, Pr.map, Pr.bind, Pr.mapP, loadA, storeA, cellsVal, Pr.ofOption, cells, fillA, splice, nz, dr, cln, flat, one, bnd, slA, items, appA, Hp.get, Hp.app, Hp.set, eqAll, eq1, lookA, resA, rvA, fin, AV.i, AV.b, AV.s, beq_int, bne_int, emp_is, emp_iff, runD, step2, clash, apartFP, Pr.log, Sto.e, h1, q1, emptySto]
  · intro q1 q2 _ r2 r3
    rw [r2, r3] at h1
    rw [chR_2 q1 q2]
    simp [A21, acode, runOps, step1, aop, wantedA, ev, put, opened, binV, binInt, binStr, app_v, Pr.run, Pr.map, Pr.bind, Pr.mapP, loadA, storeA, cellsVal, Pr.ofOption, cells, fillA, splice, nz, dr, cln, flat, one, bnd, slA, items, appA, Hp.get, Hp.app, Hp.set, eqAll, eq1, lookA, resA, rvA, fin, AV.i, AV.b, AV.s, beq_int, bne_int, emp_is, emp_iff, runD, step2, clash, apartFP, Pr.log, Sto.e, h1, emptySto]
  · intro k q1 q2 q3 _ r2 r3
    rw [r2, r3] at h1
    obtain ⟨t, ht⟩ : ∃ t, s.opn[k] = t := ⟨_, rfl⟩
    have htk : s.opn[k]? = some t := by rw [List.getElem?_eq_getElem q3, ht]
    have h2 := e60 s hw q1 k q3 t ht ⟨2, row, []⟩ n (by omega)
    rw [chR_3 q1 q2 htk, if_neg (by simp)]
    obtain ⟨x, hx⟩ : ∃ x, wrR s k t ⟨2, row, []⟩ = x := ⟨_, rfl⟩
    rw [hx] at h2 ⊢
    obtain ⟨x, y⟩ := x
    simp only [Sto.e, Wr.e, eVals, List.map_nil] at h2
    simp [A21, acode, runOps, step1, aop, wantedA, ev, put, opened, binV, binInt, binStr, app_v, Pr.run, Pr.map, Pr.bind, Pr.mapP, loadA, storeA, cellsVal, Pr.ofOption, cells, fillA, splice, nz, dr, cln, flat, one, bnd, slA, items, appA, Hp.get, Hp.app, Hp.set, eqAll, eq1, lookA, resA, rvA, fin, AV.i, AV.b, AV.s, beq_int, bne_int, emp_is, emp_iff, runD, step2, clash, apartFP, Pr.log, Sto.e, h1, h2]

theorem e22 (s : Sto) (hw : Wf s) (id row : Int) : Is code ext 12 22 [.agg s.e, .i id, .i row] (.tup [.agg (chR s id ⟨2, row, []⟩).1.e, .i (chR s id ⟨2, row, []⟩).2]) := by
  refine Is.step code ext c22 fun n hn => ?_
  have h2 := e61 s hw id ⟨2, row, []⟩ (fun a ha => by cases ha) n (by omega)
  obtain ⟨x, hx⟩ : ∃ x, chR s id ⟨2, row, []⟩ = x := ⟨_, rfl⟩
  rw [hx] at h2 ⊢
  obtain ⟨x, y⟩ := x
  simp only [Sto.e, Wr.e, eVals, List.map_nil] at h2
  simp [A22, acode, runOps, step1, aop, wantedA, ev, put, opened, binV, binInt, binStr, app_v, Pr.run, Pr.map, Pr.bind, Pr.mapP, loadA, storeA, cellsVal, Pr.ofOption, cells, fillA, splice, nz, dr, cln, flat, one, bnd, slA, items, appA, Hp.get, Hp.app, Hp.set, eqAll, eq1, lookA, resA, rvA, fin, AV.i, AV.b, AV.s, beq_int, bne_int, emp_is, emp_iff, runD, step2, clash, apartFP, Pr.log, Sto.e, h2]

theorem e23 (s : Sto) (hw : Wf s) (id row : Int) (v : List Val) : Is code ext 11 23 [.agg s.e, .i id, .i row, eVals v] (.tup [.agg (chR s id ⟨3, row, v⟩).1.e, .i (chR s id ⟨3, row, v⟩).2]) := by
  refine Is.step code ext c23 fun n hn => ?_
  have h1 := e52 s hw id n (by omega)
  simp only [Sto.e] at h1
  refine abort_cases s id _ ?_ ?_ ?_
  · intro q1 _ r2 r3
    rw [r2, r3] at h1
    rw [chR_1 q1]
    simp [A23, acode, runOps, step1, aop, wantedA, ev, put, opened, binV, binInt, binStr, app_v, Pr.run, Pr.map, Pr.bind, Pr.mapP, loadA, storeA, cellsVal, Pr.ofOption, cells, fillA, splice, nz, dr, cln, flat, one, bnd, slA, items, appA, Hp.get, Hp.app, Hp.set, eqAll, eq1, lookA, resA, rvA, fin, AV.i, AV.b, AV.s, beq_int, bne_int, emp_is, emp_iff, runD, step2, clash, apartFP, Pr.log, Sto.e, eVals, h1, q1, emptySto]
  · intro q1 q2 _ r2 r3
    rw [r2, r3] at h1
    rw [chR_2 q1 q2]
    simp [A23, acode, runOps, step1, aop, wantedA, ev, put, opened, binV, binInt, binStr, app_v, Pr.run, Pr.map, Pr.bind, Pr.mapP, loadA, storeA, cellsVal, Pr.ofOption, cells, fillA, splice, nz, dr, cln, flat, one, bnd, slA, items, appA, Hp.get, Hp.app, Hp.set, eqAll, eq1, lookA, resA, rvA, fin, AV.i, AV.b, AV.s, beq_int, bne_int, emp_is, emp_iff, runD, step2, clash, apartFP, Pr.log, Sto.e, eVals, h1, emptySto]
  · intro k q1 q2 q3 _ r2 r3
    rw [r2, r3] at h1
    have hrt := rt_of hw q1
    have hc := hrt.c
    obtain ⟨t, ht⟩ : ∃ t, s.opn[k] = t := ⟨_, rfl⟩
    have htk : s.opn[k]? = some t := by rw [List.getElem?_eq_getElem q3, ht]
    have h2 := e60 s hw q1 k q3 t ht ⟨3, row, v⟩ n (by omega)
    have h3 := e56 s.cols v (by omega) n (by omega)
    rw [chR_3 q1 q2 htk]
    simp only
    obtain ⟨x, hx⟩ : ∃ x, wrR s k t ⟨3, row, v⟩ = x := ⟨_, rfl⟩
    rw [hx] at h2 ⊢
    obtain ⟨x, y⟩ := x
    simp only [Sto.e, Wr.e, eVals, roC] at h2 h3
    by_cases k4 : ckRow s.cols v = 0
    · have hvl : v.length ≤ 20 := by
        unfold ckRow at k4
        split at k4
        · omega
        · rename_i q; have : v.length = s.cols.length := by simpa using q
          omega
      have h4 := e57 v (by omega) n (by omega)
      rw [k4] at h3
      simp only [eVals] at h4
      rw [if_neg (by simp [k4])]
      simp [A23, acode, runOps, step1, aop, wantedA, ev, put, opened, binV, binInt, binStr, app_v, Pr.run, Pr.map, Pr.bind, Pr.mapP, loadA, storeA, cellsVal, Pr.ofOption, cells, fillA, splice, nz, dr, cln, flat, one, bnd, slA, items, appA, Hp.get, Hp.app, Hp.set, eqAll, eq1, lookA, resA, rvA, fin, AV.i, AV.b, AV.s, beq_int, bne_int, emp_is, emp_iff, runD, step2, clash, apartFP, Pr.log, Sto.e, eVals, h1, h2, h3, h4]
    · rw [if_pos ⟨trivial, k4⟩]
      simp [A23, acode, runOps, step1, aop, wantedA, ev, put, opened, binV, binInt, binStr, app_v, Pr.run, Pr.map, Pr.bind, Pr.mapP, loadA, storeA, cellsVal, Pr.ofOption, cells, fillA, splice, nz, dr, cln, flat, one, bnd, slA, items, appA, Hp.get, Hp.app, Hp.set, eqAll, eq1, lookA, resA, rvA, fin, AV.i, AV.b, AV.s, beq_int, bne_int, emp_is, emp_iff, runD, step2, clash, apartFP, Pr.log, Sto.e, eVals, h1, h3, k4, emptySto]

theorem e24 (s : Sto) (hw : Wf s) (id row : Int) (v : List Val) (hv : ∀ a ∈ v, a.text.size < 2 ^ 63) : Is code ext 12 24 [.agg s.e, .i id, .i row, eVals v] (.tup [.agg (chR s id ⟨3, row, v⟩).1.e, .i (chR s id ⟨3, row, v⟩).2]) := by
  refine Is.step code ext c24 fun n hn => ?_
  have h2 := e61 s hw id ⟨3, row, v⟩ hv n (by omega)
  obtain ⟨x, hx⟩ : ∃ x, chR s id ⟨3, row, v⟩ = x := ⟨_, rfl⟩
  rw [hx] at h2 ⊢
  obtain ⟨x, y⟩ := x
  simp only [Sto.e, Wr.e, eVals] at h2
  simp [A24, acode, runOps, step1, aop, wantedA, ev, put, opened, binV, binInt, binStr, app_v, Pr.run, Pr.map, Pr.bind, Pr.mapP, loadA, storeA, cellsVal, Pr.ofOption, cells, fillA, splice, nz, dr, cln, flat, one, bnd, slA, items, appA, Hp.get, Hp.app, Hp.set, eqAll, eq1, lookA, resA, rvA, fin, AV.i, AV.b, AV.s, beq_int, bne_int, emp_is, emp_iff, runD, step2, clash, apartFP, Pr.log, Sto.e, eVals, h2]


theorem e20 (s : Sto) (hw : Wf s) (id : Int) (v : List Val) (hvt : ∀ a ∈ v, a.text.size < 2 ^ 63) : Is code ext 11 20 [.agg s.e, .i id, eVals v] (.tup [.agg (insR s id v).1.e, .i (insR s id v).2.1, .i (insR s id v).2.2]) := by
  refine Is.step code ext c20 fun n hn => ?_
  have h1 : isoOf (run1 code ext n) 12 [.agg s.e] = some (.i (ckStore s)) := e12' s hw n (by omega)
  simp only [Sto.e] at h1
  refine abort_cases s id _ ?_ ?_ ?_
  · intro q1 _ _ _
    rw [insR_1 q1]
    simp [A20, acode, runOps, step1, aop, wantedA, ev, put, opened, binV, binInt, binStr, app_v, Pr.run, Pr.map, Pr.bind, Pr.mapP, loadA, storeA, cellsVal, Pr.ofOption, cells, fillA, splice, nz, dr, cln, flat, one, bnd, slA, items, appA, Hp.get, Hp.app, Hp.set, eqAll, eq1, lookA, resA, rvA, fin, AV.i, AV.b, AV.s, beq_int, bne_int, emp_is, emp_iff, runD, step2, clash, apartFP, Pr.log, Sto.e, eVals, h1, q1, emptySto]
  · intro q1 q2 _ _ _
    have hrt := rt_of hw q1
    have h2 := e54 s id (by have := hrt.bd.o; omega) n (by omega)
    rw [q2] at h2
    rw [q1] at h1
    simp only [Sto.e] at h2
    rw [insR_2 q1 q2]
    simp [A20, acode, runOps, step1, aop, wantedA, ev, put, opened, binV, binInt, binStr, app_v, Pr.run, Pr.map, Pr.bind, Pr.mapP, loadA, storeA, cellsVal, Pr.ofOption, cells, fillA, splice, nz, dr, cln, flat, one, bnd, slA, items, appA, Hp.get, Hp.app, Hp.set, eqAll, eq1, lookA, resA, rvA, fin, AV.i, AV.b, AV.s, beq_int, bne_int, emp_is, emp_iff, runD, step2, clash, apartFP, Pr.log, Sto.e, eVals, h1, h2, emptySto]
  · intro k q1 q2 q3 _ _ _
    have hrt := rt_of hw q1
    have ho := hrt.bd.o
    have hc := hrt.c
    have hnr := hrt.bd.nr
    have h2 := e54 s id (by omega) n (by omega)
    rw [q2] at h2
    rw [q1] at h1
    obtain ⟨t, ht⟩ : ∃ t, s.opn[k] = t := ⟨_, rfl⟩
    have htk : s.opn[k]? = some t := by rw [List.getElem?_eq_getElem q3, ht]
    have hmem : t ∈ s.opn := by rw [← ht]; exact List.getElem_mem _
    obtain ⟨_, _, _, _, t5⟩ := tr_ok q1 hmem
    have h5 := e59 { s with nextRow := s.nextRow + 1 } k q3 ho t ht t5 ⟨1, s.nextRow, v⟩ n (by omega)
    have h6 := e58 s.cols v hvt (by omega) n (by omega)
    have hk : ¬ ((k : Int) < 0) := by omega
    have w1 : IntKind.i64.wrap (s.nextRow + 1) = s.nextRow + 1 := wrap_in _ (by omega)
    rw [insR_3 q1 q2 htk]
    have hx0 : putW { s with nextRow := s.nextRow + 1 } k t ⟨1, s.nextRow, v⟩ = { putW s k t ⟨1, s.nextRow, v⟩ with nextRow := s.nextRow + 1 } := rfl
    rw [hx0] at h5
    obtain ⟨x, hx⟩ : ∃ x, ({ putW s k t ⟨1, s.nextRow, v⟩ with nextRow := s.nextRow + 1 } : Sto) = x := ⟨_, rfl⟩
    rw [hx] at h5
    simp only [Sto.e, Wr.e, eVals, roC] at h2 h5 h6
    by_cases k4 : ckRow s.cols v = 0
    · rw [k4] at h6
      rw [if_neg (by simp [k4])]
      by_cases k5 : s.nextRow = 1000000
      · have k5x := eq_true k5
        rw [if_pos k5]
        simp [A20, acode, runOps, step1, aop, wantedA, ev, put, opened, binV, binInt, binStr, app_v, Pr.run, Pr.map, Pr.bind, Pr.mapP, loadA, storeA, cellsVal, Pr.ofOption, cells, fillA, splice, nz, dr, cln, flat, one, bnd, slA, items, appA, Hp.get, Hp.app, Hp.set, eqAll, eq1, lookA, resA, rvA, fin, AV.i, AV.b, AV.s, beq_int, bne_int, emp_is, emp_iff, runD, step2, clash, apartFP, Pr.log, Sto.e, eVals, h1, h2, h6, hk, k5x, emptySto]
      · rw [if_neg k5]
        by_cases k6 : t.writes.length = 200
        · rw [if_pos k6]
          simp [A20, acode, runOps, step1, aop, wantedA, ev, put, opened, binV, binInt, binStr, app_v, Pr.run, Pr.map, Pr.bind, Pr.mapP, loadA, storeA, cellsVal, Pr.ofOption, cells, fillA, splice, nz, dr, cln, flat, one, bnd, slA, items, appA, Hp.get, Hp.app, Hp.set, eqAll, eq1, lookA, resA, rvA, fin, AV.i, AV.b, AV.s, beq_int, bne_int, emp_is, emp_iff, runD, step2, clash, apartFP, Pr.log, Sto.e, Tr.e, eVals, h1, h2, h6, hk, k5, q3, ht, eq200, k6, emptySto]
        · rw [if_neg k6, hx]
          simp [A20, acode, runOps, step1, aop, wantedA, ev, put, opened, binV, binInt, binStr, app_v, Pr.run, Pr.map, Pr.bind, Pr.mapP, loadA, storeA, cellsVal, Pr.ofOption, cells, fillA, splice, nz, dr, cln, flat, one, bnd, slA, items, appA, Hp.get, Hp.app, Hp.set, eqAll, eq1, lookA, resA, rvA, fin, AV.i, AV.b, AV.s, beq_int, bne_int, emp_is, emp_iff, runD, step2, clash, apartFP, Pr.log, Sto.e, Tr.e, Wr.e, eVals, h1, h2, h6, hk, k5, q3, ht, eq200, k6, w1, h5]
    · rw [if_pos k4]
      simp [A20, acode, runOps, step1, aop, wantedA, ev, put, opened, binV, binInt, binStr, app_v, Pr.run, Pr.map, Pr.bind, Pr.mapP, loadA, storeA, cellsVal, Pr.ofOption, cells, fillA, splice, nz, dr, cln, flat, one, bnd, slA, items, appA, Hp.get, Hp.app, Hp.set, eqAll, eq1, lookA, resA, rvA, fin, AV.i, AV.b, AV.s, beq_int, bne_int, emp_is, emp_iff, runD, step2, clash, apartFP, Pr.log, Sto.e, eVals, h1, h2, h6, hk, k4, emptySto]


theorem e19 (s : Sto) (hw : Wf s) (id : Int) (v : List Val) : Is code ext 11 19 [.agg s.e, .i id, eVals v] (.tup [.agg (insR s id v).1.e, .i (insR s id v).2.1, .i (insR s id v).2.2]) := by
  refine Is.step code ext c19 fun n hn => ?_
  have h1 := e52 s hw id n (by omega)
  simp only [Sto.e] at h1
  refine abort_cases s id _ ?_ ?_ ?_
  · intro q1 _ r2 r3
    rw [r2, r3] at h1
    rw [insR_1 q1]
    simp [A19, acode, runOps, step1, aop, wantedA, ev, put, opened, binV, binInt, binStr, app_v, Pr.run, Pr.map, Pr.bind, Pr.mapP, loadA, storeA, cellsVal, Pr.ofOption, cells, fillA, splice, nz, dr, cln, flat, one, bnd, slA, items, appA, Hp.get, Hp.app, Hp.set, eqAll, eq1, lookA, resA, rvA, fin, AV.i, AV.b, AV.s, beq_int, bne_int, emp_is, emp_iff, runD, step2, clash, apartFP, Pr.log, Sto.e, eVals, h1, q1, emptySto]
  · intro q1 q2 _ r2 r3
    rw [r2, r3] at h1
    rw [insR_2 q1 q2]
    simp [A19, acode, runOps, step1, aop, wantedA, ev, put, opened, binV, binInt, binStr, app_v, Pr.run, Pr.map, Pr.bind, Pr.mapP, loadA, storeA, cellsVal, Pr.ofOption, cells, fillA, splice, nz, dr, cln, flat, one, bnd, slA, items, appA, Hp.get, Hp.app, Hp.set, eqAll, eq1, lookA, resA, rvA, fin, AV.i, AV.b, AV.s, beq_int, bne_int, emp_is, emp_iff, runD, step2, clash, apartFP, Pr.log, Sto.e, eVals, h1, emptySto]
  · intro k q1 q2 q3 _ r2 r3
    rw [r2, r3] at h1
    have hrt := rt_of hw q1
    have hc := hrt.c
    have hnr := hrt.bd.nr
    have w1 : IntKind.i64.wrap (s.nextRow + 1) = s.nextRow + 1 := wrap_in _ (by omega)
    obtain ⟨t, ht⟩ : ∃ t, s.opn[k] = t := ⟨_, rfl⟩
    have htk : s.opn[k]? = some t := by rw [List.getElem?_eq_getElem q3, ht]
    have hmem : t ∈ s.opn := by rw [← ht]; exact List.getElem_mem _
    obtain ⟨_, _, _, _, t5⟩ := tr_ok q1 hmem
    have h6 := e56 s.cols v (by omega) n (by omega)
    rw [insR_3 q1 q2 htk]
    simp only [eVals, roC] at h6
    by_cases k4 : ckRow s.cols v = 0
    · rw [k4] at h6
      rw [if_neg (by simp [k4])]
      by_cases k5 : s.nextRow = 1000000
      · have k5x := eq_true k5
        rw [if_pos k5]
        simp [A19, acode, runOps, step1, aop, wantedA, ev, put, opened, binV, binInt, binStr, app_v, Pr.run, Pr.map, Pr.bind, Pr.mapP, loadA, storeA, cellsVal, Pr.ofOption, cells, fillA, splice, nz, dr, cln, flat, one, bnd, slA, items, appA, Hp.get, Hp.app, Hp.set, eqAll, eq1, lookA, resA, rvA, fin, AV.i, AV.b, AV.s, beq_int, bne_int, emp_is, emp_iff, runD, step2, clash, apartFP, Pr.log, Sto.e, eVals, h1, h6, k5x, emptySto]
      · rw [if_neg k5]
        by_cases k6 : t.writes.length = 200
        · rw [if_pos k6]
          simp [A19, acode, runOps, step1, aop, wantedA, ev, put, opened, binV, binInt, binStr, app_v, Pr.run, Pr.map, Pr.bind, Pr.mapP, loadA, storeA, cellsVal, Pr.ofOption, cells, fillA, splice, nz, dr, cln, flat, one, bnd, slA, items, appA, Hp.get, Hp.app, Hp.set, eqAll, eq1, lookA, resA, rvA, fin, AV.i, AV.b, AV.s, beq_int, bne_int, emp_is, emp_iff, runD, step2, clash, apartFP, Pr.log, Sto.e, Tr.e, eVals, h1, h6, k5, q3, ht, eq200, k6, emptySto]
        · rw [if_neg k6]
          have hvl : v.length ≤ 20 := by
            unfold ckRow at k4
            split at k4
            · omega
            · rename_i q; have : v.length = s.cols.length := by simpa using q
              omega
          have h4 := e57 v (by omega) n (by omega)
          simp only [eVals] at h4
          obtain ⟨vv, rs, nx', h3, uC, vV, oV, rfl, g1, g2, g3⟩ := e51 s hrt n (by omega) 35
          simp only [Sto.e] at h3
          have ho := hrt.bd.o
          rcases g3 with ⟨rfl, g3⟩ | ⟨ro, uo, cs, rfl, g0, gr, gr1, hC⟩
          · rw [g3] at q3; simp at q3
          have hlen := hC.len
          obtain ⟨hrl, hr'⟩ := List.getElem?_eq_some_iff.1 hC.row
          have hkc : k < cs.length := by omega
          obtain ⟨a, ha, hA⟩ := hC.done k t q3 htk
          have ha' : cs[k] = [.i t.id, .i t.sees, a] := by rw [List.getElem?_eq_getElem hkc] at ha; exact Option.some.inj ha
          have hle : s.opn.length ≤ cs.length := by omega
          have hr3 : 1 ≤ roomMax := by unfold roomMax; omega
          have hr4 : 40 ≤ roomMax := by unfold roomMax; omega
          have r5 : t.writes.length + 1 ≤ roomMax := by unfold roomMax; omega
          have r6 : (t.writes.length + 1) * 40 ≤ roomMax := by unfold roomMax; omega
          have hno : ¬ (t.writes.length + 1 ≤ t.writes.length) := by omega
          have hap : ∀ o, (rs ++ [o])[ro]? = some (.row uo 3 cs) := fun o => by rw [List.getElem?_append_left hrl]; exact hC.row
          have hsa : ∀ o x, (rs ++ [o]).set ro x = rs.set ro x ++ [o] := fun o x => by simp [List.set_append, hrl]
          obtain ⟨w, hwd⟩ : ∃ w : Wr, w = ⟨1, s.nextRow, v⟩ := ⟨_, rfl⟩
          have hwe : [AV.i 1, AV.i s.nextRow, AV.ro (v.map Val.e)] = w.e := by rw [hwd]; rfl
          rw [← hwd]
          have hvd : one vV = true ∧ ∀ (rs' : List Ob) (nx : Nat), (0 < s.vers.length → rs'[1]? = rs[1]?) → (dr 4 vV).run ⟨[], rs', nx⟩ = some (roV' s.vers) := by
            rcases g2 with ⟨rfl, h⟩ | ⟨uV, rfl, hp, h⟩
            · exact ⟨rfl, fun rs' nx _ => by rw [h]; rfl⟩
            · exact ⟨rfl, fun rs' nx he => dr_pl plain_ver 1 uV 4 s.vers ((he hp).trans h)⟩
          have fin19 : ∀ (rs' : List Ob) (nx uo' : Nat) (cs' : List (List AV)), rs'[0]? = rs[0]? → (0 < s.vers.length → rs'[1]? = rs[1]?) → (Hp.get ⟨[], rs', nx⟩ (.r ro)) = .row uo' 3 cs' → OCr ⟨[], rs', nx⟩ cs' (s.opn.set k { t with writes := t.writes ++ [w] }) →
              (dr 6 (.tup [.agg [.own 0 uC 0 s.cols.length, vV, .i s.last, .i (s.nextRow + 1), .i s.nextTrans, .i s.swept, .own ro uo' 0 s.opn.length], .i s.nextRow, .i 0])).run ⟨[], rs', nx⟩ = some (.tup [.agg ({ putW s k t w with nextRow := s.nextRow + 1 } : Sto).e, .i s.nextRow, .i 0]) := fun rs' nx uo' cs' a1 a2 a3 a4 => by
            refine dr_tup3 (dr_sto (s := { putW s k t w with nextRow := s.nextRow + 1 }) (dr_pl plain_col 0 uC 2 s.cols (a1.trans g1)) (hvd.2 rs' nx a2) ?_)
            have hl : (putW s k t w).opn.length = s.opn.length := by simp [putW]
            simp only
            rw [← hl]
            exact dr_oc a4 a3 (List.take_of_length_le (by rw [hl, a4.1]; simp))
          rcases g2 with ⟨rfl, g2⟩ | ⟨uV, rfl, gp, g2⟩
          · rcases hA with ⟨rfl, hA⟩ | ⟨r, u, hA1, rfl, hA2, hA3⟩
            · have hb : acode (run1 code ext n) n A19.code ([.agg s.e, .i id, eVals v] ++ List.replicate (A19.nt - [AV.agg s.e, .i id, eVals v].length) .top, ⟨[], [], 0⟩) = acode (run1 code ext n) n A19.code ([.agg s.e, .i id, eVals v] ++ List.replicate (A19.nt - [AV.agg s.e, .i id, eVals v].length) .top, ⟨[], [], 0⟩) := rfl
              conv at hb => rhs; simp [acode, runOps, step1, aop, wantedA, ev, put, opened, binV, binInt, binStr, app_v, Pr.run, Pr.map, Pr.bind, Pr.mapP, loadA, storeA, cellsVal, Pr.ofOption, cells, fillA, splice, nz, dr, cln, flat, one, bnd, slA, items, appA, Hp.get, Hp.app, Hp.set, eqAll, eq1, lookA, resA, rvA, fin, AV.i, AV.b, AV.s, beq_int, bne_int, emp_is, emp_iff, runD, step2, clash, apartFP, Pr.log, A19, Sto.e, Tr.e, eVals, h1, h3, h4, h6, k5, q3, ht, eq200, k6, w1, hrl, hr', hkc, ha', hle, hr3, hr4, hap, hsa]
              rw [hb]
              simp [fin, A19, resA, rvA, loadA, Pr.run, Hp.get, cellsVal, Pr.ofOption]
              rw [hwe]
              exact fin19 _ _ uo _ ((List.getElem?_append_left (by simp; omega)).trans (List.getElem?_set_ne (by omega))) (fun h => (List.getElem?_append_left (by have := gr1 h; simp; omega)).trans (List.getElem?_set_ne (gr1 h))) (by simp [Hp.get, List.getElem?_append, hrl]) (oc_write_nil hC k t htk hA w _ _ _)
            · obtain ⟨hA4, hA5⟩ := List.getElem?_eq_some_iff.1 hA3
              have hrr : ¬ r = ro := by omega
              have tkw := tk_all Wr.e t.writes
              have hb : acode (run1 code ext n) n A19.code ([.agg s.e, .i id, eVals v] ++ List.replicate (A19.nt - [AV.agg s.e, .i id, eVals v].length) .top, ⟨[], [], 0⟩) = acode (run1 code ext n) n A19.code ([.agg s.e, .i id, eVals v] ++ List.replicate (A19.nt - [AV.agg s.e, .i id, eVals v].length) .top, ⟨[], [], 0⟩) := rfl
              conv at hb => rhs; simp [acode, runOps, step1, aop, wantedA, ev, put, opened, binV, binInt, binStr, app_v, Pr.run, Pr.map, Pr.bind, Pr.mapP, loadA, storeA, cellsVal, Pr.ofOption, cells, fillA, splice, nz, dr, cln, flat, one, bnd, slA, items, appA, Hp.get, Hp.app, Hp.set, eqAll, eq1, lookA, resA, rvA, fin, AV.i, AV.b, AV.s, beq_int, bne_int, emp_is, emp_iff, runD, step2, clash, apartFP, Pr.log, A19, Sto.e, Tr.e, eVals, h1, h3, h4, h6, k5, q3, ht, eq200, k6, w1, hrl, hr', hkc, ha', hle, hr3, hr4, hap, hsa, hA4, hA5, hrr, r5, r6, hno, tkw]
              rw [hb]
              simp [fin, A19, resA, rvA, loadA, Pr.run, Hp.get, cellsVal, Pr.ofOption]
              rw [hwe]
              exact fin19 _ _ uo _ ((List.getElem?_set_ne (by omega)).trans (List.getElem?_set_ne (by omega))) (fun h => (List.getElem?_set_ne (gr1 h)).trans (List.getElem?_set_ne (by have := gr1 h; omega))) (by simp [Hp.get, hrl]) (oc_write_own hC k t htk r u ha hA1 hA4 w _ _ _)
          · rcases hA with ⟨rfl, hA⟩ | ⟨r, u, hA1, rfl, hA2, hA3⟩
            · have hb : acode (run1 code ext n) n A19.code ([.agg s.e, .i id, eVals v] ++ List.replicate (A19.nt - [AV.agg s.e, .i id, eVals v].length) .top, ⟨[], [], 0⟩) = acode (run1 code ext n) n A19.code ([.agg s.e, .i id, eVals v] ++ List.replicate (A19.nt - [AV.agg s.e, .i id, eVals v].length) .top, ⟨[], [], 0⟩) := rfl
              conv at hb => rhs; simp [acode, runOps, step1, aop, wantedA, ev, put, opened, binV, binInt, binStr, app_v, Pr.run, Pr.map, Pr.bind, Pr.mapP, loadA, storeA, cellsVal, Pr.ofOption, cells, fillA, splice, nz, dr, cln, flat, one, bnd, slA, items, appA, Hp.get, Hp.app, Hp.set, eqAll, eq1, lookA, resA, rvA, fin, AV.i, AV.b, AV.s, beq_int, bne_int, emp_is, emp_iff, runD, step2, clash, apartFP, Pr.log, A19, Sto.e, Tr.e, eVals, h1, h3, h4, h6, k5, q3, ht, eq200, k6, w1, hrl, hr', hkc, ha', hle, hr3, hr4, hap, hsa]
              rw [hb]
              simp [fin, A19, resA, rvA, loadA, Pr.run, Hp.get, cellsVal, Pr.ofOption]
              rw [hwe]
              exact fin19 _ _ uo _ ((List.getElem?_append_left (by simp; omega)).trans (List.getElem?_set_ne (by omega))) (fun h => (List.getElem?_append_left (by have := gr1 h; simp; omega)).trans (List.getElem?_set_ne (gr1 h))) (by simp [Hp.get, List.getElem?_append, hrl]) (oc_write_nil hC k t htk hA w _ _ _)
            · obtain ⟨hA4, hA5⟩ := List.getElem?_eq_some_iff.1 hA3
              have hrr : ¬ r = ro := by omega
              have tkw := tk_all Wr.e t.writes
              have hb : acode (run1 code ext n) n A19.code ([.agg s.e, .i id, eVals v] ++ List.replicate (A19.nt - [AV.agg s.e, .i id, eVals v].length) .top, ⟨[], [], 0⟩) = acode (run1 code ext n) n A19.code ([.agg s.e, .i id, eVals v] ++ List.replicate (A19.nt - [AV.agg s.e, .i id, eVals v].length) .top, ⟨[], [], 0⟩) := rfl
              conv at hb => rhs; simp [acode, runOps, step1, aop, wantedA, ev, put, opened, binV, binInt, binStr, app_v, Pr.run, Pr.map, Pr.bind, Pr.mapP, loadA, storeA, cellsVal, Pr.ofOption, cells, fillA, splice, nz, dr, cln, flat, one, bnd, slA, items, appA, Hp.get, Hp.app, Hp.set, eqAll, eq1, lookA, resA, rvA, fin, AV.i, AV.b, AV.s, beq_int, bne_int, emp_is, emp_iff, runD, step2, clash, apartFP, Pr.log, A19, Sto.e, Tr.e, eVals, h1, h3, h4, h6, k5, q3, ht, eq200, k6, w1, hrl, hr', hkc, ha', hle, hr3, hr4, hap, hsa, hA4, hA5, hrr, r5, r6, hno, tkw]
              rw [hb]
              simp [fin, A19, resA, rvA, loadA, Pr.run, Hp.get, cellsVal, Pr.ofOption]
              rw [hwe]
              exact fin19 _ _ uo _ ((List.getElem?_set_ne (by omega)).trans (List.getElem?_set_ne (by omega))) (fun h => (List.getElem?_set_ne (gr1 h)).trans (List.getElem?_set_ne (by have := gr1 h; omega))) (by simp [Hp.get, hrl]) (oc_write_own hC k t htk r u ha hA1 hA4 w _ _ _)
    · rw [if_pos k4]
      simp [A19, acode, runOps, step1, aop, wantedA, ev, put, opened, binV, binInt, binStr, app_v, Pr.run, Pr.map, Pr.bind, Pr.mapP, loadA, storeA, cellsVal, Pr.ofOption, cells, fillA, splice, nz, dr, cln, flat, one, bnd, slA, items, appA, Hp.get, Hp.app, Hp.set, eqAll, eq1, lookA, resA, rvA, fin, AV.i, AV.b, AV.s, beq_int, bne_int, emp_is, emp_iff, runD, step2, clash, apartFP, Pr.log, Sto.e, eVals, h1, h6, k4, emptySto]
end Go.Pv