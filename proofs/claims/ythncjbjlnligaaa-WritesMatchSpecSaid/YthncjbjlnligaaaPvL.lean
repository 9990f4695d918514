/-
  What functions come to: versions, rows that are seen, lists that are built. Conditions: none.
-/
import Derived.Test.YthncjbjlnligaaaPvK
set_option linter.unusedVariables false
set_option linter.unusedSimpArgs false
namespace Go.Pv
open Go
set_option maxRecDepth 100000
set_option maxHeartbeats 8000000

theorem clash_cases (a b : Ver) (p : Prop) (h1 : (a.row = b.row) = False → clashV a b = false → p) (h2 : (a.row = b.row) = True → (a.to = 0) = True → clashV a b = true → p)
    (h3 : (a.row = b.row) = True → (a.to = 0) = False → b.frm < a.to → clashV a b = true → p) (h4 : (a.row = b.row) = True → (a.to = 0) = False → ¬ b.frm < a.to → clashV a b = false → p) : p := by
  unfold clashV at *
  by_cases q1 : a.row = b.row
  · by_cases q2 : a.to = 0
    · exact h2 (eq_true q1) (eq_true q2) (by simp [q1, q2])
    · by_cases q3 : b.frm < a.to
      · exact h3 (eq_true q1) (eq_false q2) q3 (by simp [q1, q2, q3])
      · exact h4 (eq_true q1) (eq_false q2) q3 (by simp [q1, q2]; omega)
  · exact h1 (eq_false q1) (by simp [q1])

theorem loop48b (call : Nat → List AV → Hp → Option (AV × Hp)) (n : Nat) (s : Sto) (j : Nat) (hj : j < s.vers.length) (b : Ver) (hbj : s.vers[j] = b) (hs : s.vers.length < 2 ^ 62) (m i nx : Nat) (hi : i ≤ (s.vers.take j).length) (hm : (s.vers.take j).length - i < m) :
    ∃ e st, iter (acode call n A48L1) 1 A48M1 m (A48H1 (.ptr 0 0 0) (.i j) (.i i), ⟨[.box 0 s.e], [], nx⟩) = some (e, st) ∧ LE 4 2 ((((A48H1 (.ptr 0 0 0) (.i j) (.i j)).set 103 (.i j)).set 104 (.i j)).set 105 (.b false)) [.box 0 s.e] [] (hit (((s.vers.take j).drop i).any (clashV · b)) 7) e st := by
  have hlen : (s.vers.take j).length = j := by rw [List.length_take]; omega
  refine loop_list (f := acode call n A48L1) (k := 1) (M := A48M1) (s.vers.take j) (fun i (_ : Unit) nx => (A48H1 (.ptr 0 0 0) (.i j) (.i i), ⟨[.box 0 s.e], [], nx⟩)) (fun _ _ => True) (fun i r _ e st => LE 4 2 ((((A48H1 (.ptr 0 0 0) (.i j) (.i j)).set 103 (.i j)).set 104 (.i j)).set 105 (.b false)) [.box 0 s.e] [] (hit (r.any (clashV · b)) 7) e st) ?_ ?_ m i () nx hi hm trivial
  · intro _ nx _
    rw [hlen]
    have hb : acode call n A48L1 (A48H1 (.ptr 0 0 0) (.i j) (.i j), ⟨[.box 0 s.e], [], nx⟩) = acode call n A48L1 (A48H1 (.ptr 0 0 0) (.i j) (.i j), ⟨[.box 0 s.e], [], nx⟩) := rfl
    conv at hb => rhs; simp [acode, runOps, step1, aop, wantedA, ev, put, opened, binV, binInt, binStr, app_v, Pr.run, Pr.map, Pr.bind, Pr.mapP, loadA, storeA, cellsVal, Pr.ofOption, cells, fillA, splice, nz, dr, cln, flat, one, bnd, slA, items, appA, Hp.get, Hp.app, Hp.set, eqAll, eq1, lookA, resA, rvA, fin, AV.i, AV.b, AV.s, beq_int, bne_int, emp_is, emp_iff, runD, step2, clash, apartFP, Pr.log, A48L1]
    exact ⟨_, _, by simp, hb, by simp [LE, hit]⟩
  · intro i hi a _ nx hg0 _
    have hij : i < j := by omega
    have hic : i < s.vers.length := by omega
    have hg : s.vers[i] = a := by rw [← hg0, List.getElem_take]
    have hw := wrap_nat i (by omega)
    refine clash_cases a b _ ?_ ?_ ?_ ?_
    · intro q1 qq
      have hb : acode call n A48L1 (A48H1 (.ptr 0 0 0) (.i j) (.i i), ⟨[.box 0 s.e], [], nx⟩) = acode call n A48L1 (A48H1 (.ptr 0 0 0) (.i j) (.i i), ⟨[.box 0 s.e], [], nx⟩) := rfl
      conv at hb => rhs; simp [acode, runOps, step1, aop, wantedA, ev, put, opened, binV, binInt, binStr, app_v, Pr.run, Pr.map, Pr.bind, Pr.mapP, loadA, storeA, cellsVal, Pr.ofOption, cells, fillA, splice, nz, dr, cln, flat, one, bnd, slA, items, appA, Hp.get, Hp.app, Hp.set, eqAll, eq1, lookA, resA, rvA, fin, AV.i, AV.b, AV.s, beq_int, bne_int, emp_is, emp_iff, runD, step2, clash, apartFP, Pr.log, A48L1, hij, hic, hj, hg, hbj, hw, q1, Sto.e, Ver.e, eVals]
      exact .inl ⟨_, (), _, hb, by simp [trunc, mask, A48M1, Sto.e]; rfl, trivial, fun e st h => by rw [List.any_cons, qq, Bool.false_or]; exact h⟩
    · intro q1 q2 qq
      have hb : acode call n A48L1 (A48H1 (.ptr 0 0 0) (.i j) (.i i), ⟨[.box 0 s.e], [], nx⟩) = acode call n A48L1 (A48H1 (.ptr 0 0 0) (.i j) (.i i), ⟨[.box 0 s.e], [], nx⟩) := rfl
      conv at hb => rhs; simp [acode, runOps, step1, aop, wantedA, ev, put, opened, binV, binInt, binStr, app_v, Pr.run, Pr.map, Pr.bind, Pr.mapP, loadA, storeA, cellsVal, Pr.ofOption, cells, fillA, splice, nz, dr, cln, flat, one, bnd, slA, items, appA, Hp.get, Hp.app, Hp.set, eqAll, eq1, lookA, resA, rvA, fin, AV.i, AV.b, AV.s, beq_int, bne_int, emp_is, emp_iff, runD, step2, clash, apartFP, Pr.log, A48L1, hij, hic, hj, hg, hbj, hw, q1, q2, Sto.e, Ver.e, eVals]
      exact .inr ⟨.ret, _, by simp, hb, by rw [List.any_cons, qq, Bool.true_or]; simp [LE, hit]⟩
    · intro q1 q2 q3 qq
      have hb : acode call n A48L1 (A48H1 (.ptr 0 0 0) (.i j) (.i i), ⟨[.box 0 s.e], [], nx⟩) = acode call n A48L1 (A48H1 (.ptr 0 0 0) (.i j) (.i i), ⟨[.box 0 s.e], [], nx⟩) := rfl
      conv at hb => rhs; simp [acode, runOps, step1, aop, wantedA, ev, put, opened, binV, binInt, binStr, app_v, Pr.run, Pr.map, Pr.bind, Pr.mapP, loadA, storeA, cellsVal, Pr.ofOption, cells, fillA, splice, nz, dr, cln, flat, one, bnd, slA, items, appA, Hp.get, Hp.app, Hp.set, eqAll, eq1, lookA, resA, rvA, fin, AV.i, AV.b, AV.s, beq_int, bne_int, emp_is, emp_iff, runD, step2, clash, apartFP, Pr.log, A48L1, hij, hic, hj, hg, hbj, hw, q1, q2, q3, Sto.e, Ver.e, eVals]
      exact .inr ⟨.ret, _, by simp, hb, by rw [List.any_cons, qq, Bool.true_or]; simp [LE, hit]⟩
    · intro q1 q2 q3 qq
      have hb : acode call n A48L1 (A48H1 (.ptr 0 0 0) (.i j) (.i i), ⟨[.box 0 s.e], [], nx⟩) = acode call n A48L1 (A48H1 (.ptr 0 0 0) (.i j) (.i i), ⟨[.box 0 s.e], [], nx⟩) := rfl
      conv at hb => rhs; simp [acode, runOps, step1, aop, wantedA, ev, put, opened, binV, binInt, binStr, app_v, Pr.run, Pr.map, Pr.bind, Pr.mapP, loadA, storeA, cellsVal, Pr.ofOption, cells, fillA, splice, nz, dr, cln, flat, one, bnd, slA, items, appA, Hp.get, Hp.app, Hp.set, eqAll, eq1, lookA, resA, rvA, fin, AV.i, AV.b, AV.s, beq_int, bne_int, emp_is, emp_iff, runD, step2, clash, apartFP, Pr.log, A48L1, hij, hic, hj, hg, hbj, hw, q1, q2, q3, Sto.e, Ver.e, eVals]
      exact .inl ⟨_, (), _, hb, by simp [trunc, mask, A48M1, Sto.e]; rfl, trivial, fun e st h => by rw [List.any_cons, qq, Bool.false_or]; exact h⟩

theorem twiceL_step (pre : List Ver) (v : Ver) (r : List Ver) : twiceL pre (v :: r) = (pre.any (clashV · v) || twiceL (pre ++ [v]) r) := rfl

theorem loop48c (call : Nat → List AV → Hp → Option (AV × Hp)) (n : Nat) (hn : 2 ^ 62 ≤ n) (s : Sto) (hs : s.vers.length < 2 ^ 62) (m i nx : Nat) (hi : i ≤ s.vers.length) (hm : s.vers.length - i < m) :
    ∃ e st, iter (acode call n A48L2) 1 A48M2 m (A48H2 (.ptr 0 0 0) (.i i), ⟨[.box 0 s.e], [], nx⟩) = some (e, st) ∧ LR 2 2 135 [] [] (hit (twiceL (s.vers.take i) (s.vers.drop i)) 7) e st := by
  refine loop_list (f := acode call n A48L2) (k := 1) (M := A48M2) s.vers (fun i (_ : Unit) nx => (A48H2 (.ptr 0 0 0) (.i i), ⟨[.box 0 s.e], [], nx⟩)) (fun _ _ => True) (fun i r _ e st => LR 2 2 135 [] [] (hit (twiceL (s.vers.take i) r) 7) e st) ?_ ?_ m i () nx hi hm trivial
  · intro _ nx _
    have hb : acode call n A48L2 (A48H2 (.ptr 0 0 0) (.i s.vers.length), ⟨[.box 0 s.e], [], nx⟩) = acode call n A48L2 (A48H2 (.ptr 0 0 0) (.i s.vers.length), ⟨[.box 0 s.e], [], nx⟩) := rfl
    conv at hb => rhs; simp [acode, runOps, step1, aop, wantedA, ev, put, opened, binV, binInt, binStr, app_v, Pr.run, Pr.map, Pr.bind, Pr.mapP, loadA, storeA, cellsVal, Pr.ofOption, cells, fillA, splice, nz, dr, cln, flat, one, bnd, slA, items, appA, Hp.get, Hp.app, Hp.set, eqAll, eq1, lookA, resA, rvA, fin, AV.i, AV.b, AV.s, beq_int, bne_int, emp_is, emp_iff, runD, step2, clash, apartFP, Pr.log, A48L2, Sto.e]
    exact ⟨_, _, by simp, hb, by simp [LR, twiceL, hit]⟩
  · intro i hi v _ nx hg _
    have hw := wrap_nat i (by omega)
    have ht : s.vers.take (i + 1) = s.vers.take i ++ [v] := by rw [← hg]; exact (List.take_append_getElem hi).symm
    have hlen : (s.vers.take i).length = i := by rw [List.length_take]; omega
    obtain ⟨e, st, k1, k2⟩ := loop48b call n s i hi v hg hs n 0 (nx + 5 + 1) (by omega) (by omega)
    simp only [List.drop_zero] at k2
    simp only [Int.natCast_zero, Sto.e] at k1
    simp only [twiceL_step]
    cases q : ((s.vers.take i).any (clashV · v)) with
    | true =>
      rw [q, hit_t] at k2
      obtain ⟨F, bs, nx', rfl, rfl, hF⟩ := k2.back
      have hb : acode call n A48L2 (A48H2 (.ptr 0 0 0) (.i i), ⟨[.box 0 s.e], [], nx⟩) = acode call n A48L2 (A48H2 (.ptr 0 0 0) (.i i), ⟨[.box 0 s.e], [], nx⟩) := rfl
      conv at hb => rhs; simp [acode, runOps, step1, aop, wantedA, ev, put, opened, binV, binInt, binStr, app_v, Pr.run, Pr.map, Pr.bind, Pr.mapP, loadA, storeA, cellsVal, Pr.ofOption, cells, fillA, splice, nz, dr, cln, flat, one, bnd, slA, items, appA, Hp.get, Hp.app, Hp.set, eqAll, eq1, lookA, resA, rvA, fin, AV.i, AV.b, AV.s, beq_int, bne_int, emp_is, emp_iff, runD, step2, clash, apartFP, Pr.log, A48L2, hi, hw, Sto.e, A48M1_eq, k1]
      exact .inr ⟨.ret, _, by simp, hb, by simp [LR, hit, hF]⟩
    | false =>
      rw [q, hit_f] at k2
      obtain ⟨rfl, nx', rfl⟩ := k2
      have hb : acode call n A48L2 (A48H2 (.ptr 0 0 0) (.i i), ⟨[.box 0 s.e], [], nx⟩) = acode call n A48L2 (A48H2 (.ptr 0 0 0) (.i i), ⟨[.box 0 s.e], [], nx⟩) := rfl
      conv at hb => rhs; simp [acode, runOps, step1, aop, wantedA, ev, put, opened, binV, binInt, binStr, app_v, Pr.run, Pr.map, Pr.bind, Pr.mapP, loadA, storeA, cellsVal, Pr.ofOption, cells, fillA, splice, nz, dr, cln, flat, one, bnd, slA, items, appA, Hp.get, Hp.app, Hp.set, eqAll, eq1, lookA, resA, rvA, fin, AV.i, AV.b, AV.s, beq_int, bne_int, emp_is, emp_iff, runD, step2, clash, apartFP, Pr.log, A48L2, hi, hw, Sto.e, A48M1_eq, k1]
      exact .inl ⟨_, (), _, hb, by simp [trunc, mask, A48M2, Sto.e]; rfl, trivial, fun e st h => by rw [Bool.false_or, ← ht]; exact h⟩

theorem e48 (s : Sto) (hs : Bd s) : Is code ext 7 48 [.agg s.e] (.i (ckVers s)) := by
  refine Is.step code ext c48 fun n hn => ?_
  have hv := hs.v
  obtain ⟨e, st, q2, q3⟩ := loop48a n (by omega) s hs n 0 3 (Nat.zero_le _) (by omega)
  simp only [List.drop_zero, List.take_zero, List.getLast?_nil] at q3
  simp only [Int.natCast_zero, Sto.e] at q2
  by_cases hq : ckVersL s none s.vers = 0
  · rw [hq, fl_zero] at q3
    obtain ⟨rfl, nx, rfl⟩ := q3
    obtain ⟨e, st, r2, r3⟩ := loop48c (run1 code ext n) n (by omega) s (by omega) n 0 (nx + 1) (Nat.zero_le _) (by omega)
    simp only [List.drop_zero, List.take_zero] at r3
    simp only [Int.natCast_zero, Sto.e] at r2
    cases hq2 : twiceL [] s.vers with
    | false =>
      rw [hq2, hit_f] at r3
      obtain ⟨F, bs, nx2, rfl, rfl, hF, _⟩ := r3.exit
      simp [A48, acode, runOps, step1, aop, wantedA, ev, put, opened, binV, binInt, binStr, app_v, Pr.run, Pr.map, Pr.bind, Pr.mapP, loadA, storeA, cellsVal, Pr.ofOption, cells, fillA, splice, nz, dr, cln, flat, one, bnd, slA, items, appA, Hp.get, Hp.app, Hp.set, eqAll, eq1, lookA, resA, rvA, fin, AV.i, AV.b, AV.s, beq_int, bne_int, emp_is, emp_iff, runD, step2, clash, apartFP, Pr.log, Sto.e, F48a, roV, ckVers, A48M0_eq, A48M2_eq, q2, r2, hq, hq2, hF]
    | true =>
      rw [hq2, hit_t] at r3
      obtain ⟨F, bs, nx2, rfl, rfl, hF⟩ := r3.back
      simp [A48, acode, runOps, step1, aop, wantedA, ev, put, opened, binV, binInt, binStr, app_v, Pr.run, Pr.map, Pr.bind, Pr.mapP, loadA, storeA, cellsVal, Pr.ofOption, cells, fillA, splice, nz, dr, cln, flat, one, bnd, slA, items, appA, Hp.get, Hp.app, Hp.set, eqAll, eq1, lookA, resA, rvA, fin, AV.i, AV.b, AV.s, beq_int, bne_int, emp_is, emp_iff, runD, step2, clash, apartFP, Pr.log, Sto.e, F48a, roV, ckVers, A48M0_eq, A48M2_eq, q2, r2, hq, hq2, hF]
  · rw [fl_pos hq] at q3
    obtain ⟨F, bs, nx, rfl, rfl, hF⟩ := q3.back
    simp [A48, acode, runOps, step1, aop, wantedA, ev, put, opened, binV, binInt, binStr, app_v, Pr.run, Pr.map, Pr.bind, Pr.mapP, loadA, storeA, cellsVal, Pr.ofOption, cells, fillA, splice, nz, dr, cln, flat, one, bnd, slA, items, appA, Hp.get, Hp.app, Hp.set, eqAll, eq1, lookA, resA, rvA, fin, AV.i, AV.b, AV.s, beq_int, bne_int, emp_is, emp_iff, runD, step2, clash, apartFP, Pr.log, Sto.e, ckVers, A48M0_eq, q2, hq, hF]
end Go.Pv

namespace Go.Pv
open Go
set_option maxRecDepth 100000
set_option maxHeartbeats 8000000

abbrev roS (l : List Sn) : AV := .ro (l.map Sn.e)
abbrev roW (l : List Wr) : AV := .ro (l.map Wr.e)

theorem loop104 (call : Nat → List AV → Hp → Option (AV × Hp)) (n : Nat) (s : Sto) (row : Int) (hs : s.vers.length < 2 ^ 62) (m i nx : Nat) (hi : i ≤ s.vers.length) (hm : s.vers.length - i < m) :
    ∃ e st, iter (acode call n A104L0) 1 A104M0 m (A104H0 (.i row) (.ptr 0 0 0) (.i i), ⟨[.box 0 s.e], [], nx⟩) = some (e, st) ∧ LR 0 4 21 [] [] (if (s.vers.drop i).any (·.row == row) then some (.b true) else none) e st := by
  refine loop_list (f := acode call n A104L0) (k := 1) (M := A104M0) s.vers (fun i (_ : Unit) nx => (A104H0 (.i row) (.ptr 0 0 0) (.i i), ⟨[.box 0 s.e], [], nx⟩)) (fun _ _ => True) (fun i r _ e st => LR 0 4 21 [] [] (if r.any (·.row == row) then some (.b true) else none) e st) ?_ ?_ m i () nx hi hm trivial
  · intro _ nx _
    have hb : acode call n A104L0 (A104H0 (.i row) (.ptr 0 0 0) (.i s.vers.length), ⟨[.box 0 s.e], [], nx⟩) = acode call n A104L0 (A104H0 (.i row) (.ptr 0 0 0) (.i s.vers.length), ⟨[.box 0 s.e], [], nx⟩) := rfl
    conv at hb => rhs; simp [acode, runOps, step1, aop, wantedA, ev, put, opened, binV, binInt, binStr, app_v, Pr.run, Pr.map, Pr.bind, Pr.mapP, loadA, storeA, cellsVal, Pr.ofOption, cells, fillA, splice, nz, dr, cln, flat, one, bnd, slA, items, appA, Hp.get, Hp.app, Hp.set, eqAll, eq1, lookA, resA, rvA, fin, AV.i, AV.b, AV.s, beq_int, bne_int, emp_is, emp_iff, runD, step2, clash, apartFP, Pr.log, A104L0, Sto.e]
    exact ⟨_, _, by simp, hb, by simp [LR]⟩
  · intro i hi v _ nx hg _
    have hw := wrap_nat i (by omega)
    by_cases q : v.row = row
    · have qx : (v.row = row) = True := eq_true q
      have hb : acode call n A104L0 (A104H0 (.i row) (.ptr 0 0 0) (.i i), ⟨[.box 0 s.e], [], nx⟩) = acode call n A104L0 (A104H0 (.i row) (.ptr 0 0 0) (.i i), ⟨[.box 0 s.e], [], nx⟩) := rfl
      conv at hb => rhs; simp [acode, runOps, step1, aop, wantedA, ev, put, opened, binV, binInt, binStr, app_v, Pr.run, Pr.map, Pr.bind, Pr.mapP, loadA, storeA, cellsVal, Pr.ofOption, cells, fillA, splice, nz, dr, cln, flat, one, bnd, slA, items, appA, Hp.get, Hp.app, Hp.set, eqAll, eq1, lookA, resA, rvA, fin, AV.i, AV.b, AV.s, beq_int, bne_int, emp_is, emp_iff, runD, step2, clash, apartFP, Pr.log, A104L0, Sto.e, Ver.e, eVals, hi, hg, hw, qx]
      exact .inr ⟨.ret, _, by simp, hb, by simp [LR, q]⟩
    · have hb : acode call n A104L0 (A104H0 (.i row) (.ptr 0 0 0) (.i i), ⟨[.box 0 s.e], [], nx⟩) = acode call n A104L0 (A104H0 (.i row) (.ptr 0 0 0) (.i i), ⟨[.box 0 s.e], [], nx⟩) := rfl
      conv at hb => rhs; simp [acode, runOps, step1, aop, wantedA, ev, put, opened, binV, binInt, binStr, app_v, Pr.run, Pr.map, Pr.bind, Pr.mapP, loadA, storeA, cellsVal, Pr.ofOption, cells, fillA, splice, nz, dr, cln, flat, one, bnd, slA, items, appA, Hp.get, Hp.app, Hp.set, eqAll, eq1, lookA, resA, rvA, fin, AV.i, AV.b, AV.s, beq_int, bne_int, emp_is, emp_iff, runD, step2, clash, apartFP, Pr.log, A104L0, Sto.e, Ver.e, eVals, hi, hg, hw, q]
      exact .inl ⟨_, (), _, hb, by simp [trunc, mask, A104M0, Sto.e]; rfl, trivial, fun e st h => by simpa [q] using h⟩

theorem e104 (s : Sto) (row : Int) (hs : s.vers.length < 2 ^ 62) : Is code ext 1 104 [.agg s.e, .i row] (.b (hasV s row)) := by
  refine Is.step code ext c104 fun n hn => ?_
  obtain ⟨e, st, q2, q3⟩ := loop104 (run1 code ext n) n s row hs n 0 3 (Nat.zero_le _) (by omega)
  simp only [List.drop_zero] at q3
  simp only [Int.natCast_zero, Sto.e] at q2
  unfold hasV
  cases hq : s.vers.any (·.row == row) with
  | true =>
    rw [hq, if_pos rfl] at q3
    obtain ⟨F, bs, nx, rfl, rfl, hF⟩ := q3.back
    simp [A104, acode, runOps, step1, aop, wantedA, ev, put, opened, binV, binInt, binStr, app_v, Pr.run, Pr.map, Pr.bind, Pr.mapP, loadA, storeA, cellsVal, Pr.ofOption, cells, fillA, splice, nz, dr, cln, flat, one, bnd, slA, items, appA, Hp.get, Hp.app, Hp.set, eqAll, eq1, lookA, resA, rvA, fin, AV.i, AV.b, AV.s, beq_int, bne_int, emp_is, emp_iff, runD, step2, clash, apartFP, Pr.log, Sto.e, A104M0_eq, q2, hF]
  | false =>
    rw [hq, if_neg (by simp)] at q3
    obtain ⟨F, bs, nx, rfl, rfl, hF, _⟩ := q3.exit
    simp [A104, acode, runOps, step1, aop, wantedA, ev, put, opened, binV, binInt, binStr, app_v, Pr.run, Pr.map, Pr.bind, Pr.mapP, loadA, storeA, cellsVal, Pr.ofOption, cells, fillA, splice, nz, dr, cln, flat, one, bnd, slA, items, appA, Hp.get, Hp.app, Hp.set, eqAll, eq1, lookA, resA, rvA, fin, AV.i, AV.b, AV.s, beq_int, bne_int, emp_is, emp_iff, runD, step2, clash, apartFP, Pr.log, Sto.e, A104M0_eq, q2, hF]

def insW (ws : List Wr) (row : Int) : Bool := ws.any fun w => w.kind == 1 && w.row == row

theorem loop105 (call : Nat → List AV → Hp → Option (AV × Hp)) (n : Nat) (ws : List Wr) (row : Int) (hs : ws.length < 2 ^ 62) (m i nx : Nat) (hi : i ≤ ws.length) (hm : ws.length - i < m) :
    ∃ e st, iter (acode call n A105L0) 0 A105M0 m (A105H0 (roW ws) (.i row) (.i i), ⟨[], [], nx⟩) = some (e, st) ∧ LR 0 4 27 [] [] (if insW (ws.drop i) row then some (.b true) else none) e st := by
  refine loop_list (f := acode call n A105L0) (k := 0) (M := A105M0) ws (fun i (_ : Unit) nx => (A105H0 (roW ws) (.i row) (.i i), ⟨[], [], nx⟩)) (fun _ _ => True) (fun i r _ e st => LR 0 4 27 [] [] (if insW r row then some (.b true) else none) e st) ?_ ?_ m i () nx hi hm trivial
  · intro _ nx _
    have hb : acode call n A105L0 (A105H0 (roW ws) (.i row) (.i ws.length), ⟨[], [], nx⟩) = acode call n A105L0 (A105H0 (roW ws) (.i row) (.i ws.length), ⟨[], [], nx⟩) := rfl
    conv at hb => rhs; simp [acode, runOps, step1, aop, wantedA, ev, put, opened, binV, binInt, binStr, app_v, Pr.run, Pr.map, Pr.bind, Pr.mapP, loadA, storeA, cellsVal, Pr.ofOption, cells, fillA, splice, nz, dr, cln, flat, one, bnd, slA, items, appA, Hp.get, Hp.app, Hp.set, eqAll, eq1, lookA, resA, rvA, fin, AV.i, AV.b, AV.s, beq_int, bne_int, emp_is, emp_iff, runD, step2, clash, apartFP, Pr.log, A105L0]
    exact ⟨_, _, by simp, hb, by simp [LR, insW]⟩
  · intro i hi v _ nx hg _
    have hw := wrap_nat i (by omega)
    by_cases k : v.kind = 1
    · have kx : (v.kind = 1) = True := eq_true k
      by_cases q : v.row = row
      · have qx : (v.row = row) = True := eq_true q
        have hb : acode call n A105L0 (A105H0 (roW ws) (.i row) (.i i), ⟨[], [], nx⟩) = acode call n A105L0 (A105H0 (roW ws) (.i row) (.i i), ⟨[], [], nx⟩) := rfl
        conv at hb => rhs; simp [acode, runOps, step1, aop, wantedA, ev, put, opened, binV, binInt, binStr, app_v, Pr.run, Pr.map, Pr.bind, Pr.mapP, loadA, storeA, cellsVal, Pr.ofOption, cells, fillA, splice, nz, dr, cln, flat, one, bnd, slA, items, appA, Hp.get, Hp.app, Hp.set, eqAll, eq1, lookA, resA, rvA, fin, AV.i, AV.b, AV.s, beq_int, bne_int, emp_is, emp_iff, runD, step2, clash, apartFP, Pr.log, A105L0, Wr.e, eVals, hi, hg, hw, kx, qx]
        exact .inr ⟨.ret, _, by simp, hb, by simp [LR, insW, q, k]⟩
      · have hb : acode call n A105L0 (A105H0 (roW ws) (.i row) (.i i), ⟨[], [], nx⟩) = acode call n A105L0 (A105H0 (roW ws) (.i row) (.i i), ⟨[], [], nx⟩) := rfl
        conv at hb => rhs; simp [acode, runOps, step1, aop, wantedA, ev, put, opened, binV, binInt, binStr, app_v, Pr.run, Pr.map, Pr.bind, Pr.mapP, loadA, storeA, cellsVal, Pr.ofOption, cells, fillA, splice, nz, dr, cln, flat, one, bnd, slA, items, appA, Hp.get, Hp.app, Hp.set, eqAll, eq1, lookA, resA, rvA, fin, AV.i, AV.b, AV.s, beq_int, bne_int, emp_is, emp_iff, runD, step2, clash, apartFP, Pr.log, A105L0, Wr.e, eVals, hi, hg, hw, kx, q]
        exact .inl ⟨_, (), _, hb, by simp [trunc, mask, A105M0]; rfl, trivial, fun e st h => by simpa [insW, q, k] using h⟩
    · have hb : acode call n A105L0 (A105H0 (roW ws) (.i row) (.i i), ⟨[], [], nx⟩) = acode call n A105L0 (A105H0 (roW ws) (.i row) (.i i), ⟨[], [], nx⟩) := rfl
      conv at hb => rhs; simp [acode, runOps, step1, aop, wantedA, ev, put, opened, binV, binInt, binStr, app_v, Pr.run, Pr.map, Pr.bind, Pr.mapP, loadA, storeA, cellsVal, Pr.ofOption, cells, fillA, splice, nz, dr, cln, flat, one, bnd, slA, items, appA, Hp.get, Hp.app, Hp.set, eqAll, eq1, lookA, resA, rvA, fin, AV.i, AV.b, AV.s, beq_int, bne_int, emp_is, emp_iff, runD, step2, clash, apartFP, Pr.log, A105L0, Wr.e, eVals, hi, hg, hw, k]
      exact .inl ⟨_, (), _, hb, by simp [trunc, mask, A105M0]; rfl, trivial, fun e st h => by simpa [insW, k] using h⟩

theorem e105 (ws : List Wr) (row : Int) (hs : ws.length < 2 ^ 62) : Is code ext 1 105 [roW ws, .i row] (.b (insW ws row)) := by
  refine Is.step code ext c105 fun n hn => ?_
  obtain ⟨e, st, q2, q3⟩ := loop105 (run1 code ext n) n ws row hs n 0 2 (Nat.zero_le _) (by omega)
  simp only [List.drop_zero] at q3
  simp only [Int.natCast_zero, roW] at q2
  cases hq : insW ws row with
  | true =>
    rw [hq, if_pos rfl] at q3
    obtain ⟨F, bs, nx, rfl, rfl, hF⟩ := q3.back
    simp [A105, acode, runOps, step1, aop, wantedA, ev, put, opened, binV, binInt, binStr, app_v, Pr.run, Pr.map, Pr.bind, Pr.mapP, loadA, storeA, cellsVal, Pr.ofOption, cells, fillA, splice, nz, dr, cln, flat, one, bnd, slA, items, appA, Hp.get, Hp.app, Hp.set, eqAll, eq1, lookA, resA, rvA, fin, AV.i, AV.b, AV.s, beq_int, bne_int, emp_is, emp_iff, runD, step2, clash, apartFP, Pr.log, roW, A105M0_eq, q2, hF]
  | false =>
    rw [hq, if_neg (by simp)] at q3
    obtain ⟨F, bs, nx, rfl, rfl, hF, _⟩ := q3.exit
    simp [A105, acode, runOps, step1, aop, wantedA, ev, put, opened, binV, binInt, binStr, app_v, Pr.run, Pr.map, Pr.bind, Pr.mapP, loadA, storeA, cellsVal, Pr.ofOption, cells, fillA, splice, nz, dr, cln, flat, one, bnd, slA, items, appA, Hp.get, Hp.app, Hp.set, eqAll, eq1, lookA, resA, rvA, fin, AV.i, AV.b, AV.s, beq_int, bne_int, emp_is, emp_iff, runD, step2, clash, apartFP, Pr.log, roW, A105M0_eq, q2, hF]

/-- Where a row stands, as a number: -1: nowhere. -/
def placeFrom (i : Nat) (l : List Sn) (row : Int) : Option AV := match l.findIdx? (·.row == row) with
  | some k => some (.i ((i + k : Nat) : Int))
  | none => none
def placeI (l : List Sn) (row : Int) : Int := match placeS l row with
  | some k => k
  | none => -1

theorem placeFrom_nil (i : Nat) (row : Int) : placeFrom i [] row = none := rfl
theorem placeFrom_hit (i : Nat) (x : Sn) (r : List Sn) (row : Int) (h : x.row = row) : placeFrom i (x :: r) row = some (.i i) := by simp [placeFrom, List.findIdx?_cons, h]
theorem placeFrom_miss (i : Nat) (x : Sn) (r : List Sn) (row : Int) (h : ¬ x.row = row) : placeFrom i (x :: r) row = placeFrom (i + 1) r row := by
  unfold placeFrom
  rw [List.findIdx?_cons, if_neg (by simpa using h)]
  cases r.findIdx? (fun x => x.row == row) with
  | none => rfl
  | some k => simp; omega

theorem loop98 (call : Nat → List AV → Hp → Option (AV × Hp)) (n : Nat) (l : List Sn) (row : Int) (hs : l.length < 2 ^ 62) (m i nx : Nat) (hi : i ≤ l.length) (hm : l.length - i < m) :
    ∃ e st, iter (acode call n A98L0) 0 A98M0 m (A98H0 (roS l) (.i row) (.i i), ⟨[], [], nx⟩) = some (e, st) ∧ LR 0 4 20 [] [] (placeFrom i (l.drop i) row) e st := by
  refine loop_list (f := acode call n A98L0) (k := 0) (M := A98M0) l (fun i (_ : Unit) nx => (A98H0 (roS l) (.i row) (.i i), ⟨[], [], nx⟩)) (fun _ _ => True) (fun i r _ e st => LR 0 4 20 [] [] (placeFrom i r row) e st) ?_ ?_ m i () nx hi hm trivial
  · intro _ nx _
    have hb : acode call n A98L0 (A98H0 (roS l) (.i row) (.i l.length), ⟨[], [], nx⟩) = acode call n A98L0 (A98H0 (roS l) (.i row) (.i l.length), ⟨[], [], nx⟩) := rfl
    conv at hb => rhs; simp [acode, runOps, step1, aop, wantedA, ev, put, opened, binV, binInt, binStr, app_v, Pr.run, Pr.map, Pr.bind, Pr.mapP, loadA, storeA, cellsVal, Pr.ofOption, cells, fillA, splice, nz, dr, cln, flat, one, bnd, slA, items, appA, Hp.get, Hp.app, Hp.set, eqAll, eq1, lookA, resA, rvA, fin, AV.i, AV.b, AV.s, beq_int, bne_int, emp_is, emp_iff, runD, step2, clash, apartFP, Pr.log, A98L0]
    exact ⟨_, _, by simp, hb, by simp [LR, placeFrom_nil]⟩
  · intro i hi v _ nx hg _
    have hw := wrap_nat i (by omega)
    by_cases q : v.row = row
    · have qx : (v.row = row) = True := eq_true q
      have hb : acode call n A98L0 (A98H0 (roS l) (.i row) (.i i), ⟨[], [], nx⟩) = acode call n A98L0 (A98H0 (roS l) (.i row) (.i i), ⟨[], [], nx⟩) := rfl
      conv at hb => rhs; simp [acode, runOps, step1, aop, wantedA, ev, put, opened, binV, binInt, binStr, app_v, Pr.run, Pr.map, Pr.bind, Pr.mapP, loadA, storeA, cellsVal, Pr.ofOption, cells, fillA, splice, nz, dr, cln, flat, one, bnd, slA, items, appA, Hp.get, Hp.app, Hp.set, eqAll, eq1, lookA, resA, rvA, fin, AV.i, AV.b, AV.s, beq_int, bne_int, emp_is, emp_iff, runD, step2, clash, apartFP, Pr.log, A98L0, Sn.e, eVals, hi, hg, hw, qx]
      exact .inr ⟨.ret, _, by simp, hb, by simp [LR, placeFrom_hit _ _ _ _ q]⟩
    · have hb : acode call n A98L0 (A98H0 (roS l) (.i row) (.i i), ⟨[], [], nx⟩) = acode call n A98L0 (A98H0 (roS l) (.i row) (.i i), ⟨[], [], nx⟩) := rfl
      conv at hb => rhs; simp [acode, runOps, step1, aop, wantedA, ev, put, opened, binV, binInt, binStr, app_v, Pr.run, Pr.map, Pr.bind, Pr.mapP, loadA, storeA, cellsVal, Pr.ofOption, cells, fillA, splice, nz, dr, cln, flat, one, bnd, slA, items, appA, Hp.get, Hp.app, Hp.set, eqAll, eq1, lookA, resA, rvA, fin, AV.i, AV.b, AV.s, beq_int, bne_int, emp_is, emp_iff, runD, step2, clash, apartFP, Pr.log, A98L0, Sn.e, eVals, hi, hg, hw, q]
      exact .inl ⟨_, (), _, hb, by simp [trunc, mask, A98M0]; rfl, trivial, fun e st h => by rw [placeFrom_miss _ _ _ _ q]; exact h⟩

theorem placeFrom_zero (l : List Sn) (row : Int) : placeFrom 0 l row = none ∧ placeI l row = -1 ∧ placeS l row = none ∨ ∃ k, placeFrom 0 l row = some (.i (k : Nat)) ∧ placeI l row = k ∧ placeS l row = some k := by
  unfold placeFrom placeI placeS
  cases l.findIdx? (fun x => x.row == row) with
  | none => exact .inl ⟨rfl, rfl, rfl⟩
  | some k => exact .inr ⟨k, by simp, rfl, rfl⟩

theorem e98 (l : List Sn) (row : Int) (hs : l.length < 2 ^ 62) : Is code ext 1 98 [roS l, .i row] (.i (placeI l row)) := by
  refine Is.step code ext c98 fun n hn => ?_
  obtain ⟨e, st, q2, q3⟩ := loop98 (run1 code ext n) n l row hs n 0 2 (Nat.zero_le _) (by omega)
  simp only [List.drop_zero] at q3
  simp only [Int.natCast_zero, roS] at q2
  rcases placeFrom_zero l row with ⟨h1, h2, _⟩ | ⟨k, h1, h2, _⟩
  · rw [h1] at q3
    obtain ⟨F, bs, nx, rfl, rfl, hF, _⟩ := q3.exit
    simp [A98, acode, runOps, step1, aop, wantedA, ev, put, opened, binV, binInt, binStr, app_v, Pr.run, Pr.map, Pr.bind, Pr.mapP, loadA, storeA, cellsVal, Pr.ofOption, cells, fillA, splice, nz, dr, cln, flat, one, bnd, slA, items, appA, Hp.get, Hp.app, Hp.set, eqAll, eq1, lookA, resA, rvA, fin, AV.i, AV.b, AV.s, beq_int, bne_int, emp_is, emp_iff, runD, step2, clash, apartFP, Pr.log, roS, A98M0_eq, q2, hF, h2]
  · rw [h1] at q3
    obtain ⟨F, bs, nx, rfl, rfl, hF⟩ := q3.back
    simp [A98, acode, runOps, step1, aop, wantedA, ev, put, opened, binV, binInt, binStr, app_v, Pr.run, Pr.map, Pr.bind, Pr.mapP, loadA, storeA, cellsVal, Pr.ofOption, cells, fillA, splice, nz, dr, cln, flat, one, bnd, slA, items, appA, Hp.get, Hp.app, Hp.set, eqAll, eq1, lookA, resA, rvA, fin, AV.i, AV.b, AV.s, beq_int, bne_int, emp_is, emp_iff, runD, step2, clash, apartFP, Pr.log, roS, A98M0_eq, q2, hF, h2]

theorem e112 (x : Sn) (row : Int) (rs : List Ob) (n : Nat) (hn : 2 ^ 64 + 1 ≤ n) (nx : Nat) : ∃ nx', run1 code ext n 112 [.agg x.e, .ptr 0 0 0] ⟨[.box 0 [.i row]], rs, nx⟩ = some (.b (decide (x.row = row)), ⟨[.box 0 [.i row]], rs, nx'⟩) := by
  obtain ⟨n, rfl⟩ : ∃ m, n = m + 1 := ⟨n - 1, by omega⟩
  unfold run1 absCall
  simp only [c112, x112]
  have hb : acode (absCall code ext n) n A112.code ([.agg x.e, .ptr 0 0 0] ++ List.replicate (A112.nt - [AV.agg x.e, .ptr 0 0 0].length) .top, ⟨[.box 0 [.i row]], rs, nx⟩) = acode (absCall code ext n) n A112.code ([.agg x.e, .ptr 0 0 0] ++ List.replicate (A112.nt - [AV.agg x.e, .ptr 0 0 0].length) .top, ⟨[.box 0 [.i row]], rs, nx⟩) := rfl
  conv at hb => rhs; simp [acode, runOps, step1, aop, wantedA, ev, put, opened, binV, binInt, binStr, app_v, Pr.run, Pr.map, Pr.bind, Pr.mapP, loadA, storeA, cellsVal, Pr.ofOption, cells, fillA, splice, nz, dr, cln, flat, one, bnd, slA, items, appA, Hp.get, Hp.app, Hp.set, eqAll, eq1, lookA, resA, rvA, fin, AV.i, AV.b, AV.s, beq_int, bne_int, emp_is, emp_iff, runD, step2, clash, apartFP, Pr.log, A112, Sn.e, eVals]
  rw [hb]
  exact ⟨_, by simp [A112, resA, rvA]; rfl⟩

theorem loop111 (n : Nat) (hn : 2 ^ 64 + 1 ≤ n) (l : List Sn) (row : Int) (hs : l.length < 2 ^ 62) (m i nx : Nat) (hi : i ≤ l.length) (hm : l.length - i < m) :
    ∃ e st, iter (acode (run1 code ext n) n A111L0) 1 A111M0 m (A111H0 (roS l) (.fn 112 [.ptr 0 0 0]) (.i l.length) (.i i), ⟨[.box 0 [.i row]], [], nx⟩) = some (e, st) ∧ LQ 0 4 19 [] [.box 0 [.i row]] [] (placeFrom i (l.drop i) row) e st := by
  refine loop_list (f := acode (run1 code ext n) n A111L0) (k := 1) (M := A111M0) l (fun i (_ : Unit) nx => (A111H0 (roS l) (.fn 112 [.ptr 0 0 0]) (.i l.length) (.i i), ⟨[.box 0 [.i row]], [], nx⟩)) (fun _ _ => True) (fun i r _ e st => LQ 0 4 19 [] [.box 0 [.i row]] [] (placeFrom i r row) e st) ?_ ?_ m i () nx hi hm trivial
  · intro _ nx _
    have hb : acode (run1 code ext n) n A111L0 (A111H0 (roS l) (.fn 112 [.ptr 0 0 0]) (.i l.length) (.i l.length), ⟨[.box 0 [.i row]], [], nx⟩) = acode (run1 code ext n) n A111L0 (A111H0 (roS l) (.fn 112 [.ptr 0 0 0]) (.i l.length) (.i l.length), ⟨[.box 0 [.i row]], [], nx⟩) := rfl
    conv at hb => rhs; simp [acode, runOps, step1, aop, wantedA, ev, put, opened, binV, binInt, binStr, app_v, Pr.run, Pr.map, Pr.bind, Pr.mapP, loadA, storeA, cellsVal, Pr.ofOption, cells, fillA, splice, nz, dr, cln, flat, one, bnd, slA, items, appA, Hp.get, Hp.app, Hp.set, eqAll, eq1, lookA, resA, rvA, fin, AV.i, AV.b, AV.s, beq_int, bne_int, emp_is, emp_iff, runD, step2, clash, apartFP, Pr.log, A111L0]
    exact ⟨_, _, by simp, hb, by simp [LQ, placeFrom_nil]⟩
  · intro i hi v _ nx hg _
    have hw := wrap_nat i (by omega)
    obtain ⟨nx', hc⟩ := e112 v row [] n hn (nx + 1 + 2 + 6)
    simp only [Sn.e, eVals] at hc
    by_cases q : v.row = row
    · have qx : (v.row = row) = True := eq_true q
      rw [decide_eq_true q] at hc
      have hb : acode (run1 code ext n) n A111L0 (A111H0 (roS l) (.fn 112 [.ptr 0 0 0]) (.i l.length) (.i i), ⟨[.box 0 [.i row]], [], nx⟩) = acode (run1 code ext n) n A111L0 (A111H0 (roS l) (.fn 112 [.ptr 0 0 0]) (.i l.length) (.i i), ⟨[.box 0 [.i row]], [], nx⟩) := rfl
      conv at hb => rhs; simp [acode, runOps, step1, aop, wantedA, ev, put, opened, binV, binInt, binStr, app_v, Pr.run, Pr.map, Pr.bind, Pr.mapP, loadA, storeA, cellsVal, Pr.ofOption, cells, fillA, splice, nz, dr, cln, flat, one, bnd, slA, items, appA, Hp.get, Hp.app, Hp.set, eqAll, eq1, lookA, resA, rvA, fin, AV.i, AV.b, AV.s, beq_int, bne_int, emp_is, emp_iff, runD, step2, clash, apartFP, Pr.log, A111L0, Sn.e, eVals, hi, hg, hw, hc]
      exact .inr ⟨.ret, _, by simp, hb, by simp [LQ, placeFrom_hit _ _ _ _ q]⟩
    · rw [decide_eq_false q] at hc
      have hb : acode (run1 code ext n) n A111L0 (A111H0 (roS l) (.fn 112 [.ptr 0 0 0]) (.i l.length) (.i i), ⟨[.box 0 [.i row]], [], nx⟩) = acode (run1 code ext n) n A111L0 (A111H0 (roS l) (.fn 112 [.ptr 0 0 0]) (.i l.length) (.i i), ⟨[.box 0 [.i row]], [], nx⟩) := rfl
      conv at hb => rhs; simp [acode, runOps, step1, aop, wantedA, ev, put, opened, binV, binInt, binStr, app_v, Pr.run, Pr.map, Pr.bind, Pr.mapP, loadA, storeA, cellsVal, Pr.ofOption, cells, fillA, splice, nz, dr, cln, flat, one, bnd, slA, items, appA, Hp.get, Hp.app, Hp.set, eqAll, eq1, lookA, resA, rvA, fin, AV.i, AV.b, AV.s, beq_int, bne_int, emp_is, emp_iff, runD, step2, clash, apartFP, Pr.log, A111L0, Sn.e, eVals, hi, hg, hw, hc]
      exact .inl ⟨_, (), _, hb, by simp [trunc, mask, A111M0]; rfl, trivial, fun e st h => by rw [placeFrom_miss _ _ _ _ q]; exact h⟩

theorem e111 (l : List Sn) (row : Int) (hs : l.length < 2 ^ 62) (n : Nat) (hn : 2 ^ 64 + 2 ≤ n) (nx : Nat) : ∃ nx', run1 code ext n 111 [roS l, .fn 112 [.ptr 0 0 0]] ⟨[.box 0 [.i row]], [], nx⟩ = some (.i (placeI l row), ⟨[.box 0 [.i row]], [], nx'⟩) := by
  obtain ⟨n, rfl⟩ : ∃ m, n = m + 1 := ⟨n - 1, by omega⟩
  obtain ⟨e, st, q2, q3⟩ := loop111 n (by omega) l row hs n 0 (nx + 1 + 3) (Nat.zero_le _) (by omega)
  simp only [List.drop_zero] at q3
  simp only [Int.natCast_zero, roS] at q2
  rw [show run1 code ext (n + 1) = absCall code ext (n + 1) from rfl]
  unfold absCall
  simp only [c111, x111]
  rw [show absCall code ext n = run1 code ext n from rfl]
  rcases placeFrom_zero l row with ⟨h1, h2, _⟩ | ⟨k, h1, h2, _⟩
  · rw [h1] at q3
    obtain ⟨F, nx', rfl, rfl, hF, _⟩ := q3.exit
    have hb : acode (run1 code ext n) n A111.code ([roS l, .fn 112 [.ptr 0 0 0]] ++ List.replicate (A111.nt - [roS l, AV.fn 112 [.ptr 0 0 0]].length) .top, ⟨[.box 0 [.i row]], [], nx⟩) = acode (run1 code ext n) n A111.code ([roS l, .fn 112 [.ptr 0 0 0]] ++ List.replicate (A111.nt - [roS l, AV.fn 112 [.ptr 0 0 0]].length) .top, ⟨[.box 0 [.i row]], [], nx⟩) := rfl
    conv at hb => rhs; simp [acode, runOps, step1, aop, wantedA, ev, put, opened, binV, binInt, binStr, app_v, Pr.run, Pr.map, Pr.bind, Pr.mapP, loadA, storeA, cellsVal, Pr.ofOption, cells, fillA, splice, nz, dr, cln, flat, one, bnd, slA, items, appA, Hp.get, Hp.app, Hp.set, eqAll, eq1, lookA, resA, rvA, fin, AV.i, AV.b, AV.s, beq_int, bne_int, emp_is, emp_iff, runD, step2, clash, apartFP, Pr.log, A111, roS, A111M0_eq, q2, hF]
    rw [hb]
    exact ⟨_, by simp [A111, resA, rvA, hF, h2]; rfl⟩
  · rw [h1] at q3
    obtain ⟨F, nx', rfl, rfl, hF⟩ := q3.back
    have hb : acode (run1 code ext n) n A111.code ([roS l, .fn 112 [.ptr 0 0 0]] ++ List.replicate (A111.nt - [roS l, AV.fn 112 [.ptr 0 0 0]].length) .top, ⟨[.box 0 [.i row]], [], nx⟩) = acode (run1 code ext n) n A111.code ([roS l, .fn 112 [.ptr 0 0 0]] ++ List.replicate (A111.nt - [roS l, AV.fn 112 [.ptr 0 0 0]].length) .top, ⟨[.box 0 [.i row]], [], nx⟩) := rfl
    conv at hb => rhs; simp [acode, runOps, step1, aop, wantedA, ev, put, opened, binV, binInt, binStr, app_v, Pr.run, Pr.map, Pr.bind, Pr.mapP, loadA, storeA, cellsVal, Pr.ofOption, cells, fillA, splice, nz, dr, cln, flat, one, bnd, slA, items, appA, Hp.get, Hp.app, Hp.set, eqAll, eq1, lookA, resA, rvA, fin, AV.i, AV.b, AV.s, beq_int, bne_int, emp_is, emp_iff, runD, step2, clash, apartFP, Pr.log, A111, roS, A111M0_eq, q2, hF]
    rw [hb]
    exact ⟨_, by simp [A111, resA, rvA, hF, h2]; rfl⟩

theorem e97 (l : List Sn) (row : Int) (hs : l.length < 2 ^ 62) : Is code ext 3 97 [roS l, .i row] (.i (placeI l row)) := by
  refine Is.step code ext c97 fun n hn => ?_
  obtain ⟨nx', hc⟩ := e111 l row hs n (by omega) 6
  simp only [roS] at hc
  simp [A97, acode, runOps, step1, aop, wantedA, ev, put, opened, binV, binInt, binStr, app_v, Pr.run, Pr.map, Pr.bind, Pr.mapP, loadA, storeA, cellsVal, Pr.ofOption, cells, fillA, splice, nz, dr, cln, flat, one, bnd, slA, items, appA, Hp.get, Hp.app, Hp.set, eqAll, eq1, lookA, resA, rvA, fin, AV.i, AV.b, AV.s, beq_int, bne_int, emp_is, emp_iff, runD, step2, clash, apartFP, Pr.log, roS, hc]
end Go.Pv

namespace Go.Pv
open Go
set_option maxRecDepth 100000
set_option maxHeartbeats 8000000

/-- A slice that was nil and grew to k elements, and the row that it lies in. -/
def aV (r u k : Nat) : AV := if k = 0 then .nils else .own r u 0 k
def aR (u sz : Nat) (xs : List (List AV)) : List Ob := if xs.length = 0 then [] else [.row u sz xs]

theorem aV_pos {r u k : Nat} (h : 0 < k) : aV r u k = .own r u 0 k := if_neg (by omega)
theorem aR_pos {u sz : Nat} {xs : List (List AV)} (h : 0 < xs.length) : aR u sz xs = [.row u sz xs] := if_neg (by omega)

theorem mapP_ret {α : Type} {f : α → Pr α} : ∀ {l : List α}, (∀ x ∈ l, f x = .ret x) → Pr.mapP f l = .ret l
  | [], _ => rfl
  | x :: l, h => by
    unfold Pr.mapP
    rw [h x List.mem_cons_self]
    simp only [Pr.bind]
    rw [mapP_ret fun y hy => h y (List.mem_cons_of_mem _ hy)]
    simp only [Pr.bind]

/-- Cells of plain data are read as they are. -/
def Plain {α : Type} (enc : α → List AV) : Prop := ∀ k x, Pr.mapP (dr (k + 1)) (enc x) = .ret (enc x)
theorem plain_sn : Plain Sn.e := fun k x => by simp [Sn.e, eVals, Pr.mapP, dr, Pr.bind]
theorem plain_wr : Plain Wr.e := fun k x => by simp [Wr.e, eVals, Pr.mapP, dr, Pr.bind]
theorem plain_ver : Plain Ver.e := fun k x => by simp [Ver.e, eVals, Pr.mapP, dr, Pr.bind]
theorem plain_col : Plain Col.e := fun k x => by simp [Col.e, Pr.mapP, dr, Pr.bind]
theorem plain_val : Plain Val.e := fun k x => by simp [Val.e, Pr.mapP, dr, Pr.bind]
theorem plain_tr : Plain Tr.e := fun k x => by simp [Tr.e, Pr.mapP, dr, Pr.bind]

theorem mapP_plain {α : Type} {enc : α → List AV} (h : Plain enc) (k : Nat) (l : List α) : Pr.mapP (Pr.mapP (dr (k + 1))) (l.map enc) = .ret (l.map enc) :=
  mapP_ret fun x hx => by
    obtain ⟨a, _, rfl⟩ := List.mem_map.1 hx
    exact h k a

/-- A slice of the call's own, read to the bottom. -/
theorem dr_own {α : Type} {enc : α → List AV} (hp : Plain enc) (k r u sz : Nat) (l : List α) (xs : List (List AV)) (hx : xs.take l.length = l.map enc) (h : Hp) (hh : h.get (.r r) = .row u sz xs) : (dr (k + 2) (.own r u 0 l.length)).run h = some (.ro (l.map enc)) := by
  have hl : l.length ≤ xs.length := by
    have := congrArg List.length hx
    rw [List.length_take, List.length_map] at this
    omega
  unfold dr
  simp only [Pr.run, hh, true_and, Nat.zero_add, if_pos hl, List.drop_zero, hx, mapP_plain hp, Pr.bind]

theorem dr_aV {α : Type} {enc : α → List AV} (hp : Plain enc) (k r u sz : Nat) (l : List α) (h : Hp) (hh : 0 < l.length → h.get (.r r) = .row u sz (l.map enc)) : (dr (k + 2) (aV r u l.length)).run h = some (.ro (l.map enc)) := by
  rcases Nat.eq_zero_or_pos l.length with h0 | h0
  · have := List.length_eq_zero_iff.1 h0
    subst this
    simp [aV, dr, Pr.run]
  · rw [aV_pos h0]
    exact dr_own hp k r u sz l _ (by rw [← List.length_map (f := enc), List.take_length]) h (hh h0)

theorem at_cases (v : Ver) (c : Int) (p : Prop) (h1 : v.frm ≤ c → (v.to = 0) = True → atB v c = true → p) (h2 : v.frm ≤ c → (v.to = 0) = False → c < v.to → atB v c = true → p)
    (h3 : v.frm ≤ c → (v.to = 0) = False → ¬ c < v.to → atB v c = false → p) (h4 : ¬ v.frm ≤ c → atB v c = false → p) : p := by
  unfold atB at *
  by_cases q1 : v.frm ≤ c
  · by_cases q2 : v.to = 0
    · exact h1 q1 (eq_true q2) (by simp [q1, q2])
    · by_cases q3 : c < v.to
      · exact h2 q1 (eq_false q2) q3 (by simp [q1, q3])
      · exact h3 q1 (eq_false q2) q3 (by simp [q2]; omega)
  · exact h4 q1 (by simp [q1])

theorem e75 (v : Ver) (c : Int) : Is code ext 1 75 [.agg v.e, .i c] (.b (atB v c)) := by
  refine Is.step code ext c75 fun n hn => ?_
  refine at_cases v c _ ?_ ?_ ?_ ?_
  all_goals intros
  all_goals simp [A75, acode, runOps, step1, aop, wantedA, ev, put, opened, binV, binInt, binStr, app_v, Pr.run, Pr.map, Pr.bind, Pr.mapP, loadA, storeA, cellsVal, Pr.ofOption, cells, fillA, splice, nz, dr, cln, flat, one, bnd, slA, items, appA, Hp.get, Hp.app, Hp.set, eqAll, eq1, lookA, resA, rvA, fin, AV.i, AV.b, AV.s, beq_int, bne_int, emp_is, emp_iff, runD, step2, clash, apartFP, Pr.log, Ver.e, eVals, *]

theorem baseS_step (v : Ver) (r : List Ver) (c : Int) : baseS (v :: r) c = if atB v c = true then v.sn :: baseS r c else baseS r c := by
  unfold baseS
  rw [List.filter_cons]
  split <;> simp

/-- How a loop ends that builds a list: the list lies in the row r. -/
def LB {α : Type} (enc : α → List AV) (k t len r sz : Nat) (rs0 : List Ob) (l : List α) (e : Ex) (st : St) : Prop :=
  e = .ex k ∧ st.1.length = len ∧ ∃ u, st.1[t]? = some (aV r u l.length) ∧ st.2.rs = rs0 ++ aR u sz (l.map enc)

theorem take_all {α β : Type} (f : α → β) (l : List α) : (l.map f).take l.length = l.map f := by
  rw [← List.length_map (f := f), List.take_length]

theorem room32 {k : Nat} (h : k < 2 ^ 30) : k + 1 ≤ roomMax ∧ (k + 1) * 32 ≤ roomMax ∧ (k + 1) * 40 ≤ roomMax := by
  unfold roomMax; omega

theorem loop79 (call : Nat → List AV → Hp → Option (AV × Hp)) (n : Nat) (s : Sto) (c : Int) (hs : s.vers.length < 2 ^ 30) (m i nx u : Nat) (a : List Sn) (ha : a.length ≤ i) (hi : i ≤ s.vers.length) (hm : s.vers.length - i < m) :
    ∃ e st, iter (acode call n A79L0) 1 A79M0 m (A79H0 (.i c) (.ptr 0 0 0) (aV 0 u a.length) (.i i), ⟨[.box 0 s.e], aR u 2 (a.map Sn.e), nx⟩) = some (e, st) ∧ LB Sn.e 0 5 44 0 2 [] (a ++ baseS (s.vers.drop i) c) e st := by
  refine loop_list (f := acode call n A79L0) (k := 1) (M := A79M0) s.vers (fun i (x : List Sn × Nat) nx => (A79H0 (.i c) (.ptr 0 0 0) (aV 0 x.2 x.1.length) (.i i), ⟨[.box 0 s.e], aR x.2 2 (x.1.map Sn.e), nx⟩)) (fun i x => x.1.length ≤ i) (fun i r x e st => LB Sn.e 0 5 44 0 2 [] (x.1 ++ baseS r c) e st) ?_ ?_ m i (a, u) nx hi hm ha
  · intro x nx _
    have hb : acode call n A79L0 (A79H0 (.i c) (.ptr 0 0 0) (aV 0 x.2 x.1.length) (.i s.vers.length), ⟨[.box 0 s.e], aR x.2 2 (x.1.map Sn.e), nx⟩) = acode call n A79L0 (A79H0 (.i c) (.ptr 0 0 0) (aV 0 x.2 x.1.length) (.i s.vers.length), ⟨[.box 0 s.e], aR x.2 2 (x.1.map Sn.e), nx⟩) := rfl
    conv at hb => rhs; simp [acode, runOps, step1, aop, wantedA, ev, put, opened, binV, binInt, binStr, app_v, Pr.run, Pr.map, Pr.bind, Pr.mapP, loadA, storeA, cellsVal, Pr.ofOption, cells, fillA, splice, nz, dr, cln, flat, one, bnd, slA, items, appA, Hp.get, Hp.app, Hp.set, eqAll, eq1, lookA, resA, rvA, fin, AV.i, AV.b, AV.s, beq_int, bne_int, emp_is, emp_iff, runD, step2, clash, apartFP, Pr.log, A79L0, Sto.e]
    exact ⟨_, _, by simp, hb, by simp [LB, baseS]; exact ⟨_, rfl, rfl⟩⟩
  · intro i hi v x nx hg hI
    obtain ⟨a, u⟩ := x
    simp only at hI ⊢
    have hw := wrap_nat i (by omega)
    obtain ⟨hr1, hr2, _⟩ := room32 (k := a.length) (by omega)
    have hr3 : 1 ≤ roomMax := by unfold roomMax; omega
    have hr4 : 32 ≤ roomMax := by unfold roomMax; omega
    have htk := take_all Sn.e a
    have hno : ¬ (a.length + 1 ≤ a.length) := by omega
    simp only [baseS_step]
    rcases Nat.eq_zero_or_pos a.length with h0 | h0
    · obtain rfl := List.length_eq_zero_iff.1 h0
      refine at_cases v c _ ?_ ?_ ?_ ?_
      · intro q1 q2 qq
        have hb : acode call n A79L0 (A79H0 (.i c) (.ptr 0 0 0) (aV 0 u 0) (.i i), ⟨[.box 0 s.e], aR u 2 [], nx⟩) = acode call n A79L0 (A79H0 (.i c) (.ptr 0 0 0) (aV 0 u 0) (.i i), ⟨[.box 0 s.e], aR u 2 [], nx⟩) := rfl
        conv at hb => rhs; simp [acode, runOps, step1, aop, wantedA, ev, put, opened, binV, binInt, binStr, app_v, Pr.run, Pr.map, Pr.bind, Pr.mapP, loadA, storeA, cellsVal, Pr.ofOption, cells, fillA, splice, nz, dr, cln, flat, one, bnd, slA, items, appA, Hp.get, Hp.app, Hp.set, eqAll, eq1, lookA, resA, rvA, fin, AV.i, AV.b, AV.s, beq_int, bne_int, emp_is, emp_iff, runD, step2, clash, apartFP, Pr.log, A79L0, Sto.e, Ver.e, eVals, hi, hg, hw, q1, q2, aV, aR, hr3, hr4]
        exact .inl ⟨_, ([v.sn], _), _, hb, by simp [trunc, mask, A79M0, Sto.e, aV, aR, Ver.sn, Sn.e, eVals]; exact ⟨rfl, rfl⟩, by simp, fun e st h => by rw [if_pos qq]; exact h⟩
      · intro q1 q2 q3 qq
        have hb : acode call n A79L0 (A79H0 (.i c) (.ptr 0 0 0) (aV 0 u 0) (.i i), ⟨[.box 0 s.e], aR u 2 [], nx⟩) = acode call n A79L0 (A79H0 (.i c) (.ptr 0 0 0) (aV 0 u 0) (.i i), ⟨[.box 0 s.e], aR u 2 [], nx⟩) := rfl
        conv at hb => rhs; simp [acode, runOps, step1, aop, wantedA, ev, put, opened, binV, binInt, binStr, app_v, Pr.run, Pr.map, Pr.bind, Pr.mapP, loadA, storeA, cellsVal, Pr.ofOption, cells, fillA, splice, nz, dr, cln, flat, one, bnd, slA, items, appA, Hp.get, Hp.app, Hp.set, eqAll, eq1, lookA, resA, rvA, fin, AV.i, AV.b, AV.s, beq_int, bne_int, emp_is, emp_iff, runD, step2, clash, apartFP, Pr.log, A79L0, Sto.e, Ver.e, eVals, hi, hg, hw, q1, q2, q3, aV, aR, hr3, hr4]
        exact .inl ⟨_, ([v.sn], _), _, hb, by simp [trunc, mask, A79M0, Sto.e, aV, aR, Ver.sn, Sn.e, eVals]; exact ⟨rfl, rfl⟩, by simp, fun e st h => by rw [if_pos qq]; exact h⟩
      · intro q1 q2 q3 qq
        have hb : acode call n A79L0 (A79H0 (.i c) (.ptr 0 0 0) (aV 0 u 0) (.i i), ⟨[.box 0 s.e], aR u 2 [], nx⟩) = acode call n A79L0 (A79H0 (.i c) (.ptr 0 0 0) (aV 0 u 0) (.i i), ⟨[.box 0 s.e], aR u 2 [], nx⟩) := rfl
        conv at hb => rhs; simp [acode, runOps, step1, aop, wantedA, ev, put, opened, binV, binInt, binStr, app_v, Pr.run, Pr.map, Pr.bind, Pr.mapP, loadA, storeA, cellsVal, Pr.ofOption, cells, fillA, splice, nz, dr, cln, flat, one, bnd, slA, items, appA, Hp.get, Hp.app, Hp.set, eqAll, eq1, lookA, resA, rvA, fin, AV.i, AV.b, AV.s, beq_int, bne_int, emp_is, emp_iff, runD, step2, clash, apartFP, Pr.log, A79L0, Sto.e, Ver.e, eVals, hi, hg, hw, q1, q2, q3, aV, aR]
        exact .inl ⟨_, ([], u), _, hb, by simp [trunc, mask, A79M0, Sto.e, aV, aR]; rfl, by simp, fun e st h => by rw [if_neg (by simp [qq])]; exact h⟩
      · intro q1 qq
        have hb : acode call n A79L0 (A79H0 (.i c) (.ptr 0 0 0) (aV 0 u 0) (.i i), ⟨[.box 0 s.e], aR u 2 [], nx⟩) = acode call n A79L0 (A79H0 (.i c) (.ptr 0 0 0) (aV 0 u 0) (.i i), ⟨[.box 0 s.e], aR u 2 [], nx⟩) := rfl
        conv at hb => rhs; simp [acode, runOps, step1, aop, wantedA, ev, put, opened, binV, binInt, binStr, app_v, Pr.run, Pr.map, Pr.bind, Pr.mapP, loadA, storeA, cellsVal, Pr.ofOption, cells, fillA, splice, nz, dr, cln, flat, one, bnd, slA, items, appA, Hp.get, Hp.app, Hp.set, eqAll, eq1, lookA, resA, rvA, fin, AV.i, AV.b, AV.s, beq_int, bne_int, emp_is, emp_iff, runD, step2, clash, apartFP, Pr.log, A79L0, Sto.e, Ver.e, eVals, hi, hg, hw, q1, aV, aR]
        exact .inl ⟨_, ([], u), _, hb, by simp [trunc, mask, A79M0, Sto.e, aV, aR]; rfl, by simp, fun e st h => by rw [if_neg (by simp [qq])]; exact h⟩
    · have hV := aV_pos (r := 0) (u := u) h0
      have hR : aR u 2 (a.map Sn.e) = [.row u 2 (a.map Sn.e)] := aR_pos (by simpa using h0)
      refine at_cases v c _ ?_ ?_ ?_ ?_
      · intro q1 q2 qq
        have hb : acode call n A79L0 (A79H0 (.i c) (.ptr 0 0 0) (aV 0 u a.length) (.i i), ⟨[.box 0 s.e], aR u 2 (a.map Sn.e), nx⟩) = acode call n A79L0 (A79H0 (.i c) (.ptr 0 0 0) (aV 0 u a.length) (.i i), ⟨[.box 0 s.e], aR u 2 (a.map Sn.e), nx⟩) := rfl
        conv at hb => rhs; simp [acode, runOps, step1, aop, wantedA, ev, put, opened, binV, binInt, binStr, app_v, Pr.run, Pr.map, Pr.bind, Pr.mapP, loadA, storeA, cellsVal, Pr.ofOption, cells, fillA, splice, nz, dr, cln, flat, one, bnd, slA, items, appA, Hp.get, Hp.app, Hp.set, eqAll, eq1, lookA, resA, rvA, fin, AV.i, AV.b, AV.s, beq_int, bne_int, emp_is, emp_iff, runD, step2, clash, apartFP, Pr.log, A79L0, Sto.e, Ver.e, eVals, hi, hg, hw, q1, q2, hV, hR, hr1, hr2, htk, hno]
        exact .inl ⟨_, (a ++ [v.sn], _), _, hb, by simp [trunc, mask, A79M0, Sto.e, aV, aR, Ver.sn, Sn.e, eVals]; exact ⟨rfl, rfl⟩, by simp; omega, fun e st h => by rw [if_pos qq]; simpa using h⟩
      · intro q1 q2 q3 qq
        have hb : acode call n A79L0 (A79H0 (.i c) (.ptr 0 0 0) (aV 0 u a.length) (.i i), ⟨[.box 0 s.e], aR u 2 (a.map Sn.e), nx⟩) = acode call n A79L0 (A79H0 (.i c) (.ptr 0 0 0) (aV 0 u a.length) (.i i), ⟨[.box 0 s.e], aR u 2 (a.map Sn.e), nx⟩) := rfl
        conv at hb => rhs; simp [acode, runOps, step1, aop, wantedA, ev, put, opened, binV, binInt, binStr, app_v, Pr.run, Pr.map, Pr.bind, Pr.mapP, loadA, storeA, cellsVal, Pr.ofOption, cells, fillA, splice, nz, dr, cln, flat, one, bnd, slA, items, appA, Hp.get, Hp.app, Hp.set, eqAll, eq1, lookA, resA, rvA, fin, AV.i, AV.b, AV.s, beq_int, bne_int, emp_is, emp_iff, runD, step2, clash, apartFP, Pr.log, A79L0, Sto.e, Ver.e, eVals, hi, hg, hw, q1, q2, q3, hV, hR, hr1, hr2, htk, hno]
        exact .inl ⟨_, (a ++ [v.sn], _), _, hb, by simp [trunc, mask, A79M0, Sto.e, aV, aR, Ver.sn, Sn.e, eVals]; exact ⟨rfl, rfl⟩, by simp; omega, fun e st h => by rw [if_pos qq]; simpa using h⟩
      · intro q1 q2 q3 qq
        have hb : acode call n A79L0 (A79H0 (.i c) (.ptr 0 0 0) (aV 0 u a.length) (.i i), ⟨[.box 0 s.e], aR u 2 (a.map Sn.e), nx⟩) = acode call n A79L0 (A79H0 (.i c) (.ptr 0 0 0) (aV 0 u a.length) (.i i), ⟨[.box 0 s.e], aR u 2 (a.map Sn.e), nx⟩) := rfl
        conv at hb => rhs; simp [acode, runOps, step1, aop, wantedA, ev, put, opened, binV, binInt, binStr, app_v, Pr.run, Pr.map, Pr.bind, Pr.mapP, loadA, storeA, cellsVal, Pr.ofOption, cells, fillA, splice, nz, dr, cln, flat, one, bnd, slA, items, appA, Hp.get, Hp.app, Hp.set, eqAll, eq1, lookA, resA, rvA, fin, AV.i, AV.b, AV.s, beq_int, bne_int, emp_is, emp_iff, runD, step2, clash, apartFP, Pr.log, A79L0, Sto.e, Ver.e, eVals, hi, hg, hw, q1, q2, q3, hV, hR]
        exact .inl ⟨_, (a, u), _, hb, by simp [trunc, mask, A79M0, Sto.e, hV, hR]; rfl, by simp; omega, fun e st h => by rw [if_neg (by simp [qq])]; exact h⟩
      · intro q1 qq
        have hb : acode call n A79L0 (A79H0 (.i c) (.ptr 0 0 0) (aV 0 u a.length) (.i i), ⟨[.box 0 s.e], aR u 2 (a.map Sn.e), nx⟩) = acode call n A79L0 (A79H0 (.i c) (.ptr 0 0 0) (aV 0 u a.length) (.i i), ⟨[.box 0 s.e], aR u 2 (a.map Sn.e), nx⟩) := rfl
        conv at hb => rhs; simp [acode, runOps, step1, aop, wantedA, ev, put, opened, binV, binInt, binStr, app_v, Pr.run, Pr.map, Pr.bind, Pr.mapP, loadA, storeA, cellsVal, Pr.ofOption, cells, fillA, splice, nz, dr, cln, flat, one, bnd, slA, items, appA, Hp.get, Hp.app, Hp.set, eqAll, eq1, lookA, resA, rvA, fin, AV.i, AV.b, AV.s, beq_int, bne_int, emp_is, emp_iff, runD, step2, clash, apartFP, Pr.log, A79L0, Sto.e, Ver.e, eVals, hi, hg, hw, q1, hV, hR]
        exact .inl ⟨_, (a, u), _, hb, by simp [trunc, mask, A79M0, Sto.e, hV, hR]; rfl, by simp; omega, fun e st h => by rw [if_neg (by simp [qq])]; exact h⟩

theorem e79 (s : Sto) (c : Int) (hs : s.vers.length < 2 ^ 30) : Is code ext 1 79 [.agg s.e, .i c] (roS (baseS s.vers c)) := by
  refine Is.step code ext c79 fun n hn => ?_
  obtain ⟨e, st, q2, q3⟩ := loop79 (run1 code ext n) n s c hs n 0 4 0 [] (Nat.le_refl _) (Nat.zero_le _) (by omega)
  simp only [List.drop_zero, List.nil_append] at q3
  simp only [Int.natCast_zero, Sto.e, List.length_nil, List.map_nil, aV, aR, if_pos] at q2
  obtain ⟨F, rs⟩ := st
  obtain ⟨bs, rs, nx⟩ := rs
  obtain ⟨rfl, hl, u, h1, h2⟩ := q3
  simp only [List.nil_append] at h1 h2
  subst h2
  simp only at hl
  obtain ⟨_, h1⟩ := List.getElem?_eq_some_iff.1 h1
  simp [A79, acode, runOps, step1, aop, wantedA, ev, put, opened, binV, binInt, binStr, app_v, Pr.run, Pr.map, Pr.bind, Pr.mapP, loadA, storeA, cellsVal, Pr.ofOption, cells, fillA, splice, nz, dr, cln, flat, one, bnd, slA, items, appA, Hp.get, Hp.app, Hp.set, eqAll, eq1, lookA, resA, rvA, fin, AV.i, AV.b, AV.s, beq_int, bne_int, emp_is, emp_iff, runD, step2, clash, apartFP, Pr.log, Sto.e, A79M0_eq, q2, h1, hl]
  refine dr_aV plain_sn 4 0 u 2 (baseS s.vers c) _ fun h0 => ?_
  simp [Hp.get, aR_pos, h0]

theorem after_nil (w : Wr) : afterS [] w = if w.kind = 1 then [w.sn] else [] := by simp [afterS]
def aftL (w : Wr) (l : List Sn) : List Sn := l.flatMap fun x => if x.row ≠ w.row then [x] else if w.kind = 3 then [w.sn] else []
theorem aftL_step (w : Wr) (x : Sn) (r : List Sn) : aftL w (x :: r) = (if x.row ≠ w.row then [x] else if w.kind = 3 then [w.sn] else []) ++ aftL w r := by simp [aftL]
theorem aftL_len (w : Wr) : ∀ l : List Sn, (aftL w l).length ≤ l.length
  | [] => Nat.le_refl _
  | x :: r => by
    rw [aftL_step]
    have := aftL_len w r
    split
    · simp; omega
    · split <;> simp <;> omega

theorem aft_cases (x : Sn) (w : Wr) (p : Prop) (h1 : (x.row = w.row) = False → (∀ r, aftL w (x :: r) = x :: aftL w r) → p) (h2 : (x.row = w.row) = True → (w.kind = 3) = True → (∀ r, aftL w (x :: r) = w.sn :: aftL w r) → p)
    (h3 : (x.row = w.row) = True → (w.kind = 3) = False → (∀ r, aftL w (x :: r) = aftL w r) → p) : p := by
  by_cases q1 : x.row = w.row
  · by_cases q2 : w.kind = 3
    · exact h2 (eq_true q1) (eq_true q2) fun r => by rw [aftL_step]; simp [q1, q2]
    · exact h3 (eq_true q1) (eq_false q2) fun r => by rw [aftL_step]; simp [q1, q2]
  · exact h1 (eq_false q1) fun r => by rw [aftL_step]; simp [q1]

theorem loop90 (call : Nat → List AV → Hp → Option (AV × Hp)) (n : Nat) (l : List Sn) (w : Wr) (hs : l.length < 2 ^ 30) (m i nx u : Nat) (a : List Sn) (ha : a.length ≤ i) (hi : i ≤ l.length) (hm : l.length - i < m) :
    ∃ e st, iter (acode call n A90L0) 1 A90M0 m (A90H0 (roS l) (.ptr 0 0 0) (aV 0 u a.length) (.i i), ⟨[.box 0 w.e], aR u 2 (a.map Sn.e), nx⟩) = some (e, st) ∧ LB Sn.e 0 5 51 0 2 [] (a ++ aftL w (l.drop i)) e st ∧ st.1[3]? = some (.ptr 0 0 0) ∧ ∃ bs, st.2.bs = .box 0 w.e :: bs := by
  refine loop_list (f := acode call n A90L0) (k := 1) (M := A90M0) l (fun i (x : List Sn × Nat) nx => (A90H0 (roS l) (.ptr 0 0 0) (aV 0 x.2 x.1.length) (.i i), ⟨[.box 0 w.e], aR x.2 2 (x.1.map Sn.e), nx⟩)) (fun i x => x.1.length ≤ i) (fun i r x e st => LB Sn.e 0 5 51 0 2 [] (x.1 ++ aftL w r) e st ∧ st.1[3]? = some (.ptr 0 0 0) ∧ ∃ bs, st.2.bs = .box 0 w.e :: bs) ?_ ?_ m i (a, u) nx hi hm ha
  · intro x nx _
    have hb : acode call n A90L0 (A90H0 (roS l) (.ptr 0 0 0) (aV 0 x.2 x.1.length) (.i l.length), ⟨[.box 0 w.e], aR x.2 2 (x.1.map Sn.e), nx⟩) = acode call n A90L0 (A90H0 (roS l) (.ptr 0 0 0) (aV 0 x.2 x.1.length) (.i l.length), ⟨[.box 0 w.e], aR x.2 2 (x.1.map Sn.e), nx⟩) := rfl
    conv at hb => rhs; simp [acode, runOps, step1, aop, wantedA, ev, put, opened, binV, binInt, binStr, app_v, Pr.run, Pr.map, Pr.bind, Pr.mapP, loadA, storeA, cellsVal, Pr.ofOption, cells, fillA, splice, nz, dr, cln, flat, one, bnd, slA, items, appA, Hp.get, Hp.app, Hp.set, eqAll, eq1, lookA, resA, rvA, fin, AV.i, AV.b, AV.s, beq_int, bne_int, emp_is, emp_iff, runD, step2, clash, apartFP, Pr.log, A90L0]
    exact ⟨_, _, by simp, hb, by simp [LB, aftL]; exact ⟨_, rfl, rfl⟩⟩
  · intro i hi v x nx hg hI
    obtain ⟨a, u⟩ := x
    simp only at hI ⊢
    have hw := wrap_nat i (by omega)
    obtain ⟨hr1, hr2, _⟩ := room32 (k := a.length) (by omega)
    have hr3 : 1 ≤ roomMax := by unfold roomMax; omega
    have hr4 : 32 ≤ roomMax := by unfold roomMax; omega
    have htk := take_all Sn.e a
    have hno : ¬ (a.length + 1 ≤ a.length) := by omega
    rcases Nat.eq_zero_or_pos a.length with h0 | h0
    · obtain rfl := List.length_eq_zero_iff.1 h0
      refine aft_cases v w _ ?_ ?_ ?_
      · intro q1 qq
        have hb : acode call n A90L0 (A90H0 (roS l) (.ptr 0 0 0) (aV 0 u 0) (.i i), ⟨[.box 0 w.e], aR u 2 [], nx⟩) = acode call n A90L0 (A90H0 (roS l) (.ptr 0 0 0) (aV 0 u 0) (.i i), ⟨[.box 0 w.e], aR u 2 [], nx⟩) := rfl
        conv at hb => rhs; simp [acode, runOps, step1, aop, wantedA, ev, put, opened, binV, binInt, binStr, app_v, Pr.run, Pr.map, Pr.bind, Pr.mapP, loadA, storeA, cellsVal, Pr.ofOption, cells, fillA, splice, nz, dr, cln, flat, one, bnd, slA, items, appA, Hp.get, Hp.app, Hp.set, eqAll, eq1, lookA, resA, rvA, fin, AV.i, AV.b, AV.s, beq_int, bne_int, emp_is, emp_iff, runD, step2, clash, apartFP, Pr.log, A90L0, Wr.e, Sn.e, eVals, hi, hg, hw, q1, aV, aR, hr3, hr4]
        exact .inl ⟨_, ([v], _), _, hb, by simp [trunc, mask, A90M0, aV, aR, Wr.e, Sn.e, eVals]; exact ⟨rfl, rfl⟩, by simp, fun e st h => by rw [qq]; exact h⟩
      · intro q1 q2 qq
        have hb : acode call n A90L0 (A90H0 (roS l) (.ptr 0 0 0) (aV 0 u 0) (.i i), ⟨[.box 0 w.e], aR u 2 [], nx⟩) = acode call n A90L0 (A90H0 (roS l) (.ptr 0 0 0) (aV 0 u 0) (.i i), ⟨[.box 0 w.e], aR u 2 [], nx⟩) := rfl
        conv at hb => rhs; simp [acode, runOps, step1, aop, wantedA, ev, put, opened, binV, binInt, binStr, app_v, Pr.run, Pr.map, Pr.bind, Pr.mapP, loadA, storeA, cellsVal, Pr.ofOption, cells, fillA, splice, nz, dr, cln, flat, one, bnd, slA, items, appA, Hp.get, Hp.app, Hp.set, eqAll, eq1, lookA, resA, rvA, fin, AV.i, AV.b, AV.s, beq_int, bne_int, emp_is, emp_iff, runD, step2, clash, apartFP, Pr.log, A90L0, Wr.e, Sn.e, eVals, hi, hg, hw, q1, q2, aV, aR, hr3, hr4]
        exact .inl ⟨_, ([w.sn], _), _, hb, by simp [trunc, mask, A90M0, aV, aR, Wr.sn, Wr.e, Sn.e, eVals, q2]; exact ⟨rfl, rfl⟩, by simp, fun e st h => by rw [qq]; exact h⟩
      · intro q1 q2 qq
        have hb : acode call n A90L0 (A90H0 (roS l) (.ptr 0 0 0) (aV 0 u 0) (.i i), ⟨[.box 0 w.e], aR u 2 [], nx⟩) = acode call n A90L0 (A90H0 (roS l) (.ptr 0 0 0) (aV 0 u 0) (.i i), ⟨[.box 0 w.e], aR u 2 [], nx⟩) := rfl
        conv at hb => rhs; simp [acode, runOps, step1, aop, wantedA, ev, put, opened, binV, binInt, binStr, app_v, Pr.run, Pr.map, Pr.bind, Pr.mapP, loadA, storeA, cellsVal, Pr.ofOption, cells, fillA, splice, nz, dr, cln, flat, one, bnd, slA, items, appA, Hp.get, Hp.app, Hp.set, eqAll, eq1, lookA, resA, rvA, fin, AV.i, AV.b, AV.s, beq_int, bne_int, emp_is, emp_iff, runD, step2, clash, apartFP, Pr.log, A90L0, Wr.e, Sn.e, eVals, hi, hg, hw, q1, q2, aV, aR]
        exact .inl ⟨_, ([], u), _, hb, by simp [trunc, mask, A90M0, aV, aR, Wr.e, eVals]; rfl, by simp, fun e st h => by rw [qq]; exact h⟩
    · have hV := aV_pos (r := 0) (u := u) h0
      have hR : aR u 2 (a.map Sn.e) = [.row u 2 (a.map Sn.e)] := aR_pos (by simpa using h0)
      refine aft_cases v w _ ?_ ?_ ?_
      · intro q1 qq
        have hb : acode call n A90L0 (A90H0 (roS l) (.ptr 0 0 0) (aV 0 u a.length) (.i i), ⟨[.box 0 w.e], aR u 2 (a.map Sn.e), nx⟩) = acode call n A90L0 (A90H0 (roS l) (.ptr 0 0 0) (aV 0 u a.length) (.i i), ⟨[.box 0 w.e], aR u 2 (a.map Sn.e), nx⟩) := rfl
        conv at hb => rhs; simp [acode, runOps, step1, aop, wantedA, ev, put, opened, binV, binInt, binStr, app_v, Pr.run, Pr.map, Pr.bind, Pr.mapP, loadA, storeA, cellsVal, Pr.ofOption, cells, fillA, splice, nz, dr, cln, flat, one, bnd, slA, items, appA, Hp.get, Hp.app, Hp.set, eqAll, eq1, lookA, resA, rvA, fin, AV.i, AV.b, AV.s, beq_int, bne_int, emp_is, emp_iff, runD, step2, clash, apartFP, Pr.log, A90L0, Wr.e, Sn.e, eVals, hi, hg, hw, q1, hV, hR, hr1, hr2, htk, hno]
        exact .inl ⟨_, (a ++ [v], _), _, hb, by simp [trunc, mask, A90M0, aV, aR, Wr.e, Sn.e, eVals]; exact ⟨rfl, rfl⟩, by simp; omega, fun e st h => by rw [qq]; simpa using h⟩
      · intro q1 q2 qq
        have hb : acode call n A90L0 (A90H0 (roS l) (.ptr 0 0 0) (aV 0 u a.length) (.i i), ⟨[.box 0 w.e], aR u 2 (a.map Sn.e), nx⟩) = acode call n A90L0 (A90H0 (roS l) (.ptr 0 0 0) (aV 0 u a.length) (.i i), ⟨[.box 0 w.e], aR u 2 (a.map Sn.e), nx⟩) := rfl
        conv at hb => rhs; simp [acode, runOps, step1, aop, wantedA, ev, put, opened, binV, binInt, binStr, app_v, Pr.run, Pr.map, Pr.bind, Pr.mapP, loadA, storeA, cellsVal, Pr.ofOption, cells, fillA, splice, nz, dr, cln, flat, one, bnd, slA, items, appA, Hp.get, Hp.app, Hp.set, eqAll, eq1, lookA, resA, rvA, fin, AV.i, AV.b, AV.s, beq_int, bne_int, emp_is, emp_iff, runD, step2, clash, apartFP, Pr.log, A90L0, Wr.e, Sn.e, eVals, hi, hg, hw, q1, q2, hV, hR, hr1, hr2, htk, hno]
        exact .inl ⟨_, (a ++ [w.sn], _), _, hb, by simp [trunc, mask, A90M0, aV, aR, Wr.sn, Wr.e, Sn.e, eVals, q2]; exact ⟨rfl, rfl⟩, by simp; omega, fun e st h => by rw [qq]; simpa using h⟩
      · intro q1 q2 qq
        have hb : acode call n A90L0 (A90H0 (roS l) (.ptr 0 0 0) (aV 0 u a.length) (.i i), ⟨[.box 0 w.e], aR u 2 (a.map Sn.e), nx⟩) = acode call n A90L0 (A90H0 (roS l) (.ptr 0 0 0) (aV 0 u a.length) (.i i), ⟨[.box 0 w.e], aR u 2 (a.map Sn.e), nx⟩) := rfl
        conv at hb => rhs; simp [acode, runOps, step1, aop, wantedA, ev, put, opened, binV, binInt, binStr, app_v, Pr.run, Pr.map, Pr.bind, Pr.mapP, loadA, storeA, cellsVal, Pr.ofOption, cells, fillA, splice, nz, dr, cln, flat, one, bnd, slA, items, appA, Hp.get, Hp.app, Hp.set, eqAll, eq1, lookA, resA, rvA, fin, AV.i, AV.b, AV.s, beq_int, bne_int, emp_is, emp_iff, runD, step2, clash, apartFP, Pr.log, A90L0, Wr.e, Sn.e, eVals, hi, hg, hw, q1, q2, hV, hR]
        exact .inl ⟨_, (a, u), _, hb, by simp [trunc, mask, A90M0, hV, hR, Wr.e, eVals]; rfl, by simp; omega, fun e st h => by rw [qq]; exact h⟩
end Go.Pv
