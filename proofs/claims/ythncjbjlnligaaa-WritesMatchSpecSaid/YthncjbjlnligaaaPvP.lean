/-
  What functions come to: a store is the same as itself; clones; places. Conditions: none.
-/
import Derived.Test.YthncjbjlnligaaaPvO
set_option linter.unusedVariables false
set_option linter.unusedSimpArgs false
namespace Go.Pv
open Go
set_option maxRecDepth 100000
set_option maxHeartbeats 8000000

abbrev roT' (l : List Tr) : AV := .ro (l.map Tr.e)
abbrev roW' (l : List Wr) : AV := .ro (l.map Wr.e)
abbrev roV' (l : List Ver) : AV := .ro (l.map Ver.e)

theorem ba_self (s : ByteArray) : (s == s) = true := by
  obtain ⟨d⟩ := s
  show (d == d) = true
  simp

theorem loop73 (call : Nat → List AV → Hp → Option (AV × Hp)) (n : Nat) (l : List Val) (hs : l.length < 2 ^ 63) (m i nx : Nat) (hi : i ≤ l.length) (hm : l.length - i < m) :
    ∃ e st, iter (acode call n A73L0) 2 A73M0 m (A73H0 (.ptr 0 0 0) (.ptr 1 1 0) (.i i), ⟨[.box 0 [eVals l], .box 1 [eVals l]], [], nx⟩) = some (e, st) ∧ LR 0 4 31 [] [] none e st := by
  refine loop_list (f := acode call n A73L0) (k := 2) (M := A73M0) l (fun i (_ : Unit) nx => (A73H0 (.ptr 0 0 0) (.ptr 1 1 0) (.i i), ⟨[.box 0 [eVals l], .box 1 [eVals l]], [], nx⟩)) (fun _ _ => True) (fun i r _ e st => LR 0 4 31 [] [] none e st) ?_ ?_ m i () nx hi hm trivial
  · intro _ nx _
    have hb : acode call n A73L0 (A73H0 (.ptr 0 0 0) (.ptr 1 1 0) (.i l.length), ⟨[.box 0 [eVals l], .box 1 [eVals l]], [], nx⟩) = acode call n A73L0 (A73H0 (.ptr 0 0 0) (.ptr 1 1 0) (.i l.length), ⟨[.box 0 [eVals l], .box 1 [eVals l]], [], nx⟩) := rfl
    conv at hb => rhs; simp [acode, runOps, step1, aop, wantedA, ev, put, opened, binV, binInt, binStr, app_v, Pr.run, Pr.map, Pr.bind, Pr.mapP, loadA, storeA, cellsVal, Pr.ofOption, cells, fillA, splice, nz, dr, cln, flat, one, bnd, slA, items, appA, Hp.get, Hp.app, Hp.set, eqAll, eq1, lookA, resA, rvA, fin, AV.i, AV.b, AV.s, beq_int, bne_int, emp_is, emp_iff, runD, step2, clash, apartFP, Pr.log, A73L0, eVals]
    exact ⟨_, _, by simp, hb, by simp [LR]⟩
  · intro i hi a _ nx hg _
    have hw := wrap_nat i (by omega)
    have hb : acode call n A73L0 (A73H0 (.ptr 0 0 0) (.ptr 1 1 0) (.i i), ⟨[.box 0 [eVals l], .box 1 [eVals l]], [], nx⟩) = acode call n A73L0 (A73H0 (.ptr 0 0 0) (.ptr 1 1 0) (.i i), ⟨[.box 0 [eVals l], .box 1 [eVals l]], [], nx⟩) := rfl
    conv at hb => rhs; simp [acode, runOps, step1, aop, wantedA, ev, put, opened, binV, binInt, binStr, app_v, Pr.run, Pr.map, Pr.bind, Pr.mapP, loadA, storeA, cellsVal, Pr.ofOption, cells, fillA, splice, nz, dr, cln, flat, one, bnd, slA, items, appA, Hp.get, Hp.app, Hp.set, eqAll, eq1, lookA, resA, rvA, fin, AV.i, AV.b, AV.s, beq_int, bne_int, emp_is, emp_iff, runD, step2, clash, apartFP, Pr.log, A73L0, eVals, Val.e, hi, hg, hw, ba_self]
    exact .inl ⟨_, (), _, hb, by simp [trunc, mask, A73M0, eVals]; rfl, trivial, fun e st h => h⟩

theorem e73 (l : List Val) (hs : l.length < 2 ^ 63) : Is code ext 1 73 [.agg [eVals l], .agg [eVals l]] (.b true) := by
  refine Is.step code ext c73 fun n hn => ?_
  obtain ⟨e, st, q2, q3⟩ := loop73 (run1 code ext n) n l hs n 0 11 (Nat.zero_le _) (by omega)
  simp only [Int.natCast_zero, eVals] at q2
  obtain ⟨F, bs, nx, rfl, rfl, hF, _⟩ := q3.exit
  simp [A73, acode, runOps, step1, aop, wantedA, ev, put, opened, binV, binInt, binStr, app_v, Pr.run, Pr.map, Pr.bind, Pr.mapP, loadA, storeA, cellsVal, Pr.ofOption, cells, fillA, splice, nz, dr, cln, flat, one, bnd, slA, items, appA, Hp.get, Hp.app, Hp.set, eqAll, eq1, lookA, resA, rvA, fin, AV.i, AV.b, AV.s, beq_int, bne_int, emp_is, emp_iff, runD, step2, clash, apartFP, Pr.log, eVals, A73M0_eq, q2, hF]

theorem e82 (l : List Val) (hs : l.length < 2 ^ 63) : Is code ext 2 82 [eVals l, eVals l] (.b true) := by
  refine Is.step code ext c82 fun n hn => ?_
  have h := e73 l hs n (by omega)
  simp only [eVals] at h
  simp [A82, acode, runOps, step1, aop, wantedA, ev, put, opened, binV, binInt, binStr, app_v, Pr.run, Pr.map, Pr.bind, Pr.mapP, loadA, storeA, cellsVal, Pr.ofOption, cells, fillA, splice, nz, dr, cln, flat, one, bnd, slA, items, appA, Hp.get, Hp.app, Hp.set, eqAll, eq1, lookA, resA, rvA, fin, AV.i, AV.b, AV.s, beq_int, bne_int, emp_is, emp_iff, runD, step2, clash, apartFP, Pr.log, eVals, h]

theorem loop39 (n : Nat) (hn : 2 ^ 64 + 2 ≤ n) (l : List Ver) (hs : l.length < 2 ^ 63) (hv : ∀ v ∈ l, v.vals.length < 2 ^ 63) (m i nx : Nat) (hi : i ≤ l.length) (hm : l.length - i < m) :
    ∃ e st, iter (acode (run1 code ext n) n A39L0) 0 A39M0 m (A39H0 (roV' l) (roV' l) (.i i), ⟨[], [], nx⟩) = some (e, st) ∧ LR 0 4 68 [] [] none e st := by
  refine loop_list (f := acode (run1 code ext n) n A39L0) (k := 0) (M := A39M0) l (fun i (_ : Unit) nx => (A39H0 (roV' l) (roV' l) (.i i), ⟨[], [], nx⟩)) (fun _ _ => True) (fun i r _ e st => LR 0 4 68 [] [] none e st) ?_ ?_ m i () nx hi hm trivial
  · intro _ nx _
    have hb : acode (run1 code ext n) n A39L0 (A39H0 (roV' l) (roV' l) (.i l.length), ⟨[], [], nx⟩) = acode (run1 code ext n) n A39L0 (A39H0 (roV' l) (roV' l) (.i l.length), ⟨[], [], nx⟩) := rfl
    conv at hb => rhs; simp [acode, runOps, step1, aop, wantedA, ev, put, opened, binV, binInt, binStr, app_v, Pr.run, Pr.map, Pr.bind, Pr.mapP, loadA, storeA, cellsVal, Pr.ofOption, cells, fillA, splice, nz, dr, cln, flat, one, bnd, slA, items, appA, Hp.get, Hp.app, Hp.set, eqAll, eq1, lookA, resA, rvA, fin, AV.i, AV.b, AV.s, beq_int, bne_int, emp_is, emp_iff, runD, step2, clash, apartFP, Pr.log, A39L0]
    exact ⟨_, _, by simp, hb, by simp [LR]⟩
  · intro i hi a _ nx hg _
    have hw := wrap_nat i (by omega)
    have h := e82 a.vals (hv a (by rw [← hg]; exact List.getElem_mem _)) n hn
    simp only [eVals] at h
    have hb : acode (run1 code ext n) n A39L0 (A39H0 (roV' l) (roV' l) (.i i), ⟨[], [], nx⟩) = acode (run1 code ext n) n A39L0 (A39H0 (roV' l) (roV' l) (.i i), ⟨[], [], nx⟩) := rfl
    conv at hb => rhs; simp [acode, runOps, step1, aop, wantedA, ev, put, opened, binV, binInt, binStr, app_v, Pr.run, Pr.map, Pr.bind, Pr.mapP, loadA, storeA, cellsVal, Pr.ofOption, cells, fillA, splice, nz, dr, cln, flat, one, bnd, slA, items, appA, Hp.get, Hp.app, Hp.set, eqAll, eq1, lookA, resA, rvA, fin, AV.i, AV.b, AV.s, beq_int, bne_int, emp_is, emp_iff, runD, step2, clash, apartFP, Pr.log, A39L0, eVals, Ver.e, hi, hg, hw, h]
    exact .inl ⟨_, (), _, hb, by simp [trunc, mask, A39M0]; rfl, trivial, fun e st h => h⟩

theorem e39 (l : List Ver) (hs : l.length < 2 ^ 63) (hv : ∀ v ∈ l, v.vals.length < 2 ^ 63) : Is code ext 3 39 [roV' l, roV' l] (.b true) := by
  refine Is.step code ext c39 fun n hn => ?_
  obtain ⟨e, st, q2, q3⟩ := loop39 n hn l hs hv n 0 7 (Nat.zero_le _) (by omega)
  simp only [Int.natCast_zero, roV'] at q2
  obtain ⟨F, bs, nx, rfl, rfl, hF, _⟩ := q3.exit
  simp [A39, acode, runOps, step1, aop, wantedA, ev, put, opened, binV, binInt, binStr, app_v, Pr.run, Pr.map, Pr.bind, Pr.mapP, loadA, storeA, cellsVal, Pr.ofOption, cells, fillA, splice, nz, dr, cln, flat, one, bnd, slA, items, appA, Hp.get, Hp.app, Hp.set, eqAll, eq1, lookA, resA, rvA, fin, AV.i, AV.b, AV.s, beq_int, bne_int, emp_is, emp_iff, runD, step2, clash, apartFP, Pr.log, roV', A39M0_eq, q2, hF]

theorem loop40 (n : Nat) (hn : 2 ^ 64 + 2 ≤ n) (l : List Wr) (hs : l.length < 2 ^ 63) (hv : ∀ v ∈ l, v.vals.length < 2 ^ 63) (m i nx : Nat) (hi : i ≤ l.length) (hm : l.length - i < m) :
    ∃ e st, iter (acode (run1 code ext n) n A40L0) 0 A40M0 m (A40H0 (roW' l) (roW' l) (.i i), ⟨[], [], nx⟩) = some (e, st) ∧ LR 0 4 55 [] [] none e st := by
  refine loop_list (f := acode (run1 code ext n) n A40L0) (k := 0) (M := A40M0) l (fun i (_ : Unit) nx => (A40H0 (roW' l) (roW' l) (.i i), ⟨[], [], nx⟩)) (fun _ _ => True) (fun i r _ e st => LR 0 4 55 [] [] none e st) ?_ ?_ m i () nx hi hm trivial
  · intro _ nx _
    have hb : acode (run1 code ext n) n A40L0 (A40H0 (roW' l) (roW' l) (.i l.length), ⟨[], [], nx⟩) = acode (run1 code ext n) n A40L0 (A40H0 (roW' l) (roW' l) (.i l.length), ⟨[], [], nx⟩) := rfl
    conv at hb => rhs; simp [acode, runOps, step1, aop, wantedA, ev, put, opened, binV, binInt, binStr, app_v, Pr.run, Pr.map, Pr.bind, Pr.mapP, loadA, storeA, cellsVal, Pr.ofOption, cells, fillA, splice, nz, dr, cln, flat, one, bnd, slA, items, appA, Hp.get, Hp.app, Hp.set, eqAll, eq1, lookA, resA, rvA, fin, AV.i, AV.b, AV.s, beq_int, bne_int, emp_is, emp_iff, runD, step2, clash, apartFP, Pr.log, A40L0]
    exact ⟨_, _, by simp, hb, by simp [LR]⟩
  · intro i hi a _ nx hg _
    have hw := wrap_nat i (by omega)
    have h := e82 a.vals (hv a (by rw [← hg]; exact List.getElem_mem _)) n hn
    simp only [eVals] at h
    have hb : acode (run1 code ext n) n A40L0 (A40H0 (roW' l) (roW' l) (.i i), ⟨[], [], nx⟩) = acode (run1 code ext n) n A40L0 (A40H0 (roW' l) (roW' l) (.i i), ⟨[], [], nx⟩) := rfl
    conv at hb => rhs; simp [acode, runOps, step1, aop, wantedA, ev, put, opened, binV, binInt, binStr, app_v, Pr.run, Pr.map, Pr.bind, Pr.mapP, loadA, storeA, cellsVal, Pr.ofOption, cells, fillA, splice, nz, dr, cln, flat, one, bnd, slA, items, appA, Hp.get, Hp.app, Hp.set, eqAll, eq1, lookA, resA, rvA, fin, AV.i, AV.b, AV.s, beq_int, bne_int, emp_is, emp_iff, runD, step2, clash, apartFP, Pr.log, A40L0, eVals, Wr.e, hi, hg, hw, h]
    exact .inl ⟨_, (), _, hb, by simp [trunc, mask, A40M0]; rfl, trivial, fun e st h => h⟩

theorem e40 (l : List Wr) (hs : l.length < 2 ^ 63) (hv : ∀ v ∈ l, v.vals.length < 2 ^ 63) : Is code ext 3 40 [roW' l, roW' l] (.b true) := by
  refine Is.step code ext c40 fun n hn => ?_
  obtain ⟨e, st, q2, q3⟩ := loop40 n hn l hs hv n 0 7 (Nat.zero_le _) (by omega)
  simp only [Int.natCast_zero, roW'] at q2
  obtain ⟨F, bs, nx, rfl, rfl, hF, _⟩ := q3.exit
  simp [A40, acode, runOps, step1, aop, wantedA, ev, put, opened, binV, binInt, binStr, app_v, Pr.run, Pr.map, Pr.bind, Pr.mapP, loadA, storeA, cellsVal, Pr.ofOption, cells, fillA, splice, nz, dr, cln, flat, one, bnd, slA, items, appA, Hp.get, Hp.app, Hp.set, eqAll, eq1, lookA, resA, rvA, fin, AV.i, AV.b, AV.s, beq_int, bne_int, emp_is, emp_iff, runD, step2, clash, apartFP, Pr.log, roW', A40M0_eq, q2, hF]

theorem loop72 (call : Nat → List AV → Hp → Option (AV × Hp)) (n : Nat) (l : List Col) (hs : l.length < 2 ^ 63) (m i nx : Nat) (hi : i ≤ l.length) (hm : l.length - i < m) :
    ∃ e st, iter (acode call n A72L0) 0 A72M0 m (A72H0 (roC l) (roC l) (.i i), ⟨[], [], nx⟩) = some (e, st) ∧ LR 0 4 26 [] [] none e st := by
  refine loop_list (f := acode call n A72L0) (k := 0) (M := A72M0) l (fun i (_ : Unit) nx => (A72H0 (roC l) (roC l) (.i i), ⟨[], [], nx⟩)) (fun _ _ => True) (fun i r _ e st => LR 0 4 26 [] [] none e st) ?_ ?_ m i () nx hi hm trivial
  · intro _ nx _
    have hb : acode call n A72L0 (A72H0 (roC l) (roC l) (.i l.length), ⟨[], [], nx⟩) = acode call n A72L0 (A72H0 (roC l) (roC l) (.i l.length), ⟨[], [], nx⟩) := rfl
    conv at hb => rhs; simp [acode, runOps, step1, aop, wantedA, ev, put, opened, binV, binInt, binStr, app_v, Pr.run, Pr.map, Pr.bind, Pr.mapP, loadA, storeA, cellsVal, Pr.ofOption, cells, fillA, splice, nz, dr, cln, flat, one, bnd, slA, items, appA, Hp.get, Hp.app, Hp.set, eqAll, eq1, lookA, resA, rvA, fin, AV.i, AV.b, AV.s, beq_int, bne_int, emp_is, emp_iff, runD, step2, clash, apartFP, Pr.log, A72L0]
    exact ⟨_, _, by simp, hb, by simp [LR]⟩
  · intro i hi a _ nx hg _
    have hw := wrap_nat i (by omega)
    have hb : acode call n A72L0 (A72H0 (roC l) (roC l) (.i i), ⟨[], [], nx⟩) = acode call n A72L0 (A72H0 (roC l) (roC l) (.i i), ⟨[], [], nx⟩) := rfl
    conv at hb => rhs; simp [acode, runOps, step1, aop, wantedA, ev, put, opened, binV, binInt, binStr, app_v, Pr.run, Pr.map, Pr.bind, Pr.mapP, loadA, storeA, cellsVal, Pr.ofOption, cells, fillA, splice, nz, dr, cln, flat, one, bnd, slA, items, appA, Hp.get, Hp.app, Hp.set, eqAll, eq1, lookA, resA, rvA, fin, AV.i, AV.b, AV.s, beq_int, bne_int, emp_is, emp_iff, runD, step2, clash, apartFP, Pr.log, A72L0, Col.e, hi, hg, hw, ba_self]
    exact .inl ⟨_, (), _, hb, by simp [trunc, mask, A72M0]; rfl, trivial, fun e st h => h⟩

theorem e72 (l : List Col) (hs : l.length < 2 ^ 63) : Is code ext 1 72 [roC l, roC l] (.b true) := by
  refine Is.step code ext c72 fun n hn => ?_
  obtain ⟨e, st, q2, q3⟩ := loop72 (run1 code ext n) n l hs n 0 7 (Nat.zero_le _) (by omega)
  simp only [Int.natCast_zero, roC] at q2
  obtain ⟨F, bs, nx, rfl, rfl, hF, _⟩ := q3.exit
  simp [A72, acode, runOps, step1, aop, wantedA, ev, put, opened, binV, binInt, binStr, app_v, Pr.run, Pr.map, Pr.bind, Pr.mapP, loadA, storeA, cellsVal, Pr.ofOption, cells, fillA, splice, nz, dr, cln, flat, one, bnd, slA, items, appA, Hp.get, Hp.app, Hp.set, eqAll, eq1, lookA, resA, rvA, fin, AV.i, AV.b, AV.s, beq_int, bne_int, emp_is, emp_iff, runD, step2, clash, apartFP, Pr.log, roC, A72M0_eq, q2, hF]

/-- Lists that a counter can count. -/
structure Sz (s : Sto) : Prop where
  c : s.cols.length < 2 ^ 63
  v : s.vers.length < 2 ^ 63
  o : s.opn.length < 2 ^ 63
  vv : ∀ v ∈ s.vers, v.vals.length < 2 ^ 63
  ow : ∀ t ∈ s.opn, t.writes.length < 2 ^ 63
  ov : ∀ t ∈ s.opn, ∀ w ∈ t.writes, w.vals.length < 2 ^ 63

theorem e50 (s : Sto) (hs : Sz s) : Is code ext 4 50 [.agg s.e, .agg s.e] (.b true) := by
  refine Is.step code ext c50 fun n hn => ?_
  have h1 := e72 s.cols hs.c n (by omega)
  have h2 := e39 s.vers hs.v hs.vv n (by omega)
  simp only [roC, roV'] at h1 h2
  simp [A50, acode, runOps, step1, aop, wantedA, ev, put, opened, binV, binInt, binStr, app_v, Pr.run, Pr.map, Pr.bind, Pr.mapP, loadA, storeA, cellsVal, Pr.ofOption, cells, fillA, splice, nz, dr, cln, flat, one, bnd, slA, items, appA, Hp.get, Hp.app, Hp.set, eqAll, eq1, lookA, resA, rvA, fin, AV.i, AV.b, AV.s, beq_int, bne_int, emp_is, emp_iff, runD, step2, clash, apartFP, Pr.log, Sto.e, h1, h2]

theorem loop13 (n : Nat) (hn : 2 ^ 64 + 4 ≤ n) (s : Sto) (hs : Sz s) (m i nx : Nat) (hi : i ≤ s.opn.length) (hm : s.opn.length - i < m) :
    ∃ e st, iter (acode (run1 code ext n) n A13L0) 2 A13M0 m (A13H0 (.ptr 0 0 0) (.ptr 1 1 0) (.i i), ⟨[.box 0 s.e, .box 1 s.e], [], nx⟩) = some (e, st) ∧ LR 0 4 77 [] [] none e st := by
  have ho := hs.o
  refine loop_list (f := acode (run1 code ext n) n A13L0) (k := 2) (M := A13M0) s.opn (fun i (_ : Unit) nx => (A13H0 (.ptr 0 0 0) (.ptr 1 1 0) (.i i), ⟨[.box 0 s.e, .box 1 s.e], [], nx⟩)) (fun _ _ => True) (fun i r _ e st => LR 0 4 77 [] [] none e st) ?_ ?_ m i () nx hi hm trivial
  · intro _ nx _
    have hb : acode (run1 code ext n) n A13L0 (A13H0 (.ptr 0 0 0) (.ptr 1 1 0) (.i s.opn.length), ⟨[.box 0 s.e, .box 1 s.e], [], nx⟩) = acode (run1 code ext n) n A13L0 (A13H0 (.ptr 0 0 0) (.ptr 1 1 0) (.i s.opn.length), ⟨[.box 0 s.e, .box 1 s.e], [], nx⟩) := rfl
    conv at hb => rhs; simp [acode, runOps, step1, aop, wantedA, ev, put, opened, binV, binInt, binStr, app_v, Pr.run, Pr.map, Pr.bind, Pr.mapP, loadA, storeA, cellsVal, Pr.ofOption, cells, fillA, splice, nz, dr, cln, flat, one, bnd, slA, items, appA, Hp.get, Hp.app, Hp.set, eqAll, eq1, lookA, resA, rvA, fin, AV.i, AV.b, AV.s, beq_int, bne_int, emp_is, emp_iff, runD, step2, clash, apartFP, Pr.log, A13L0, Sto.e]
    exact ⟨_, _, by simp, hb, by simp [LR]⟩
  · intro i hi a _ nx hg _
    have hw := wrap_nat i (by omega)
    have hmem : a ∈ s.opn := by rw [← hg]; exact List.getElem_mem _
    have h := e40 a.writes (hs.ow a hmem) (hs.ov a hmem) n (by omega)
    simp only [roW'] at h
    have hb : acode (run1 code ext n) n A13L0 (A13H0 (.ptr 0 0 0) (.ptr 1 1 0) (.i i), ⟨[.box 0 s.e, .box 1 s.e], [], nx⟩) = acode (run1 code ext n) n A13L0 (A13H0 (.ptr 0 0 0) (.ptr 1 1 0) (.i i), ⟨[.box 0 s.e, .box 1 s.e], [], nx⟩) := rfl
    conv at hb => rhs; simp [acode, runOps, step1, aop, wantedA, ev, put, opened, binV, binInt, binStr, app_v, Pr.run, Pr.map, Pr.bind, Pr.mapP, loadA, storeA, cellsVal, Pr.ofOption, cells, fillA, splice, nz, dr, cln, flat, one, bnd, slA, items, appA, Hp.get, Hp.app, Hp.set, eqAll, eq1, lookA, resA, rvA, fin, AV.i, AV.b, AV.s, beq_int, bne_int, emp_is, emp_iff, runD, step2, clash, apartFP, Pr.log, A13L0, Sto.e, Tr.e, hi, hg, hw, h]
    exact .inl ⟨_, (), _, hb, by simp [trunc, mask, A13M0, Sto.e]; rfl, trivial, fun e st h => h⟩

theorem e13 (s : Sto) (hs : Sz s) : Is code ext 5 13 [.agg s.e, .agg s.e] (.b true) := by
  refine Is.step code ext c13 fun n hn => ?_
  have ho := hs.o
  have h1 := e50 s hs n (by omega)
  obtain ⟨e, st, q2, q3⟩ := loop13 n hn s hs n 0 24 (Nat.zero_le _) (by omega)
  simp only [Int.natCast_zero, Sto.e] at q2 h1
  obtain ⟨F, bs, nx, rfl, rfl, hF, _⟩ := q3.exit
  simp [A13, acode, runOps, step1, aop, wantedA, ev, put, opened, binV, binInt, binStr, app_v, Pr.run, Pr.map, Pr.bind, Pr.mapP, loadA, storeA, cellsVal, Pr.ofOption, cells, fillA, splice, nz, dr, cln, flat, one, bnd, slA, items, appA, Hp.get, Hp.app, Hp.set, eqAll, eq1, lookA, resA, rvA, fin, AV.i, AV.b, AV.s, beq_int, bne_int, emp_is, emp_iff, runD, step2, clash, apartFP, Pr.log, Sto.e, A13M0_eq, q2, h1, hF]
end Go.Pv

namespace Go.Pv
open Go
set_option maxRecDepth 100000
set_option maxHeartbeats 8000000

theorem appA_all {E : OpE} {sz bytes : Nat} {x : AV} {ys : List (List AV)} (h : ys.all (fun c => c.length == sz && c.all one) = true) : appA E sz bytes x ys = match x with
    | .nils => if ys.length = 0 then .ret { v := .nils } else if ys.length ≤ roomMax ∧ ys.length * bytes ≤ roomMax then .ret { v := .own E.nr E.u 0 ys.length, nw := [.row E.u sz ys] } else .fail
    | .emp => if ys.length = 0 then .ret { v := .emp } else if ys.length ≤ roomMax ∧ ys.length * bytes ≤ roomMax then .ret { v := .own E.nr E.u 0 ys.length, nw := [.row E.u sz ys] } else .fail
    | .own r u s n => .get (.r r) fun
      | .row u' sz' xs =>
        if u = u' ∧ sz' = sz ∧ s + n ≤ xs.length then
          if s + n + ys.length ≤ xs.length then .ret { v := .own r u s (n + ys.length), wr := [(.r r, .row u sz (xs.take (s + n) ++ ys ++ xs.drop (s + n + ys.length)))] }
          else if n + ys.length ≤ roomMax ∧ (n + ys.length) * bytes ≤ roomMax then .ret { v := .own r E.u 0 (n + ys.length), wr := [(.r r, .row E.u sz ((xs.drop s).take n ++ ys))] }
          else .fail
        else .fail
      | _ => .fail
    | _ => .fail := by
  unfold appA; rw [if_pos h]; cases x <;> rfl

theorem cloneE_ro (sz bytes : Nat) (zero : List AV) (f : Nat) (xs : List (List AV)) (hall : xs.all (fun c => c.length == sz && c.all one) = true) (hr : xs.length ≤ roomMax ∧ xs.length * bytes ≤ roomMax) (rs : List Ob) (nx : Nat) :
    ∃ v t nx', cloneE sz bytes zero f [.ro xs] ⟨[], rs, nx⟩ = some (v, ⟨[], rs ++ t, nx'⟩) ∧ ((xs = [] ∧ v = .nils ∧ t = []) ∨ (0 < xs.length ∧ ∃ u, v = .own rs.length u 0 xs.length ∧ t = [.row u sz xs])) := by
  cases xs with
  | nil => exact ⟨.nils, [], nx + 7, by simp [cloneE], .inl ⟨rfl, rfl, rfl⟩⟩
  | cons x l =>
    have ha := fun E X => appA_all (E := E) (bytes := bytes) (x := X) hall
    obtain ⟨hr1, hr2⟩ := hr
    generalize hxs : x :: l = xs at *
    have hne : ¬ xs.length = 0 := by rw [← hxs]; simp
    have hne2 : ¬ xs = [] := by rw [← hxs]; simp
    have hrun : absCall (fun g => if g = f then some (cloneA sz bytes zero) else none) (fun _ => none) 2 f [.ro xs] ⟨[], rs, nx⟩ = some (.own rs.length (nx + 1 + 2 + 2) 0 xs.length, ⟨[], rs ++ [.row (nx + 1 + 2 + 2) sz xs], nx + 1 + 2 + 4⟩) := by
      subst hxs
      have hr1' : l.length + 1 ≤ roomMax := hr1
      have hr2' : (l.length + 1) * bytes ≤ roomMax := hr2
      simp [absCall, cloneA, acode, runOps, step1, aop, wantedA, ev, put, opened, Pr.run, resA, rvA, items, Pr.bind, ha, hr1', hr2', Hp.app]
    refine ⟨_, [.row (nx + 1 + 2 + 2) sz xs], nx + 1 + 2 + 4, ?_, .inr ⟨by omega, _, rfl, rfl⟩⟩
    rw [← hrun]
    subst hxs
    rfl

theorem c42r (n : Nat) (args : List AV) (h : Hp) : run1 code ext (n + 1) 42 args h = cloneE 2 24 [.v (.string ⟨#[]⟩), .v (.int .i64 0)] 42 args h := rfl
theorem c91r (n : Nat) (args : List AV) (h : Hp) : run1 code ext (n + 1) 91 args h = cloneE 4 48 [.v (.int .i64 0), .v (.int .i64 0), .v (.int .i64 0), .nils] 91 args h := rfl
theorem c92r (n : Nat) (args : List AV) (h : Hp) : run1 code ext (n + 1) 92 args h = cloneE 3 40 [.v (.int .i64 0), .v (.int .i64 0), .nils] 92 args h := rfl
theorem c93r (n : Nat) (args : List AV) (h : Hp) : run1 code ext (n + 1) 93 args h = cloneE 3 40 [.v (.int .i64 0), .v (.int .i64 0), .nils] 93 args h := rfl

theorem one_all {α : Type} (enc : α → List AV) (sz : Nat) (h : ∀ x, ((enc x).length == sz && (enc x).all one) = true) (l : List α) : (l.map enc).all (fun c => c.length == sz && c.all one) = true := by
  rw [List.all_map, List.all_eq_true]
  intro x _
  exact h x
theorem one_col (l : List Col) : (l.map Col.e).all (fun c => c.length == 2 && c.all one) = true := one_all Col.e 2 (fun x => by simp [Col.e, one]) l
theorem one_ver (l : List Ver) : (l.map Ver.e).all (fun c => c.length == 4 && c.all one) = true := one_all Ver.e 4 (fun x => by simp [Ver.e, eVals, one]) l
theorem one_tr (l : List Tr) : (l.map Tr.e).all (fun c => c.length == 3 && c.all one) = true := one_all Tr.e 3 (fun x => by simp [Tr.e, one]) l
theorem one_wr (l : List Wr) : (l.map Wr.e).all (fun c => c.length == 3 && c.all one) = true := one_all Wr.e 3 (fun x => by simp [Wr.e, eVals, one]) l
theorem one_val (l : List Val) : (l.map Val.e).all (fun c => c.length == 3 && c.all one) = true := one_all Val.e 3 (fun x => by simp [Val.e, one]) l

theorem mapP_plain' {α : Type} {enc : α → List AV} (h : ∀ k x, Pr.mapP (dr (k + 1)) (enc x) = .ret (enc x)) (k : Nat) : ∀ (l : List α), Pr.mapP (Pr.mapP (dr (k + 1))) (l.map enc) = .ret (l.map enc)
  | [] => rfl
  | x :: l => by
    rw [List.map_cons]
    unfold Pr.mapP
    rw [h k x]
    simp only [Pr.bind]
    rw [mapP_plain' h k l]
    simp only [Pr.bind]
theorem mp_val (k : Nat) (l : List Val) : Pr.mapP (Pr.mapP (dr (k + 1))) (l.map Val.e) = .ret (l.map Val.e) := mapP_plain' (enc := Val.e) (fun k x => by simp [Val.e, Pr.mapP, dr, Pr.bind]) k l
theorem mp_col (k : Nat) (l : List Col) : Pr.mapP (Pr.mapP (dr (k + 1))) (l.map Col.e) = .ret (l.map Col.e) := mapP_plain' (enc := Col.e) (fun k x => by simp [Col.e, Pr.mapP, dr, Pr.bind]) k l
theorem mp_ver (k : Nat) (l : List Ver) : Pr.mapP (Pr.mapP (dr (k + 1))) (l.map Ver.e) = .ret (l.map Ver.e) := mapP_plain' (enc := Ver.e) (fun k x => by simp [Ver.e, eVals, Pr.mapP, dr, Pr.bind]) k l
theorem mp_tr (k : Nat) (l : List Tr) : Pr.mapP (Pr.mapP (dr (k + 1))) (l.map Tr.e) = .ret (l.map Tr.e) := mapP_plain' (enc := Tr.e) (fun k x => by simp [Tr.e, Pr.mapP, dr, Pr.bind]) k l
theorem mp_wr (k : Nat) (l : List Wr) : Pr.mapP (Pr.mapP (dr (k + 1))) (l.map Wr.e) = .ret (l.map Wr.e) := mapP_plain' (enc := Wr.e) (fun k x => by simp [Wr.e, eVals, Pr.mapP, dr, Pr.bind]) k l

theorem tk_all {α β : Type} (f : α → β) (l : List α) : (l.map f).take l.length = l.map f := by
  rw [← List.length_map (f := f), List.take_length]

theorem e57 (l : List Val) (hl : l.length < 2 ^ 30) : Is code ext 1 57 [eVals l] (eVals l) := by
  refine Is.step code ext c57 fun n hn => ?_
  have ha := fun E X => appA_all (E := E) (bytes := 32) (x := X) (one_val l)
  have hr1 : l.length ≤ roomMax := by unfold roomMax; omega
  have hr2 : l.length * 32 ≤ roomMax := by unfold roomMax; omega
  have tk := tk_all Val.e l
  have mp := mp_val 4 l
  rcases Nat.eq_zero_or_pos l.length with h0 | h0
  · obtain rfl := List.length_eq_zero_iff.1 h0
    simp [A57, acode, runOps, step1, aop, wantedA, ev, put, opened, binV, binInt, binStr, app_v, Pr.run, Pr.map, Pr.bind, Pr.mapP, loadA, storeA, cellsVal, Pr.ofOption, cells, fillA, splice, nz, dr, cln, flat, one, bnd, slA, items, appA, Hp.get, Hp.app, Hp.set, eqAll, eq1, lookA, resA, rvA, fin, AV.i, AV.b, AV.s, beq_int, bne_int, emp_is, emp_iff, runD, step2, clash, apartFP, Pr.log, eVals]
  · have h0' : ¬ l = [] := fun h => by rw [h] at h0; simp at h0
    simp [A57, acode, runOps, step1, aop, wantedA, ev, put, opened, binV, binInt, binStr, app_v, Pr.run, Pr.map, Pr.bind, Pr.mapP, loadA, storeA, cellsVal, Pr.ofOption, cells, fillA, splice, nz, dr, cln, flat, one, bnd, slA, items, Hp.get, Hp.app, Hp.set, eqAll, eq1, lookA, resA, rvA, fin, AV.i, AV.b, AV.s, beq_int, bne_int, emp_is, emp_iff, runD, step2, clash, apartFP, Pr.log, eVals, ha, hr1, hr2, h0', tk, mp]

def emptySto : Sto := ⟨[], [], 0, 0, 0, 0, []⟩
def newSto (c : List Col) : Sto := ⟨c, [], 0, 1, 1, 0, []⟩
def emptyS (c : List Col) : Sto := if ckCols c = 0 then newSto c else emptySto

theorem ckCols_len' {c : List Col} (h : ckCols c = 0) : c.length ≤ 20 ∧ 0 < c.length := by
  unfold ckCols at h
  split at h
  · omega
  · split at h <;> omega

theorem e9 (c : List Col) : Is code ext 5 9 [roC c] (.tup [.agg (emptyS c).e, .i (ckCols c)]) := by
  refine Is.step code ext c9 fun n hn => ?_
  have h1 := e41 c n (by omega)
  simp only [roC] at h1
  unfold emptyS
  by_cases q : ckCols c = 0
  · rw [q] at h1
    obtain ⟨hc1, hc2⟩ := ckCols_len' q
    obtain ⟨n, rfl⟩ : ∃ m, n = m + 1 := ⟨n - 1, by omega⟩
    obtain ⟨v, t, nx', h2, h3⟩ := cloneE_ro 2 24 [.v (.string ⟨#[]⟩), .v (.int .i64 0)] 42 (c.map Col.e) (one_col c) ⟨by simp; unfold roomMax; omega, by simp; unfold roomMax; omega⟩ [] (2 + 3 + 2 + 5)
    rcases h3 with ⟨h3, _⟩ | ⟨_, u, rfl, rfl⟩
    · rw [List.map_eq_nil_iff] at h3; rw [h3] at hc2; simp at hc2
    · rw [← c42r n] at h2
      simp only [List.length_map, List.length_nil, List.nil_append] at h2
      have tk := tk_all Col.e c
      have mp := mp_col 2 c
      rw [if_pos q]
      simp [A9, acode, runOps, step1, aop, wantedA, ev, put, opened, binV, binInt, binStr, app_v, Pr.run, Pr.map, Pr.bind, Pr.mapP, loadA, storeA, cellsVal, Pr.ofOption, cells, fillA, splice, nz, dr, cln, flat, one, bnd, slA, items, appA, Hp.get, Hp.app, Hp.set, eqAll, eq1, lookA, resA, rvA, fin, AV.i, AV.b, AV.s, beq_int, bne_int, emp_is, emp_iff, runD, step2, clash, apartFP, Pr.log, roC, h1, h2, newSto, Sto.e, tk, mp, q]
  · rw [if_neg q]
    simp [A9, acode, runOps, step1, aop, wantedA, ev, put, opened, binV, binInt, binStr, app_v, Pr.run, Pr.map, Pr.bind, Pr.mapP, loadA, storeA, cellsVal, Pr.ofOption, cells, fillA, splice, nz, dr, cln, flat, one, bnd, slA, items, appA, Hp.get, Hp.app, Hp.set, eqAll, eq1, lookA, resA, rvA, fin, AV.i, AV.b, AV.s, beq_int, bne_int, emp_is, emp_iff, runD, step2, clash, apartFP, Pr.log, roC, h1, q, emptySto, Sto.e]

theorem e10 (c : List Col) (hc : ∀ x ∈ c, x.name.size < 2 ^ 63) : Is code ext 5 10 [roC c] (.tup [.agg (emptyS c).e, .i (ckCols c)]) := by
  refine Is.step code ext c10 fun n hn => ?_
  have h1 := e43 c hc n (by omega)
  simp only [roC] at h1
  unfold emptyS
  by_cases q : ckCols c = 0
  · rw [q] at h1
    rw [if_pos q]
    simp [A10, acode, runOps, step1, aop, wantedA, ev, put, opened, binV, binInt, binStr, app_v, Pr.run, Pr.map, Pr.bind, Pr.mapP, loadA, storeA, cellsVal, Pr.ofOption, cells, fillA, splice, nz, dr, cln, flat, one, bnd, slA, items, appA, Hp.get, Hp.app, Hp.set, eqAll, eq1, lookA, resA, rvA, fin, AV.i, AV.b, AV.s, beq_int, bne_int, emp_is, emp_iff, runD, step2, clash, apartFP, Pr.log, roC, h1, newSto, Sto.e, q]
  · rw [if_neg q]
    simp [A10, acode, runOps, step1, aop, wantedA, ev, put, opened, binV, binInt, binStr, app_v, Pr.run, Pr.map, Pr.bind, Pr.mapP, loadA, storeA, cellsVal, Pr.ofOption, cells, fillA, splice, nz, dr, cln, flat, one, bnd, slA, items, appA, Hp.get, Hp.app, Hp.set, eqAll, eq1, lookA, resA, rvA, fin, AV.i, AV.b, AV.s, beq_int, bne_int, emp_is, emp_iff, runD, step2, clash, apartFP, Pr.log, roC, h1, q, emptySto, Sto.e]

theorem e18 : Is code ext 6 18 [] (.b true) := by
  refine Is.step code ext c18 fun n hn => ?_
  have h1 := e9 [⟨⟨#[97]⟩, 2⟩] n (by omega)
  have hq : ckCols [⟨⟨#[97]⟩, 2⟩] = 0 := by decide +kernel
  rw [hq] at h1
  simp only [roC, emptyS, hq, if_pos, newSto, Sto.e, List.map_cons, List.map_nil, Col.e] at h1
  simp [A18, acode, runOps, step1, aop, wantedA, ev, put, opened, binV, binInt, binStr, app_v, Pr.run, Pr.map, Pr.bind, Pr.mapP, loadA, storeA, cellsVal, Pr.ofOption, cells, fillA, splice, nz, dr, cln, flat, one, bnd, slA, items, appA, Hp.get, Hp.app, Hp.set, eqAll, eq1, lookA, resA, rvA, fin, AV.i, AV.b, AV.s, beq_int, bne_int, emp_is, emp_iff, runD, step2, clash, apartFP, Pr.log, h1]
end Go.Pv

namespace Go.Pv
open Go
set_option maxRecDepth 100000
set_option maxHeartbeats 8000000

abbrev roTr (l : List Tr) : AV := .ro (l.map Tr.e)
def idxS (l : List Tr) (id : Int) : Option Nat := l.findIdx? (·.id == id)
def idxI (l : List Tr) (id : Int) : Int := match idxS l id with
  | some k => k
  | none => -1
def idxFrom (i : Nat) (l : List Tr) (id : Int) : Option AV := match l.findIdx? (·.id == id) with
  | some k => some (.i ((i + k : Nat) : Int))
  | none => none
theorem idxFrom_nil (i : Nat) (row : Int) : idxFrom i [] row = none := rfl
theorem idxFrom_hit (i : Nat) (x : Tr) (r : List Tr) (row : Int) (h : x.id = row) : idxFrom i (x :: r) row = some (.i i) := by simp [idxFrom, List.findIdx?_cons, h]
theorem idxFrom_miss (i : Nat) (x : Tr) (r : List Tr) (row : Int) (h : ¬ x.id = row) : idxFrom i (x :: r) row = idxFrom (i + 1) r row := by
  unfold idxFrom
  rw [List.findIdx?_cons, if_neg (by simpa using h)]
  cases r.findIdx? (fun x => x.id == row) with
  | none => rfl
  | some k => simp; omega
theorem idxFrom_zero (l : List Tr) (row : Int) : idxFrom 0 l row = none ∧ idxI l row = -1 ∧ idxS l row = none ∨ ∃ k, idxFrom 0 l row = some (.i (k : Nat)) ∧ idxI l row = k ∧ idxS l row = some k ∧ k < l.length := by
  unfold idxFrom idxI idxS
  cases h : l.findIdx? (fun x => x.id == row) with
  | none => exact .inl ⟨rfl, rfl, rfl⟩
  | some k => exact .inr ⟨k, by simp, rfl, rfl, (List.findIdx?_eq_some_iff_getElem.1 h).1⟩

theorem loop54 (call : Nat → List AV → Hp → Option (AV × Hp)) (n : Nat) (s : Sto) (id : Int) (hs : s.opn.length < 2 ^ 62) (m i nx : Nat) (hi : i ≤ s.opn.length) (hm : s.opn.length - i < m) :
    ∃ e st, iter (acode call n A54L0) 1 A54M0 m (A54H0 (.i id) (.ptr 0 0 0) (.i i), ⟨[.box 0 s.e], [], nx⟩) = some (e, st) ∧ LR 0 4 22 [] [] (idxFrom i (s.opn.drop i) id) e st := by
  refine loop_list (f := acode call n A54L0) (k := 1) (M := A54M0) s.opn (fun i (_ : Unit) nx => (A54H0 (.i id) (.ptr 0 0 0) (.i i), ⟨[.box 0 s.e], [], nx⟩)) (fun _ _ => True) (fun i r _ e st => LR 0 4 22 [] [] (idxFrom i r id) e st) ?_ ?_ m i () nx hi hm trivial
  · intro _ nx _
    have hb : acode call n A54L0 (A54H0 (.i id) (.ptr 0 0 0) (.i s.opn.length), ⟨[.box 0 s.e], [], nx⟩) = acode call n A54L0 (A54H0 (.i id) (.ptr 0 0 0) (.i s.opn.length), ⟨[.box 0 s.e], [], nx⟩) := rfl
    conv at hb => rhs; simp [acode, runOps, step1, aop, wantedA, ev, put, opened, binV, binInt, binStr, app_v, Pr.run, Pr.map, Pr.bind, Pr.mapP, loadA, storeA, cellsVal, Pr.ofOption, cells, fillA, splice, nz, dr, cln, flat, one, bnd, slA, items, appA, Hp.get, Hp.app, Hp.set, eqAll, eq1, lookA, resA, rvA, fin, AV.i, AV.b, AV.s, beq_int, bne_int, emp_is, emp_iff, runD, step2, clash, apartFP, Pr.log, A54L0, Sto.e]
    exact ⟨_, _, by simp, hb, by simp [LR, idxFrom_nil]⟩
  · intro i hi v _ nx hg _
    have hw := wrap_nat i (by omega)
    by_cases q : v.id = id
    · have qx : (v.id = id) = True := eq_true q
      have hb : acode call n A54L0 (A54H0 (.i id) (.ptr 0 0 0) (.i i), ⟨[.box 0 s.e], [], nx⟩) = acode call n A54L0 (A54H0 (.i id) (.ptr 0 0 0) (.i i), ⟨[.box 0 s.e], [], nx⟩) := rfl
      conv at hb => rhs; simp [acode, runOps, step1, aop, wantedA, ev, put, opened, binV, binInt, binStr, app_v, Pr.run, Pr.map, Pr.bind, Pr.mapP, loadA, storeA, cellsVal, Pr.ofOption, cells, fillA, splice, nz, dr, cln, flat, one, bnd, slA, items, appA, Hp.get, Hp.app, Hp.set, eqAll, eq1, lookA, resA, rvA, fin, AV.i, AV.b, AV.s, beq_int, bne_int, emp_is, emp_iff, runD, step2, clash, apartFP, Pr.log, A54L0, Sto.e, Tr.e, hi, hg, hw, qx]
      exact .inr ⟨.ret, _, by simp, hb, by simp [LR, idxFrom_hit _ _ _ _ q]⟩
    · have hb : acode call n A54L0 (A54H0 (.i id) (.ptr 0 0 0) (.i i), ⟨[.box 0 s.e], [], nx⟩) = acode call n A54L0 (A54H0 (.i id) (.ptr 0 0 0) (.i i), ⟨[.box 0 s.e], [], nx⟩) := rfl
      conv at hb => rhs; simp [acode, runOps, step1, aop, wantedA, ev, put, opened, binV, binInt, binStr, app_v, Pr.run, Pr.map, Pr.bind, Pr.mapP, loadA, storeA, cellsVal, Pr.ofOption, cells, fillA, splice, nz, dr, cln, flat, one, bnd, slA, items, appA, Hp.get, Hp.app, Hp.set, eqAll, eq1, lookA, resA, rvA, fin, AV.i, AV.b, AV.s, beq_int, bne_int, emp_is, emp_iff, runD, step2, clash, apartFP, Pr.log, A54L0, Sto.e, Tr.e, hi, hg, hw, q]
      exact .inl ⟨_, (), _, hb, by simp [trunc, mask, A54M0, Sto.e]; rfl, trivial, fun e st h => by rw [idxFrom_miss _ _ _ _ q]; exact h⟩

theorem e54 (s : Sto) (id : Int) (hs : s.opn.length < 2 ^ 62) : Is code ext 1 54 [.agg s.e, .i id] (.i (idxI s.opn id)) := by
  refine Is.step code ext c54 fun n hn => ?_
  obtain ⟨e, st, q2, q3⟩ := loop54 (run1 code ext n) n s id hs n 0 3 (Nat.zero_le _) (by omega)
  simp only [List.drop_zero] at q3
  simp only [Int.natCast_zero, Sto.e] at q2
  rcases idxFrom_zero s.opn id with ⟨h1, h2, _⟩ | ⟨k, h1, h2, _⟩
  · rw [h1] at q3
    obtain ⟨F, bs, nx, rfl, rfl, hF, _⟩ := q3.exit
    simp [A54, acode, runOps, step1, aop, wantedA, ev, put, opened, binV, binInt, binStr, app_v, Pr.run, Pr.map, Pr.bind, Pr.mapP, loadA, storeA, cellsVal, Pr.ofOption, cells, fillA, splice, nz, dr, cln, flat, one, bnd, slA, items, appA, Hp.get, Hp.app, Hp.set, eqAll, eq1, lookA, resA, rvA, fin, AV.i, AV.b, AV.s, beq_int, bne_int, emp_is, emp_iff, runD, step2, clash, apartFP, Pr.log, Sto.e, A54M0_eq, q2, hF, h2]
  · rw [h1] at q3
    obtain ⟨F, bs, nx, rfl, rfl, hF⟩ := q3.back
    simp [A54, acode, runOps, step1, aop, wantedA, ev, put, opened, binV, binInt, binStr, app_v, Pr.run, Pr.map, Pr.bind, Pr.mapP, loadA, storeA, cellsVal, Pr.ofOption, cells, fillA, splice, nz, dr, cln, flat, one, bnd, slA, items, appA, Hp.get, Hp.app, Hp.set, eqAll, eq1, lookA, resA, rvA, fin, AV.i, AV.b, AV.s, beq_int, bne_int, emp_is, emp_iff, runD, step2, clash, apartFP, Pr.log, Sto.e, A54M0_eq, q2, hF, h2]

theorem e107 (x : Tr) (id : Int) (b : Ob) (rs : List Ob) (n : Nat) (hn : 2 ^ 64 + 1 ≤ n) (nx : Nat) : ∃ nx', run1 code ext n 107 [.agg x.e, .ptr 1 1 0] ⟨[b, .box 1 [.i id]], rs, nx⟩ = some (.b (decide (x.id = id)), ⟨[b, .box 1 [.i id]], rs, nx'⟩) := by
  obtain ⟨n, rfl⟩ : ∃ m, n = m + 1 := ⟨n - 1, by omega⟩
  unfold run1 absCall
  simp only [c107, x107]
  have hb : acode (absCall code ext n) n A107.code ([.agg x.e, .ptr 1 1 0] ++ List.replicate (A107.nt - [AV.agg x.e, .ptr 1 1 0].length) .top, ⟨[b, .box 1 [.i id]], rs, nx⟩) = acode (absCall code ext n) n A107.code ([.agg x.e, .ptr 1 1 0] ++ List.replicate (A107.nt - [AV.agg x.e, .ptr 1 1 0].length) .top, ⟨[b, .box 1 [.i id]], rs, nx⟩) := rfl
  conv at hb => rhs; simp [acode, runOps, step1, aop, wantedA, ev, put, opened, binV, binInt, binStr, app_v, Pr.run, Pr.map, Pr.bind, Pr.mapP, loadA, storeA, cellsVal, Pr.ofOption, cells, fillA, splice, nz, dr, cln, flat, one, bnd, slA, items, appA, Hp.get, Hp.app, Hp.set, eqAll, eq1, lookA, resA, rvA, fin, AV.i, AV.b, AV.s, beq_int, bne_int, emp_is, emp_iff, runD, step2, clash, apartFP, Pr.log, A107, Tr.e]
  rw [hb]
  exact ⟨_, by simp [A107, resA, rvA]; rfl⟩

theorem loop106 (n : Nat) (hn : 2 ^ 64 + 1 ≤ n) (l : List Tr) (id : Int) (b : Ob) (hs : l.length < 2 ^ 62) (m i nx : Nat) (hi : i ≤ l.length) (hm : l.length - i < m) :
    ∃ e st, iter (acode (run1 code ext n) n A106L0) 2 A106M0 m (A106H0 (roTr l) (.fn 107 [.ptr 1 1 0]) (.i l.length) (.i i), ⟨[b, .box 1 [.i id]], [], nx⟩) = some (e, st) ∧ LQ 0 4 19 [] [b, .box 1 [.i id]] [] (idxFrom i (l.drop i) id) e st := by
  refine loop_list (f := acode (run1 code ext n) n A106L0) (k := 2) (M := A106M0) l (fun i (_ : Unit) nx => (A106H0 (roTr l) (.fn 107 [.ptr 1 1 0]) (.i l.length) (.i i), ⟨[b, .box 1 [.i id]], [], nx⟩)) (fun _ _ => True) (fun i r _ e st => LQ 0 4 19 [] [b, .box 1 [.i id]] [] (idxFrom i r id) e st) ?_ ?_ m i () nx hi hm trivial
  · intro _ nx _
    have hb : acode (run1 code ext n) n A106L0 (A106H0 (roTr l) (.fn 107 [.ptr 1 1 0]) (.i l.length) (.i l.length), ⟨[b, .box 1 [.i id]], [], nx⟩) = acode (run1 code ext n) n A106L0 (A106H0 (roTr l) (.fn 107 [.ptr 1 1 0]) (.i l.length) (.i l.length), ⟨[b, .box 1 [.i id]], [], nx⟩) := rfl
    conv at hb => rhs; simp [acode, runOps, step1, aop, wantedA, ev, put, opened, binV, binInt, binStr, app_v, Pr.run, Pr.map, Pr.bind, Pr.mapP, loadA, storeA, cellsVal, Pr.ofOption, cells, fillA, splice, nz, dr, cln, flat, one, bnd, slA, items, appA, Hp.get, Hp.app, Hp.set, eqAll, eq1, lookA, resA, rvA, fin, AV.i, AV.b, AV.s, beq_int, bne_int, emp_is, emp_iff, runD, step2, clash, apartFP, Pr.log, A106L0]
    exact ⟨_, _, by simp, hb, by simp [LQ, idxFrom_nil]⟩
  · intro i hi v _ nx hg _
    have hw := wrap_nat i (by omega)
    obtain ⟨nx', hc⟩ := e107 v id b [] n hn (nx + 1 + 2 + 6)
    simp only [Tr.e] at hc
    by_cases q : v.id = id
    · rw [decide_eq_true q] at hc
      have hb : acode (run1 code ext n) n A106L0 (A106H0 (roTr l) (.fn 107 [.ptr 1 1 0]) (.i l.length) (.i i), ⟨[b, .box 1 [.i id]], [], nx⟩) = acode (run1 code ext n) n A106L0 (A106H0 (roTr l) (.fn 107 [.ptr 1 1 0]) (.i l.length) (.i i), ⟨[b, .box 1 [.i id]], [], nx⟩) := rfl
      conv at hb => rhs; simp [acode, runOps, step1, aop, wantedA, ev, put, opened, binV, binInt, binStr, app_v, Pr.run, Pr.map, Pr.bind, Pr.mapP, loadA, storeA, cellsVal, Pr.ofOption, cells, fillA, splice, nz, dr, cln, flat, one, bnd, slA, items, appA, Hp.get, Hp.app, Hp.set, eqAll, eq1, lookA, resA, rvA, fin, AV.i, AV.b, AV.s, beq_int, bne_int, emp_is, emp_iff, runD, step2, clash, apartFP, Pr.log, A106L0, Tr.e, hi, hg, hw, hc]
      exact .inr ⟨.ret, _, by simp, hb, by simp [LQ, idxFrom_hit _ _ _ _ q]⟩
    · rw [decide_eq_false q] at hc
      have hb : acode (run1 code ext n) n A106L0 (A106H0 (roTr l) (.fn 107 [.ptr 1 1 0]) (.i l.length) (.i i), ⟨[b, .box 1 [.i id]], [], nx⟩) = acode (run1 code ext n) n A106L0 (A106H0 (roTr l) (.fn 107 [.ptr 1 1 0]) (.i l.length) (.i i), ⟨[b, .box 1 [.i id]], [], nx⟩) := rfl
      conv at hb => rhs; simp [acode, runOps, step1, aop, wantedA, ev, put, opened, binV, binInt, binStr, app_v, Pr.run, Pr.map, Pr.bind, Pr.mapP, loadA, storeA, cellsVal, Pr.ofOption, cells, fillA, splice, nz, dr, cln, flat, one, bnd, slA, items, appA, Hp.get, Hp.app, Hp.set, eqAll, eq1, lookA, resA, rvA, fin, AV.i, AV.b, AV.s, beq_int, bne_int, emp_is, emp_iff, runD, step2, clash, apartFP, Pr.log, A106L0, Tr.e, hi, hg, hw, hc]
      exact .inl ⟨_, (), _, hb, by simp [trunc, mask, A106M0]; rfl, trivial, fun e st h => by rw [idxFrom_miss _ _ _ _ q]; exact h⟩

theorem e106 (l : List Tr) (id : Int) (b : Ob) (hs : l.length < 2 ^ 62) (n : Nat) (hn : 2 ^ 64 + 2 ≤ n) (nx : Nat) : ∃ nx', run1 code ext n 106 [roTr l, .fn 107 [.ptr 1 1 0]] ⟨[b, .box 1 [.i id]], [], nx⟩ = some (.i (idxI l id), ⟨[b, .box 1 [.i id]], [], nx'⟩) := by
  obtain ⟨n, rfl⟩ : ∃ m, n = m + 1 := ⟨n - 1, by omega⟩
  obtain ⟨e, st, q2, q3⟩ := loop106 n (by omega) l id b hs n 0 (nx + 1 + 3) (Nat.zero_le _) (by omega)
  simp only [List.drop_zero] at q3
  simp only [Int.natCast_zero, roTr] at q2
  rw [show run1 code ext (n + 1) = absCall code ext (n + 1) from rfl]
  unfold absCall
  simp only [c106, x106]
  rw [show absCall code ext n = run1 code ext n from rfl]
  rcases idxFrom_zero l id with ⟨h1, h2, _⟩ | ⟨k, h1, h2, _⟩
  · rw [h1] at q3
    obtain ⟨F, nx', rfl, rfl, hF, _⟩ := q3.exit
    have hb : acode (run1 code ext n) n A106.code ([roTr l, .fn 107 [.ptr 1 1 0]] ++ List.replicate (A106.nt - [roTr l, AV.fn 107 [.ptr 1 1 0]].length) .top, ⟨[b, .box 1 [.i id]], [], nx⟩) = acode (run1 code ext n) n A106.code ([roTr l, .fn 107 [.ptr 1 1 0]] ++ List.replicate (A106.nt - [roTr l, AV.fn 107 [.ptr 1 1 0]].length) .top, ⟨[b, .box 1 [.i id]], [], nx⟩) := rfl
    conv at hb => rhs; simp [acode, runOps, step1, aop, wantedA, ev, put, opened, binV, binInt, binStr, app_v, Pr.run, Pr.map, Pr.bind, Pr.mapP, loadA, storeA, cellsVal, Pr.ofOption, cells, fillA, splice, nz, dr, cln, flat, one, bnd, slA, items, appA, Hp.get, Hp.app, Hp.set, eqAll, eq1, lookA, resA, rvA, fin, AV.i, AV.b, AV.s, beq_int, bne_int, emp_is, emp_iff, runD, step2, clash, apartFP, Pr.log, A106, roTr, A106M0_eq, q2, hF]
    rw [hb]
    exact ⟨_, by simp [A106, resA, rvA, hF, h2]; rfl⟩
  · rw [h1] at q3
    obtain ⟨F, nx', rfl, rfl, hF⟩ := q3.back
    have hb : acode (run1 code ext n) n A106.code ([roTr l, .fn 107 [.ptr 1 1 0]] ++ List.replicate (A106.nt - [roTr l, AV.fn 107 [.ptr 1 1 0]].length) .top, ⟨[b, .box 1 [.i id]], [], nx⟩) = acode (run1 code ext n) n A106.code ([roTr l, .fn 107 [.ptr 1 1 0]] ++ List.replicate (A106.nt - [roTr l, AV.fn 107 [.ptr 1 1 0]].length) .top, ⟨[b, .box 1 [.i id]], [], nx⟩) := rfl
    conv at hb => rhs; simp [acode, runOps, step1, aop, wantedA, ev, put, opened, binV, binInt, binStr, app_v, Pr.run, Pr.map, Pr.bind, Pr.mapP, loadA, storeA, cellsVal, Pr.ofOption, cells, fillA, splice, nz, dr, cln, flat, one, bnd, slA, items, appA, Hp.get, Hp.app, Hp.set, eqAll, eq1, lookA, resA, rvA, fin, AV.i, AV.b, AV.s, beq_int, bne_int, emp_is, emp_iff, runD, step2, clash, apartFP, Pr.log, A106, roTr, A106M0_eq, q2, hF]
    rw [hb]
    exact ⟨_, by simp [A106, resA, rvA, hF, h2]; rfl⟩

theorem e94 (s : Sto) (id : Int) (hs : s.opn.length < 2 ^ 62) : Is code ext 3 94 [.agg s.e, .i id] (.i (idxI s.opn id)) := by
  refine Is.step code ext c94 fun n hn => ?_
  obtain ⟨nx', hc⟩ := e106 s.opn id (.box 0 s.e) hs n (by omega) 8
  simp only [roTr, Sto.e] at hc
  simp [A94, acode, runOps, step1, aop, wantedA, ev, put, opened, binV, binInt, binStr, app_v, Pr.run, Pr.map, Pr.bind, Pr.mapP, loadA, storeA, cellsVal, Pr.ofOption, cells, fillA, splice, nz, dr, cln, flat, one, bnd, slA, items, appA, Hp.get, Hp.app, Hp.set, eqAll, eq1, lookA, resA, rvA, fin, AV.i, AV.b, AV.s, beq_int, bne_int, emp_is, emp_iff, runD, step2, clash, apartFP, Pr.log, Sto.e, hc]

theorem all_tr (l : List Tr) : (l.map Tr.e).all (fun x => x.length == 3) = true := by
  rw [List.all_map]; simp [Function.comp_def, Tr.e]

theorem e55 (s : Sto) (k : Nat) (hk : k < s.opn.length) (hs : s.opn.length ≤ 20) : Is code ext 1 55 [.agg s.e, .i k] (.agg ({ s with opn := s.opn.eraseIdx k }).e) := by
  refine Is.step code ext c55 fun n hn => ?_
  have hw := wrap_in ((k : Int) + 1) (by omega)
  have hT : ((k : Int) + 1).toNat = k + 1 := by omega
  have h0 : (0 : Int) ≤ (k : Int) + 1 := by omega
  have g1 : k ≤ s.opn.length := by omega
  have g2 : k + 1 ≤ s.opn.length := by omega
  have hal := all_tr s.opn
  have tk := tk_all Tr.e s.opn
  obtain ⟨a, ha⟩ : ∃ a, s.opn.take k = a := ⟨_, rfl⟩
  obtain ⟨d, hd⟩ : ∃ d, s.opn.drop (k + 1) = d := ⟨_, rfl⟩
  have ha1 : (s.opn.map Tr.e).take k = a.map Tr.e := by rw [← ha, List.map_take]
  have hd1 : (s.opn.map Tr.e).drop (k + 1) = d.map Tr.e := by rw [← hd, List.map_drop]
  have hal' : a.length = k := by rw [← ha, List.length_take]; omega
  have hdl : d.length = s.opn.length - (k + 1) := by rw [← hd, List.length_drop]
  have he : s.opn.eraseIdx k = a ++ d := by rw [List.eraseIdx_eq_take_drop_succ, ha, hd]
  rw [he]
  have oa := fun E X => appA_all (E := E) (bytes := 40) (x := X) (one_tr a)
  have od := fun E X => appA_all (E := E) (bytes := 40) (x := X) (one_tr d)
  have oz := fun E X => appA_all (E := E) (sz := 3) (bytes := 40) (x := X) (ys := []) rfl
  have tka := tk_all Tr.e a
  have tkd := tk_all Tr.e d
  have mpa := mp_tr 3 a
  have mpd := mp_tr 3 d
  have mpad := mp_tr 3 (a ++ d)
  rw [List.map_append] at mpad
  have r1 : a.length ≤ roomMax := by unfold roomMax; omega
  have r2 : a.length * 40 ≤ roomMax := by unfold roomMax; omega
  have r3 : d.length ≤ roomMax := by unfold roomMax; omega
  have r4 : d.length * 40 ≤ roomMax := by unfold roomMax; omega
  have r5 : a.length + d.length ≤ roomMax := by unfold roomMax; omega
  have r6 : (a.length + d.length) * 40 ≤ roomMax := by unfold roomMax; omega
  have tkad : List.take (a.length + d.length) (a.map Tr.e ++ d.map Tr.e) = a.map Tr.e ++ d.map Tr.e := List.take_of_length_le (by simp)
  rcases Nat.eq_zero_or_pos a.length with h1 | h1
  · obtain rfl := List.length_eq_zero_iff.1 h1
    rcases Nat.eq_zero_or_pos d.length with h2 | h2
    · obtain rfl := List.length_eq_zero_iff.1 h2
      simp [A55, acode, runOps, step1, aop, wantedA, ev, put, opened, binV, binInt, binStr, app_v, Pr.run, Pr.map, Pr.bind, Pr.mapP, loadA, storeA, cellsVal, Pr.ofOption, cells, fillA, splice, nz, dr, cln, flat, one, bnd, slA, items, appA, Hp.get, Hp.app, Hp.set, eqAll, eq1, lookA, resA, rvA, fin, AV.i, AV.b, AV.s, beq_int, bne_int, emp_is, emp_iff, runD, step2, clash, apartFP, Pr.log, Sto.e, hw, hT, h0, g1, g2, hal, tk, ha1, hd1]
    · have h2' : ¬ d = [] := fun h => by rw [h] at h2; simp at h2
      simp [A55, acode, runOps, step1, aop, wantedA, ev, put, opened, binV, binInt, binStr, app_v, Pr.run, Pr.map, Pr.bind, Pr.mapP, loadA, storeA, cellsVal, Pr.ofOption, cells, fillA, splice, nz, dr, cln, flat, one, bnd, slA, items, Hp.get, Hp.app, Hp.set, eqAll, eq1, lookA, resA, rvA, fin, AV.i, AV.b, AV.s, beq_int, bne_int, emp_is, emp_iff, runD, step2, clash, apartFP, Pr.log, Sto.e, hw, hT, h0, g1, g2, hal, tk, ha1, hd1, oa, od, oz, r3, r4, h2', tkd, mpd]
  · have h1' : ¬ a = [] := fun h => by rw [h] at h1; simp at h1
    rcases Nat.eq_zero_or_pos d.length with h2 | h2
    · obtain rfl := List.length_eq_zero_iff.1 h2
      simp [A55, acode, runOps, step1, aop, wantedA, ev, put, opened, binV, binInt, binStr, app_v, Pr.run, Pr.map, Pr.bind, Pr.mapP, loadA, storeA, cellsVal, Pr.ofOption, cells, fillA, splice, nz, dr, cln, flat, one, bnd, slA, items, Hp.get, Hp.app, Hp.set, eqAll, eq1, lookA, resA, rvA, fin, AV.i, AV.b, AV.s, beq_int, bne_int, emp_is, emp_iff, runD, step2, clash, apartFP, Pr.log, Sto.e, hw, hT, h0, g1, g2, hal, tk, ha1, hd1, oa, od, oz, r1, r2, h1', tka, mpa]
    · have h2' : ¬ d = [] := fun h => by rw [h] at h2; simp at h2
      have r7 : ¬ (a.length + d.length ≤ a.length) := by omega
      simp [A55, acode, runOps, step1, aop, wantedA, ev, put, opened, binV, binInt, binStr, app_v, Pr.run, Pr.map, Pr.bind, Pr.mapP, loadA, storeA, cellsVal, Pr.ofOption, cells, fillA, splice, nz, dr, cln, flat, one, bnd, slA, items, Hp.get, Hp.app, Hp.set, eqAll, eq1, lookA, resA, rvA, fin, AV.i, AV.b, AV.s, beq_int, bne_int, emp_is, emp_iff, runD, step2, clash, apartFP, Pr.log, Sto.e, hw, hT, h0, g1, g2, hal, tk, ha1, hd1, oa, od, oz, r1, r2, r5, r6, r7, h1', h2', tka, mpad, tkad]
end Go.Pv
