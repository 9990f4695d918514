/-
  What functions come to: versions. Conditions: none.
-/
import Derived.Test.YthncjbjlnligaaaPvI
set_option linter.unusedVariables false
set_option linter.unusedSimpArgs false
namespace Go.Pv
open Go
set_option maxRecDepth 100000
set_option maxHeartbeats 4000000

/-- A store whose numbers are in bounds. -/
structure Bd (s : Sto) : Prop where
  c : s.cols.length < 2 ^ 62
  v : s.vers.length < 2 ^ 20
  o : s.opn.length ≤ 20
  la : 0 ≤ s.last ∧ s.last ≤ 1000000
  nr : 1 ≤ s.nextRow ∧ s.nextRow ≤ 1000000
  nt : 1 ≤ s.nextTrans ∧ s.nextTrans ≤ 1000000
  vt : ∀ v ∈ s.vers, ∀ a ∈ v.vals, a.text.size < 2 ^ 63
  ot : ∀ t ∈ s.opn, ∀ w ∈ t.writes, ∀ a ∈ w.vals, a.text.size < 2 ^ 63

theorem wrap_pred (i : Nat) (h0 : 0 < i) (h : i < 2 ^ 62) : IntKind.i64.wrap ((i : Int) - 1) = ((i - 1 : Nat) : Int) := by
  rw [wrap_in _ (by omega)]; omega

theorem e86 (s : Sto) (hs : Bd s) (v : Ver) : Is code ext 6 86 [.agg s.e, .agg v.e] (.i (ckVer s v)) := by
  refine Is.step code ext c86 fun n hn => ?_
  have h1 := e44 v.row 1 (s.nextRow - 1) n (by omega)
  have h2 := e44 v.frm 1 s.last n (by omega)
  have h3 := e44 v.to (v.frm + 1) s.last n (by omega)
  have h4 := e56 s.cols v.vals hs.c n (by omega)
  have w1 : IntKind.i64.wrap (s.nextRow - 1) = s.nextRow - 1 := wrap_in _ (by have := hs.nr; omega)
  simp only [roC, eVals] at h4
  cases q1 : inB v.row 1 (s.nextRow - 1) with
  | false => rw [q1] at h1; simp [A86, acode, runOps, step1, aop, wantedA, ev, put, opened, binV, binInt, binStr, app_v, Pr.run, Pr.map, Pr.bind, Pr.mapP, loadA, storeA, cellsVal, Pr.ofOption, cells, fillA, splice, nz, dr, cln, flat, one, bnd, slA, items, appA, Hp.get, Hp.app, Hp.set, eqAll, eq1, lookA, resA, rvA, fin, AV.i, AV.b, AV.s, beq_int, bne_int, emp_is, emp_iff, runD, step2, clash, apartFP, Pr.log, Sto.e, Ver.e, eVals, w1, h1, ckVer, q1]
  | true =>
    rw [q1] at h1
    cases q2 : inB v.frm 1 s.last with
    | false => rw [q2] at h2; simp [A86, acode, runOps, step1, aop, wantedA, ev, put, opened, binV, binInt, binStr, app_v, Pr.run, Pr.map, Pr.bind, Pr.mapP, loadA, storeA, cellsVal, Pr.ofOption, cells, fillA, splice, nz, dr, cln, flat, one, bnd, slA, items, appA, Hp.get, Hp.app, Hp.set, eqAll, eq1, lookA, resA, rvA, fin, AV.i, AV.b, AV.s, beq_int, bne_int, emp_is, emp_iff, runD, step2, clash, apartFP, Pr.log, Sto.e, Ver.e, eVals, w1, h1, h2, ckVer, q1, q2]
    | true =>
      rw [q2] at h2
      by_cases q3 : v.to = 0
      · have q3x : (v.to = 0) = True := eq_true q3
        simp [A86, acode, runOps, step1, aop, wantedA, ev, put, opened, binV, binInt, binStr, app_v, Pr.run, Pr.map, Pr.bind, Pr.mapP, loadA, storeA, cellsVal, Pr.ofOption, cells, fillA, splice, nz, dr, cln, flat, one, bnd, slA, items, appA, Hp.get, Hp.app, Hp.set, eqAll, eq1, lookA, resA, rvA, fin, AV.i, AV.b, AV.s, beq_int, bne_int, emp_is, emp_iff, runD, step2, clash, apartFP, Pr.log, Sto.e, Ver.e, eVals, w1, h1, h2, h4, ckVer, q1, q2, q3x]
      · have w2 : IntKind.i64.wrap (v.frm + 1) = v.frm + 1 := wrap_in _ (by have := hs.la; simp [inB] at q2; omega)
        cases q4 : inB v.to (v.frm + 1) s.last with
        | false => rw [q4] at h3; simp [A86, acode, runOps, step1, aop, wantedA, ev, put, opened, binV, binInt, binStr, app_v, Pr.run, Pr.map, Pr.bind, Pr.mapP, loadA, storeA, cellsVal, Pr.ofOption, cells, fillA, splice, nz, dr, cln, flat, one, bnd, slA, items, appA, Hp.get, Hp.app, Hp.set, eqAll, eq1, lookA, resA, rvA, fin, AV.i, AV.b, AV.s, beq_int, bne_int, emp_is, emp_iff, runD, step2, clash, apartFP, Pr.log, Sto.e, Ver.e, eVals, w1, w2, h1, h2, h3, ckVer, q1, q2, q3, q4]
        | true =>
          rw [q4] at h3
          by_cases q5 : v.to ≤ s.swept
          · simp [A86, acode, runOps, step1, aop, wantedA, ev, put, opened, binV, binInt, binStr, app_v, Pr.run, Pr.map, Pr.bind, Pr.mapP, loadA, storeA, cellsVal, Pr.ofOption, cells, fillA, splice, nz, dr, cln, flat, one, bnd, slA, items, appA, Hp.get, Hp.app, Hp.set, eqAll, eq1, lookA, resA, rvA, fin, AV.i, AV.b, AV.s, beq_int, bne_int, emp_is, emp_iff, runD, step2, clash, apartFP, Pr.log, Sto.e, Ver.e, eVals, w1, w2, h1, h2, h3, ckVer, q1, q2, q3, q4, q5]
          · simp [A86, acode, runOps, step1, aop, wantedA, ev, put, opened, binV, binInt, binStr, app_v, Pr.run, Pr.map, Pr.bind, Pr.mapP, loadA, storeA, cellsVal, Pr.ofOption, cells, fillA, splice, nz, dr, cln, flat, one, bnd, slA, items, appA, Hp.get, Hp.app, Hp.set, eqAll, eq1, lookA, resA, rvA, fin, AV.i, AV.b, AV.s, beq_int, bne_int, emp_is, emp_iff, runD, step2, clash, apartFP, Pr.log, Sto.e, Ver.e, eVals, w1, w2, h1, h2, h3, h4, ckVer, q1, q2, q3, q4, q5]

theorem ckVersL_step (s : Sto) (p : Option Ver) (v : Ver) (r : List Ver) : ckVersL s p (v :: r) = if ckVer s v ≠ 0 then ckVer s v else if offOrder v p then 8 else ckVersL s (some v) r := rfl

theorem last_take {α : Type} {l : List α} {i : Nat} (h : i < l.length) : (l.take (i + 1)).getLast? = some l[i] := by
  rw [show l.take (i + 1) = l.take i ++ [l[i]] from (List.take_append_getElem h).symm]; exact List.getLast?_concat

theorem wrap_one : IntKind.i64.wrap 1 = 1 := by decide

/-- The ways two versions lie. -/
theorem off_cases (v b : Ver) (p : Prop) (h1 : v.frm < b.frm → offOrder v (some b) = true → p) (h2 : ¬ v.frm < b.frm → (v.frm = b.frm) = False → offOrder v (some b) = false → p)
    (h3 : ¬ v.frm < b.frm → (v.frm = b.frm) = True → (v.row ≤ b.row) = True → offOrder v (some b) = true → p) (h4 : ¬ v.frm < b.frm → (v.frm = b.frm) = True → (v.row ≤ b.row) = False → offOrder v (some b) = false → p) : p := by
  unfold offOrder at *
  by_cases a1 : v.frm < b.frm
  · exact h1 a1 (by simp [a1])
  · by_cases a2 : v.frm = b.frm
    · by_cases a3 : v.row ≤ b.row
      · exact h3 a1 (eq_true a2) (eq_true a3) (by simp [a2, a3])
      · exact h4 a1 (eq_true a2) (eq_false a3) (by simp [a2, a3])
    · exact h2 a1 (eq_false a2) (by simp [a1, a2])

abbrev roV (l : List Ver) : AV := .ro (l.map Ver.e)

theorem loop45a (n : Nat) (hn : 2 ^ 64 + 6 ≤ n) (s : Sto) (hs : Bd s) (m i nx : Nat) (hi : i ≤ s.vers.length) (hm : s.vers.length - i < m) :
    ∃ e st, iter (acode (run1 code ext n) n A45L0) 1 A45M0 m (A45H0 (.ptr 0 0 0) (roV s.vers) (.i s.vers.length) (.i i), ⟨[.box 0 s.e], [], nx⟩) = some (e, st) ∧ LE 0 2 ((A45H0 (.ptr 0 0 0) (roV s.vers) (.i s.vers.length) (.i s.vers.length)).set 15 (.b false)) [.box 0 s.e] [] (fl (ckVersL s (s.vers.take i).getLast? (s.vers.drop i))) e st := by
  have hv := hs.v
  refine loop_list (f := acode (run1 code ext n) n A45L0) (k := 1) (M := A45M0) s.vers (fun i (_ : Unit) nx => (A45H0 (.ptr 0 0 0) (roV s.vers) (.i s.vers.length) (.i i), ⟨[.box 0 s.e], [], nx⟩)) (fun _ _ => True) (fun i r _ e st => LE 0 2 ((A45H0 (.ptr 0 0 0) (roV s.vers) (.i s.vers.length) (.i s.vers.length)).set 15 (.b false)) [.box 0 s.e] [] (fl (ckVersL s (s.vers.take i).getLast? r)) e st) ?_ ?_ m i () nx hi hm trivial
  · intro _ nx _
    have hb : acode (run1 code ext n) n A45L0 (A45H0 (.ptr 0 0 0) (roV s.vers) (.i s.vers.length) (.i s.vers.length), ⟨[.box 0 s.e], [], nx⟩) = acode (run1 code ext n) n A45L0 (A45H0 (.ptr 0 0 0) (roV s.vers) (.i s.vers.length) (.i s.vers.length), ⟨[.box 0 s.e], [], nx⟩) := rfl
    conv at hb => rhs; simp [acode, runOps, step1, aop, wantedA, ev, put, opened, binV, binInt, binStr, app_v, Pr.run, Pr.map, Pr.bind, Pr.mapP, loadA, storeA, cellsVal, Pr.ofOption, cells, fillA, splice, nz, dr, cln, flat, one, bnd, slA, items, appA, Hp.get, Hp.app, Hp.set, eqAll, eq1, lookA, resA, rvA, fin, AV.i, AV.b, AV.s, beq_int, bne_int, emp_is, emp_iff, runD, step2, clash, apartFP, Pr.log, A45L0]
    exact ⟨_, _, by simp, hb, by simp [LE, ckVersL, fl]⟩
  · intro i hi v _ nx hg _
    have hw := wrap_nat i (by omega)
    have h1 := e86 s hs v n (by omega)
    simp only [Sto.e, Ver.e, eVals] at h1
    have hlast := last_take hi
    rw [hg] at hlast
    simp only [ckVersL_step]
    by_cases q1 : ckVer s v = 0
    · rw [q1] at h1
      rw [if_neg (by simpa using q1)]
      by_cases h0 : 0 < i
      · have hw1 := wrap_pred i h0 (by omega)
        obtain ⟨b, hgb⟩ : ∃ b, s.vers[i - 1] = b := ⟨_, rfl⟩
        have hi1 : i - 1 < s.vers.length := by omega
        have hp : (s.vers.take i).getLast? = some b := by
          have := last_take hi1
          rw [hgb, show i - 1 + 1 = i by omega] at this
          exact this
        rw [hp]
        refine off_cases v b _ ?_ ?_ ?_ ?_
        · intro a1 a2
          rw [if_pos a2]
          have hb : acode (run1 code ext n) n A45L0 (A45H0 (.ptr 0 0 0) (roV s.vers) (.i s.vers.length) (.i i), ⟨[.box 0 s.e], [], nx⟩) = acode (run1 code ext n) n A45L0 (A45H0 (.ptr 0 0 0) (roV s.vers) (.i s.vers.length) (.i i), ⟨[.box 0 s.e], [], nx⟩) := rfl
          conv at hb => rhs; simp [acode, runOps, step1, aop, wantedA, ev, put, opened, binV, binInt, binStr, app_v, Pr.run, Pr.map, Pr.bind, Pr.mapP, loadA, storeA, cellsVal, Pr.ofOption, cells, fillA, splice, nz, dr, cln, flat, one, bnd, slA, items, appA, Hp.get, Hp.app, Hp.set, eqAll, eq1, lookA, resA, rvA, fin, AV.i, AV.b, AV.s, beq_int, bne_int, emp_is, emp_iff, runD, step2, clash, apartFP, Pr.log, A45L0, Sto.e, Ver.e, eVals, roV, hi, hg, hw, h1, h0, hw1, hi1, hgb, a1]
          exact .inr ⟨.ret, _, by simp, hb, by simp [LE, fl]⟩
        · intro a1 a2 a3
          rw [if_neg (by simp [a3])]
          have hb : acode (run1 code ext n) n A45L0 (A45H0 (.ptr 0 0 0) (roV s.vers) (.i s.vers.length) (.i i), ⟨[.box 0 s.e], [], nx⟩) = acode (run1 code ext n) n A45L0 (A45H0 (.ptr 0 0 0) (roV s.vers) (.i s.vers.length) (.i i), ⟨[.box 0 s.e], [], nx⟩) := rfl
          conv at hb => rhs; simp [acode, runOps, step1, aop, wantedA, ev, put, opened, binV, binInt, binStr, app_v, Pr.run, Pr.map, Pr.bind, Pr.mapP, loadA, storeA, cellsVal, Pr.ofOption, cells, fillA, splice, nz, dr, cln, flat, one, bnd, slA, items, appA, Hp.get, Hp.app, Hp.set, eqAll, eq1, lookA, resA, rvA, fin, AV.i, AV.b, AV.s, beq_int, bne_int, emp_is, emp_iff, runD, step2, clash, apartFP, Pr.log, A45L0, Sto.e, Ver.e, eVals, roV, hi, hg, hw, h1, h0, hw1, hi1, hgb, a1, a2]
          exact .inl ⟨_, (), _, hb, by simp [trunc, mask, A45M0, Sto.e, eVals, roV]; rfl, trivial, fun e st h => by rw [hlast] at h; exact h⟩
        · intro a1 a2 a3 a4
          rw [if_pos a4]
          have hb : acode (run1 code ext n) n A45L0 (A45H0 (.ptr 0 0 0) (roV s.vers) (.i s.vers.length) (.i i), ⟨[.box 0 s.e], [], nx⟩) = acode (run1 code ext n) n A45L0 (A45H0 (.ptr 0 0 0) (roV s.vers) (.i s.vers.length) (.i i), ⟨[.box 0 s.e], [], nx⟩) := rfl
          conv at hb => rhs; simp [acode, runOps, step1, aop, wantedA, ev, put, opened, binV, binInt, binStr, app_v, Pr.run, Pr.map, Pr.bind, Pr.mapP, loadA, storeA, cellsVal, Pr.ofOption, cells, fillA, splice, nz, dr, cln, flat, one, bnd, slA, items, appA, Hp.get, Hp.app, Hp.set, eqAll, eq1, lookA, resA, rvA, fin, AV.i, AV.b, AV.s, beq_int, bne_int, emp_is, emp_iff, runD, step2, clash, apartFP, Pr.log, A45L0, Sto.e, Ver.e, eVals, roV, hi, hg, hw, h1, h0, hw1, hi1, hgb, a1, a2, a3]
          exact .inr ⟨.ret, _, by simp, hb, by simp [LE, fl]⟩
        · intro a1 a2 a3 a4
          rw [if_neg (by simp [a4])]
          have hb : acode (run1 code ext n) n A45L0 (A45H0 (.ptr 0 0 0) (roV s.vers) (.i s.vers.length) (.i i), ⟨[.box 0 s.e], [], nx⟩) = acode (run1 code ext n) n A45L0 (A45H0 (.ptr 0 0 0) (roV s.vers) (.i s.vers.length) (.i i), ⟨[.box 0 s.e], [], nx⟩) := rfl
          conv at hb => rhs; simp [acode, runOps, step1, aop, wantedA, ev, put, opened, binV, binInt, binStr, app_v, Pr.run, Pr.map, Pr.bind, Pr.mapP, loadA, storeA, cellsVal, Pr.ofOption, cells, fillA, splice, nz, dr, cln, flat, one, bnd, slA, items, appA, Hp.get, Hp.app, Hp.set, eqAll, eq1, lookA, resA, rvA, fin, AV.i, AV.b, AV.s, beq_int, bne_int, emp_is, emp_iff, runD, step2, clash, apartFP, Pr.log, A45L0, Sto.e, Ver.e, eVals, roV, hi, hg, hw, h1, h0, hw1, hi1, hgb, a1, a2, a3]
          exact .inl ⟨_, (), _, hb, by simp [trunc, mask, A45M0, Sto.e, eVals, roV]; rfl, trivial, fun e st h => by rw [hlast] at h; exact h⟩
      · obtain rfl : i = 0 := by omega
        rw [if_neg (by simp [offOrder])]
        have hb : acode (run1 code ext n) n A45L0 (A45H0 (.ptr 0 0 0) (roV s.vers) (.i s.vers.length) (.i (0 : Nat)), ⟨[.box 0 s.e], [], nx⟩) = acode (run1 code ext n) n A45L0 (A45H0 (.ptr 0 0 0) (roV s.vers) (.i s.vers.length) (.i (0 : Nat)), ⟨[.box 0 s.e], [], nx⟩) := rfl
        conv at hb => rhs; simp [acode, runOps, step1, aop, wantedA, ev, put, opened, binV, binInt, binStr, app_v, Pr.run, Pr.map, Pr.bind, Pr.mapP, loadA, storeA, cellsVal, Pr.ofOption, cells, fillA, splice, nz, dr, cln, flat, one, bnd, slA, items, appA, Hp.get, Hp.app, Hp.set, eqAll, eq1, lookA, resA, rvA, fin, AV.i, AV.b, AV.s, beq_int, bne_int, emp_is, emp_iff, runD, step2, clash, apartFP, Pr.log, A45L0, Sto.e, Ver.e, eVals, roV, hi, hg, hw, h1, wrap_one]
        exact .inl ⟨_, (), _, hb, by simp [trunc, mask, A45M0, Sto.e, eVals, roV]; rfl, trivial, fun e st h => by rw [hlast] at h; exact h⟩
    · rw [if_pos (by simpa using q1)]
      have hb : acode (run1 code ext n) n A45L0 (A45H0 (.ptr 0 0 0) (roV s.vers) (.i s.vers.length) (.i i), ⟨[.box 0 s.e], [], nx⟩) = acode (run1 code ext n) n A45L0 (A45H0 (.ptr 0 0 0) (roV s.vers) (.i s.vers.length) (.i i), ⟨[.box 0 s.e], [], nx⟩) := rfl
      conv at hb => rhs; simp [acode, runOps, step1, aop, wantedA, ev, put, opened, binV, binInt, binStr, app_v, Pr.run, Pr.map, Pr.bind, Pr.mapP, loadA, storeA, cellsVal, Pr.ofOption, cells, fillA, splice, nz, dr, cln, flat, one, bnd, slA, items, appA, Hp.get, Hp.app, Hp.set, eqAll, eq1, lookA, resA, rvA, fin, AV.i, AV.b, AV.s, beq_int, bne_int, emp_is, emp_iff, runD, step2, clash, apartFP, Pr.log, A45L0, Sto.e, Ver.e, eVals, roV, hi, hg, hw, h1, q1]
      exact .inr ⟨.ret, _, by simp, hb, by simp [LE, fl, q1]⟩

/-- How a loop ends, of the heap nothing. -/
def LX (k r len : Nat) (out : Option AV) (e : Ex) (st : St) : Prop :=
  match out with
    | none => e = .ex k ∧ st.1.length = len
    | some v => e = .ret ∧ st.1[r]? = some v
theorem LX.exit {k r len : Nat} {e : Ex} {st : St} (h : LX k r len none e st) : ∃ F h, e = .ex k ∧ st = (F, h) ∧ F.length = len := ⟨st.1, st.2, h.1, rfl, h.2⟩
theorem LX.back {k r len : Nat} {v : AV} {e : Ex} {st : St} (h : LX k r len (some v) e st) : ∃ F h, e = .ret ∧ st = (F, h) ∧ F[r]? = some v := ⟨st.1, st.2, h.1, rfl, h.2⟩

theorem twiceM_step (e : Int → Int) (v : Ver) (r : List Ver) : twiceM e (v :: r) = if e v.row < 0 ∨ e v.row > v.frm then true else twiceM (fun n => if n = v.row then (if v.to = 0 then -1 else v.to) else e n) r := rfl

theorem loop45b (call : Nat → List AV → Hp → Option (AV × Hp)) (n : Nat) (vs : List Ver) (b : Ob) (u : Nat) (hv : vs.length < 2 ^ 62) (m i nx : Nat) (es : List (Int × AV)) (e0 : Int → Int) (hi : i ≤ vs.length) (hm : vs.length - i < m) (hI : ∀ r, (lookA (.i 0) es r).1 = .i (e0 r)) :
    ∃ e st, iter (acode call n A45L1) 1 A45M1 m (A45H1 (.mp 0 u) (roV vs) (.i vs.length) (.i i), ⟨[b], [.map u es], nx⟩) = some (e, st) ∧ LX 2 2 85 (hit (twiceM e0 (vs.drop i)) 7) e st := by
  refine loop_list (f := acode call n A45L1) (k := 1) (M := A45M1) vs (fun i (x : List (Int × AV) × (Int → Int)) nx => (A45H1 (.mp 0 u) (roV vs) (.i vs.length) (.i i), ⟨[b], [.map u x.1], nx⟩)) (fun _ x => ∀ r, (lookA (.i 0) x.1 r).1 = .i (x.2 r)) (fun i r x e st => LX 2 2 85 (hit (twiceM x.2 r) 7) e st) ?_ ?_ m i (es, e0) nx hi hm hI
  · intro x nx _
    have hb : acode call n A45L1 (A45H1 (.mp 0 u) (roV vs) (.i vs.length) (.i vs.length), ⟨[b], [.map u x.1], nx⟩) = acode call n A45L1 (A45H1 (.mp 0 u) (roV vs) (.i vs.length) (.i vs.length), ⟨[b], [.map u x.1], nx⟩) := rfl
    conv at hb => rhs; simp [acode, runOps, step1, aop, wantedA, ev, put, opened, binV, binInt, binStr, app_v, Pr.run, Pr.map, Pr.bind, Pr.mapP, loadA, storeA, cellsVal, Pr.ofOption, cells, fillA, splice, nz, dr, cln, flat, one, bnd, slA, items, appA, Hp.get, Hp.app, Hp.set, eqAll, eq1, lookA, resA, rvA, fin, AV.i, AV.b, AV.s, beq_int, bne_int, emp_is, emp_iff, runD, step2, clash, apartFP, Pr.log, A45L1]
    exact ⟨_, _, by simp, hb, by simp [LX, twiceM, hit]⟩
  · intro i hi v x nx hg hI
    obtain ⟨es, e0⟩ := x
    have hw := wrap_nat i (by omega)
    have hl := hI v.row
    simp only at hI hl ⊢
    have hn0 : ∀ r, (lookA (.i 0) ((v.row, .i v.to) :: es) r).1 = .i (if r = v.row then v.to else e0 r) := fun r => by
      by_cases h : v.row = r
      · simp [lookA, h]
      · have h' : ¬ r = v.row := fun h2 => h h2.symm
        simp [lookA, h, h', hI r]
    have hn1 : ∀ r, (lookA (.i 0) ((v.row, .i (-1)) :: (v.row, .i v.to) :: es) r).1 = .i (if r = v.row then -1 else e0 r) := fun r => by
      by_cases h : v.row = r
      · simp [lookA, h]
      · have h' : ¬ r = v.row := fun h2 => h h2.symm
        simp [lookA, h, h', hI r]
    simp only [twiceM_step]
    by_cases a1 : e0 v.row < 0
    · rw [if_pos (.inl a1)]
      have hb : acode call n A45L1 (A45H1 (.mp 0 u) (roV vs) (.i vs.length) (.i i), ⟨[b], [.map u es], nx⟩) = acode call n A45L1 (A45H1 (.mp 0 u) (roV vs) (.i vs.length) (.i i), ⟨[b], [.map u es], nx⟩) := rfl
      conv at hb => rhs; simp [acode, runOps, step1, aop, wantedA, ev, put, opened, binV, binInt, binStr, app_v, Pr.run, Pr.map, Pr.bind, Pr.mapP, loadA, storeA, cellsVal, Pr.ofOption, cells, fillA, splice, nz, dr, cln, flat, one, bnd, slA, items, appA, Hp.get, Hp.app, Hp.set, eqAll, eq1, lookA, resA, rvA, fin, AV.i, AV.b, AV.s, beq_int, bne_int, emp_is, emp_iff, runD, step2, clash, apartFP, Pr.log, A45L1, Ver.e, eVals, roV, hi, hg, hw, hl, a1]
      exact .inr ⟨.ret, _, by simp, hb, by simp [LX, hit]⟩
    · by_cases a2 : v.frm < e0 v.row
      · rw [if_pos (.inr a2)]
        have hb : acode call n A45L1 (A45H1 (.mp 0 u) (roV vs) (.i vs.length) (.i i), ⟨[b], [.map u es], nx⟩) = acode call n A45L1 (A45H1 (.mp 0 u) (roV vs) (.i vs.length) (.i i), ⟨[b], [.map u es], nx⟩) := rfl
        conv at hb => rhs; simp [acode, runOps, step1, aop, wantedA, ev, put, opened, binV, binInt, binStr, app_v, Pr.run, Pr.map, Pr.bind, Pr.mapP, loadA, storeA, cellsVal, Pr.ofOption, cells, fillA, splice, nz, dr, cln, flat, one, bnd, slA, items, appA, Hp.get, Hp.app, Hp.set, eqAll, eq1, lookA, resA, rvA, fin, AV.i, AV.b, AV.s, beq_int, bne_int, emp_is, emp_iff, runD, step2, clash, apartFP, Pr.log, A45L1, Ver.e, eVals, roV, hi, hg, hw, hl, a1, a2]
        exact .inr ⟨.ret, _, by simp, hb, by simp [LX, hit]⟩
      · rw [if_neg (by omega)]
        by_cases a3 : v.to = 0
        · have a3x : (v.to = 0) = True := eq_true a3
          have hb : acode call n A45L1 (A45H1 (.mp 0 u) (roV vs) (.i vs.length) (.i i), ⟨[b], [.map u es], nx⟩) = acode call n A45L1 (A45H1 (.mp 0 u) (roV vs) (.i vs.length) (.i i), ⟨[b], [.map u es], nx⟩) := rfl
          conv at hb => rhs; simp [acode, runOps, step1, aop, wantedA, ev, put, opened, binV, binInt, binStr, app_v, Pr.run, Pr.map, Pr.bind, Pr.mapP, loadA, storeA, cellsVal, Pr.ofOption, cells, fillA, splice, nz, dr, cln, flat, one, bnd, slA, items, appA, Hp.get, Hp.app, Hp.set, eqAll, eq1, lookA, resA, rvA, fin, AV.i, AV.b, AV.s, beq_int, bne_int, emp_is, emp_iff, runD, step2, clash, apartFP, Pr.log, A45L1, Ver.e, eVals, roV, hi, hg, hw, hl, a1, a2, a3x]
          exact .inl ⟨_, ((v.row, .i (-1)) :: (v.row, .i v.to) :: es, fun r => if r = v.row then -1 else e0 r), _, hb, by simp [trunc, mask, A45M1, Ver.e, eVals, roV]; rfl, hn1, fun e st h => by simpa [a3] using h⟩
        · have hb : acode call n A45L1 (A45H1 (.mp 0 u) (roV vs) (.i vs.length) (.i i), ⟨[b], [.map u es], nx⟩) = acode call n A45L1 (A45H1 (.mp 0 u) (roV vs) (.i vs.length) (.i i), ⟨[b], [.map u es], nx⟩) := rfl
          conv at hb => rhs; simp [acode, runOps, step1, aop, wantedA, ev, put, opened, binV, binInt, binStr, app_v, Pr.run, Pr.map, Pr.bind, Pr.mapP, loadA, storeA, cellsVal, Pr.ofOption, cells, fillA, splice, nz, dr, cln, flat, one, bnd, slA, items, appA, Hp.get, Hp.app, Hp.set, eqAll, eq1, lookA, resA, rvA, fin, AV.i, AV.b, AV.s, beq_int, bne_int, emp_is, emp_iff, runD, step2, clash, apartFP, Pr.log, A45L1, Ver.e, eVals, roV, hi, hg, hw, hl, a1, a2, a3]
          exact .inl ⟨_, ((v.row, .i v.to) :: es, fun r => if r = v.row then v.to else e0 r), _, hb, by simp [trunc, mask, A45M1, Ver.e, eVals, roV]; rfl, hn0, fun e st h => by simpa [a3] using h⟩

theorem e45 (s : Sto) (hs : Bd s) : Is code ext 7 45 [.agg s.e] (.i (ckVers s)) := by
  refine Is.step code ext c45 fun n hn => ?_
  have hv := hs.v
  obtain ⟨e, st, q2, q3⟩ := loop45a n (by omega) s hs n 0 6 (Nat.zero_le _) (by omega)
  simp only [List.drop_zero, List.take_zero, List.getLast?_nil] at q3
  simp only [Int.natCast_zero, roV, Sto.e] at q2
  by_cases hq : ckVersL s none s.vers = 0
  · rw [hq, fl_zero] at q3
    obtain ⟨rfl, nx, rfl⟩ := q3
    obtain ⟨e, st, r2, r3⟩ := loop45b (run1 code ext n) n s.vers (.box 0 s.e) nx (by omega) n 0 (nx + 2 + 4) [] (fun _ => 0) (Nat.zero_le _) (by omega) (fun r => rfl)
    simp only [List.drop_zero, twice_ends hq] at r3
    simp only [Int.natCast_zero, roV, Sto.e] at r2
    cases hq2 : twiceL [] s.vers with
    | false =>
      rw [hq2, hit_f] at r3
      obtain ⟨F, h, rfl, rfl, hF⟩ := r3.exit
      simp [A45, acode, runOps, step1, aop, wantedA, ev, put, opened, binV, binInt, binStr, app_v, Pr.run, Pr.map, Pr.bind, Pr.mapP, loadA, storeA, cellsVal, Pr.ofOption, cells, fillA, splice, nz, dr, cln, flat, one, bnd, slA, items, appA, Hp.get, Hp.app, Hp.set, eqAll, eq1, lookA, resA, rvA, fin, AV.i, AV.b, AV.s, beq_int, bne_int, emp_is, emp_iff, runD, step2, clash, apartFP, Pr.log, Sto.e, roV, ckVers, A45M0_eq, A45M1_eq, q2, r2, hq, hq2, hF]
    | true =>
      rw [hq2, hit_t] at r3
      obtain ⟨F, h, rfl, rfl, hF⟩ := r3.back
      simp [A45, acode, runOps, step1, aop, wantedA, ev, put, opened, binV, binInt, binStr, app_v, Pr.run, Pr.map, Pr.bind, Pr.mapP, loadA, storeA, cellsVal, Pr.ofOption, cells, fillA, splice, nz, dr, cln, flat, one, bnd, slA, items, appA, Hp.get, Hp.app, Hp.set, eqAll, eq1, lookA, resA, rvA, fin, AV.i, AV.b, AV.s, beq_int, bne_int, emp_is, emp_iff, runD, step2, clash, apartFP, Pr.log, Sto.e, roV, ckVers, A45M0_eq, A45M1_eq, q2, r2, hq, hq2, hF]
  · rw [fl_pos hq] at q3
    obtain ⟨F, bs, nx, rfl, rfl, hF⟩ := q3.back
    simp [A45, acode, runOps, step1, aop, wantedA, ev, put, opened, binV, binInt, binStr, app_v, Pr.run, Pr.map, Pr.bind, Pr.mapP, loadA, storeA, cellsVal, Pr.ofOption, cells, fillA, splice, nz, dr, cln, flat, one, bnd, slA, items, appA, Hp.get, Hp.app, Hp.set, eqAll, eq1, lookA, resA, rvA, fin, AV.i, AV.b, AV.s, beq_int, bne_int, emp_is, emp_iff, runD, step2, clash, apartFP, Pr.log, Sto.e, roV, ckVers, A45M0_eq, q2, hq, hF]
end Go.Pv
