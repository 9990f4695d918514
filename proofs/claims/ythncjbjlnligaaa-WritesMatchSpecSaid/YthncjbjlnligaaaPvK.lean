/-
  What functions come to: versions, as the document checks them. Conditions: none.
-/
import Derived.Test.YthncjbjlnligaaaPvJ
set_option linter.unusedVariables false
set_option linter.unusedSimpArgs false
namespace Go.Pv
open Go
set_option maxRecDepth 100000
set_option maxHeartbeats 8000000

theorem ver_cases (s : Sto) (v : Ver) (p : Prop) (h1 : inB v.row 1 (s.nextRow - 1) = false → ckVer s v = 1 → p) (h2 : inB v.row 1 (s.nextRow - 1) = true → inB v.frm 1 s.last = false → ckVer s v = 1 → p)
    (h3 : inB v.row 1 (s.nextRow - 1) = true → inB v.frm 1 s.last = true → (v.to = 0) = True → ckVer s v = ckRow s.cols v.vals → p)
    (h4 : inB v.row 1 (s.nextRow - 1) = true → inB v.frm 1 s.last = true → (v.to = 0) = False → inB v.to (v.frm + 1) s.last = false → ckVer s v = 1 → p)
    (h5 : inB v.row 1 (s.nextRow - 1) = true → inB v.frm 1 s.last = true → (v.to = 0) = False → inB v.to (v.frm + 1) s.last = true → (v.to ≤ s.swept) = True → ckVer s v = 1 → p)
    (h6 : inB v.row 1 (s.nextRow - 1) = true → inB v.frm 1 s.last = true → (v.to = 0) = False → inB v.to (v.frm + 1) s.last = true → (v.to ≤ s.swept) = False → ckVer s v = ckRow s.cols v.vals → p) : p := by
  cases q1 : inB v.row 1 (s.nextRow - 1) with
  | false => exact h1 q1 (by simp [ckVer, q1])
  | true =>
    cases q2 : inB v.frm 1 s.last with
    | false => exact h2 q1 q2 (by simp [ckVer, q1, q2])
    | true =>
      by_cases q3 : v.to = 0
      · exact h3 q1 q2 (eq_true q3) (by simp [ckVer, q1, q2, q3])
      · cases q4 : inB v.to (v.frm + 1) s.last with
        | false => exact h4 q1 q2 (eq_false q3) q4 (by simp [ckVer, q1, q2, q3, q4])
        | true =>
          by_cases q5 : v.to ≤ s.swept
          · exact h5 q1 q2 (eq_false q3) q4 (eq_true q5) (by simp [ckVer, q1, q2, q3, q4, q5])
          · exact h6 q1 q2 (eq_false q3) q4 (eq_false q5) (by simp [ckVer, q1, q2, q3, q4, q5])

/-- The temporaries behind the first loop. -/
def F48a (s : Sto) : List AV := (((((A48H0 (.ptr 0 0 0) (.i s.vers.length)).set 11 (.i s.vers.length)).set 12 (.ptr 0 0 1)).set 13 (roV s.vers)).set 14 (.i s.vers.length)).set 15 (.b false)

theorem loop48a (n : Nat) (hn : 2 ^ 64 + 6 ≤ n) (s : Sto) (hs : Bd s) (m i nx : Nat) (hi : i ≤ s.vers.length) (hm : s.vers.length - i < m) :
    ∃ e st, iter (acode (run1 code ext n) n A48L0) 1 A48M0 m (A48H0 (.ptr 0 0 0) (.i i), ⟨[.box 0 s.e], [], nx⟩) = some (e, st) ∧ LE 0 2 (F48a s) [.box 0 s.e] [] (fl (ckVersL s (s.vers.take i).getLast? (s.vers.drop i))) e st := by
  have hv := hs.v
  have w1 : IntKind.i64.wrap (s.nextRow - 1) = s.nextRow - 1 := wrap_in _ (by have := hs.nr; omega)
  refine loop_list (f := acode (run1 code ext n) n A48L0) (k := 1) (M := A48M0) s.vers (fun i (_ : Unit) nx => (A48H0 (.ptr 0 0 0) (.i i), ⟨[.box 0 s.e], [], nx⟩)) (fun _ _ => True) (fun i r _ e st => LE 0 2 (F48a s) [.box 0 s.e] [] (fl (ckVersL s (s.vers.take i).getLast? r)) e st) ?_ ?_ m i () nx hi hm trivial
  · intro _ nx _
    have hb : acode (run1 code ext n) n A48L0 (A48H0 (.ptr 0 0 0) (.i s.vers.length), ⟨[.box 0 s.e], [], nx⟩) = acode (run1 code ext n) n A48L0 (A48H0 (.ptr 0 0 0) (.i s.vers.length), ⟨[.box 0 s.e], [], nx⟩) := rfl
    conv at hb => rhs; simp [acode, runOps, step1, aop, wantedA, ev, put, opened, binV, binInt, binStr, app_v, Pr.run, Pr.map, Pr.bind, Pr.mapP, loadA, storeA, cellsVal, Pr.ofOption, cells, fillA, splice, nz, dr, cln, flat, one, bnd, slA, items, appA, Hp.get, Hp.app, Hp.set, eqAll, eq1, lookA, resA, rvA, fin, AV.i, AV.b, AV.s, beq_int, bne_int, emp_is, emp_iff, runD, step2, clash, apartFP, Pr.log, A48L0, Sto.e]
    exact ⟨_, _, by simp, hb, by simp [LE, ckVersL, fl, F48a, Sto.e]⟩
  · intro i hi v _ nx hg _
    have hw := wrap_nat i (by omega)
    have e1 := e47 v.row 1 (s.nextRow - 1) n (by omega)
    have e2 := e47 v.frm 1 s.last n (by omega)
    have e3 := e47 v.to (v.frm + 1) s.last n (by omega)
    have e4 := e58 s.cols v.vals (hs.vt v (by rw [← hg]; exact List.getElem_mem _)) hs.c n (by omega)
    have w2 : inB v.frm 1 s.last = true → IntKind.i64.wrap (v.frm + 1) = v.frm + 1 := fun q => wrap_in _ (by have := hs.la; simp [inB] at q; omega)
    simp only [roC, eVals] at e4
    have hlast := last_take hi
    rw [hg] at hlast
    simp only [ckVersL_step]
    refine ver_cases s v _ ?_ ?_ ?_ ?_ ?_ ?_
    · intro q1 qq
      rw [q1] at e1
      rw [qq, if_pos (by simp)]
      have hb : acode (run1 code ext n) n A48L0 (A48H0 (.ptr 0 0 0) (.i i), ⟨[.box 0 s.e], [], nx⟩) = acode (run1 code ext n) n A48L0 (A48H0 (.ptr 0 0 0) (.i i), ⟨[.box 0 s.e], [], nx⟩) := rfl
      conv at hb => rhs; simp [acode, runOps, step1, aop, wantedA, ev, put, opened, binV, binInt, binStr, app_v, Pr.run, Pr.map, Pr.bind, Pr.mapP, loadA, storeA, cellsVal, Pr.ofOption, cells, fillA, splice, nz, dr, cln, flat, one, bnd, slA, items, appA, Hp.get, Hp.app, Hp.set, eqAll, eq1, lookA, resA, rvA, fin, AV.i, AV.b, AV.s, beq_int, bne_int, emp_is, emp_iff, runD, step2, clash, apartFP, Pr.log, A48L0, Sto.e, Ver.e, eVals, hi, hg, hw, w1, e1]
      exact .inr ⟨.ret, _, by simp, hb, by simp [LE, fl]⟩
    · intro q1 q2 qq
      rw [q1] at e1
      rw [q2] at e2
      rw [qq, if_pos (by simp)]
      have hb : acode (run1 code ext n) n A48L0 (A48H0 (.ptr 0 0 0) (.i i), ⟨[.box 0 s.e], [], nx⟩) = acode (run1 code ext n) n A48L0 (A48H0 (.ptr 0 0 0) (.i i), ⟨[.box 0 s.e], [], nx⟩) := rfl
      conv at hb => rhs; simp [acode, runOps, step1, aop, wantedA, ev, put, opened, binV, binInt, binStr, app_v, Pr.run, Pr.map, Pr.bind, Pr.mapP, loadA, storeA, cellsVal, Pr.ofOption, cells, fillA, splice, nz, dr, cln, flat, one, bnd, slA, items, appA, Hp.get, Hp.app, Hp.set, eqAll, eq1, lookA, resA, rvA, fin, AV.i, AV.b, AV.s, beq_int, bne_int, emp_is, emp_iff, runD, step2, clash, apartFP, Pr.log, A48L0, Sto.e, Ver.e, eVals, hi, hg, hw, w1, e1, e2]
      exact .inr ⟨.ret, _, by simp, hb, by simp [LE, fl]⟩
    · intro q1 q2 q3 qq
      rw [q1] at e1
      rw [q2] at e2
      rw [qq]
      by_cases qr : ckRow s.cols v.vals = 0
      · rw [qr] at e4
        rw [if_neg (by simpa using qr)]
        by_cases h0 : 0 < i
        · have hw1 := wrap_pred i h0 (by omega)
          obtain ⟨b, hgb⟩ : ∃ b, s.vers[i - 1] = b := ⟨_, rfl⟩
          have hi1 : i - 1 < s.vers.length := by omega
          have hp : (s.vers.take i).getLast? = some b := by
            have := last_take hi1
            rw [hgb, show i - 1 + 1 = i by omega] at this
            exact this
          rw [hp]
          refine off_cases v b _ ?_ ?_ ?_ ?_
          · intro a1 a2
            rw [if_pos a2]
            have hb : acode (run1 code ext n) n A48L0 (A48H0 (.ptr 0 0 0) (.i i), ⟨[.box 0 s.e], [], nx⟩) = acode (run1 code ext n) n A48L0 (A48H0 (.ptr 0 0 0) (.i i), ⟨[.box 0 s.e], [], nx⟩) := rfl
            conv at hb => rhs; simp [acode, runOps, step1, aop, wantedA, ev, put, opened, binV, binInt, binStr, app_v, Pr.run, Pr.map, Pr.bind, Pr.mapP, loadA, storeA, cellsVal, Pr.ofOption, cells, fillA, splice, nz, dr, cln, flat, one, bnd, slA, items, appA, Hp.get, Hp.app, Hp.set, eqAll, eq1, lookA, resA, rvA, fin, AV.i, AV.b, AV.s, beq_int, bne_int, emp_is, emp_iff, runD, step2, clash, apartFP, Pr.log, A48L0, Sto.e, Ver.e, eVals, hi, hg, hw, w1, e1, e2, q3, e4, h0, hw1, hi1, hgb, a1]
            exact .inr ⟨.ret, _, by simp, hb, by simp [LE, fl]⟩
          · intro a1 a2 a3
            rw [if_neg (by simp [a3])]
            have hb : acode (run1 code ext n) n A48L0 (A48H0 (.ptr 0 0 0) (.i i), ⟨[.box 0 s.e], [], nx⟩) = acode (run1 code ext n) n A48L0 (A48H0 (.ptr 0 0 0) (.i i), ⟨[.box 0 s.e], [], nx⟩) := rfl
            conv at hb => rhs; simp [acode, runOps, step1, aop, wantedA, ev, put, opened, binV, binInt, binStr, app_v, Pr.run, Pr.map, Pr.bind, Pr.mapP, loadA, storeA, cellsVal, Pr.ofOption, cells, fillA, splice, nz, dr, cln, flat, one, bnd, slA, items, appA, Hp.get, Hp.app, Hp.set, eqAll, eq1, lookA, resA, rvA, fin, AV.i, AV.b, AV.s, beq_int, bne_int, emp_is, emp_iff, runD, step2, clash, apartFP, Pr.log, A48L0, Sto.e, Ver.e, eVals, hi, hg, hw, w1, e1, e2, q3, e4, h0, hw1, hi1, hgb, a1, a2]
            exact .inl ⟨_, (), _, hb, by simp [trunc, mask, A48M0, Sto.e, eVals]; rfl, trivial, fun e st h => by rw [hlast] at h; exact h⟩
          · intro a1 a2 a3 a4
            rw [if_pos a4]
            have hb : acode (run1 code ext n) n A48L0 (A48H0 (.ptr 0 0 0) (.i i), ⟨[.box 0 s.e], [], nx⟩) = acode (run1 code ext n) n A48L0 (A48H0 (.ptr 0 0 0) (.i i), ⟨[.box 0 s.e], [], nx⟩) := rfl
            conv at hb => rhs; simp [acode, runOps, step1, aop, wantedA, ev, put, opened, binV, binInt, binStr, app_v, Pr.run, Pr.map, Pr.bind, Pr.mapP, loadA, storeA, cellsVal, Pr.ofOption, cells, fillA, splice, nz, dr, cln, flat, one, bnd, slA, items, appA, Hp.get, Hp.app, Hp.set, eqAll, eq1, lookA, resA, rvA, fin, AV.i, AV.b, AV.s, beq_int, bne_int, emp_is, emp_iff, runD, step2, clash, apartFP, Pr.log, A48L0, Sto.e, Ver.e, eVals, hi, hg, hw, w1, e1, e2, q3, e4, h0, hw1, hi1, hgb, a1, a2, a3]
            exact .inr ⟨.ret, _, by simp, hb, by simp [LE, fl]⟩
          · intro a1 a2 a3 a4
            rw [if_neg (by simp [a4])]
            have hb : acode (run1 code ext n) n A48L0 (A48H0 (.ptr 0 0 0) (.i i), ⟨[.box 0 s.e], [], nx⟩) = acode (run1 code ext n) n A48L0 (A48H0 (.ptr 0 0 0) (.i i), ⟨[.box 0 s.e], [], nx⟩) := rfl
            conv at hb => rhs; simp [acode, runOps, step1, aop, wantedA, ev, put, opened, binV, binInt, binStr, app_v, Pr.run, Pr.map, Pr.bind, Pr.mapP, loadA, storeA, cellsVal, Pr.ofOption, cells, fillA, splice, nz, dr, cln, flat, one, bnd, slA, items, appA, Hp.get, Hp.app, Hp.set, eqAll, eq1, lookA, resA, rvA, fin, AV.i, AV.b, AV.s, beq_int, bne_int, emp_is, emp_iff, runD, step2, clash, apartFP, Pr.log, A48L0, Sto.e, Ver.e, eVals, hi, hg, hw, w1, e1, e2, q3, e4, h0, hw1, hi1, hgb, a1, a2, a3]
            exact .inl ⟨_, (), _, hb, by simp [trunc, mask, A48M0, Sto.e, eVals]; rfl, trivial, fun e st h => by rw [hlast] at h; exact h⟩
        · obtain rfl : i = 0 := by omega
          rw [if_neg (by simp [offOrder])]
          have hb : acode (run1 code ext n) n A48L0 (A48H0 (.ptr 0 0 0) (.i (0 : Nat)), ⟨[.box 0 s.e], [], nx⟩) = acode (run1 code ext n) n A48L0 (A48H0 (.ptr 0 0 0) (.i (0 : Nat)), ⟨[.box 0 s.e], [], nx⟩) := rfl
          conv at hb => rhs; simp [acode, runOps, step1, aop, wantedA, ev, put, opened, binV, binInt, binStr, app_v, Pr.run, Pr.map, Pr.bind, Pr.mapP, loadA, storeA, cellsVal, Pr.ofOption, cells, fillA, splice, nz, dr, cln, flat, one, bnd, slA, items, appA, Hp.get, Hp.app, Hp.set, eqAll, eq1, lookA, resA, rvA, fin, AV.i, AV.b, AV.s, beq_int, bne_int, emp_is, emp_iff, runD, step2, clash, apartFP, Pr.log, A48L0, Sto.e, Ver.e, eVals, hi, hg, hw, w1, e1, e2, q3, e4, wrap_one]
          exact .inl ⟨_, (), _, hb, by simp [trunc, mask, A48M0, Sto.e, eVals]; rfl, trivial, fun e st h => by rw [hlast] at h; exact h⟩
      · rw [if_pos (by simpa using qr)]
        have hb : acode (run1 code ext n) n A48L0 (A48H0 (.ptr 0 0 0) (.i i), ⟨[.box 0 s.e], [], nx⟩) = acode (run1 code ext n) n A48L0 (A48H0 (.ptr 0 0 0) (.i i), ⟨[.box 0 s.e], [], nx⟩) := rfl
        conv at hb => rhs; simp [acode, runOps, step1, aop, wantedA, ev, put, opened, binV, binInt, binStr, app_v, Pr.run, Pr.map, Pr.bind, Pr.mapP, loadA, storeA, cellsVal, Pr.ofOption, cells, fillA, splice, nz, dr, cln, flat, one, bnd, slA, items, appA, Hp.get, Hp.app, Hp.set, eqAll, eq1, lookA, resA, rvA, fin, AV.i, AV.b, AV.s, beq_int, bne_int, emp_is, emp_iff, runD, step2, clash, apartFP, Pr.log, A48L0, Sto.e, Ver.e, eVals, hi, hg, hw, w1, e1, e2, q3, e4, qr]
        exact .inr ⟨.ret, _, by simp, hb, by simp [LE, fl, qr]⟩
    · intro q1 q2 q3 q4 qq
      rw [q1] at e1
      have w2 := w2 q2
      rw [q2] at e2
      rw [q4] at e3
      rw [qq, if_pos (by simp)]
      have hb : acode (run1 code ext n) n A48L0 (A48H0 (.ptr 0 0 0) (.i i), ⟨[.box 0 s.e], [], nx⟩) = acode (run1 code ext n) n A48L0 (A48H0 (.ptr 0 0 0) (.i i), ⟨[.box 0 s.e], [], nx⟩) := rfl
      conv at hb => rhs; simp [acode, runOps, step1, aop, wantedA, ev, put, opened, binV, binInt, binStr, app_v, Pr.run, Pr.map, Pr.bind, Pr.mapP, loadA, storeA, cellsVal, Pr.ofOption, cells, fillA, splice, nz, dr, cln, flat, one, bnd, slA, items, appA, Hp.get, Hp.app, Hp.set, eqAll, eq1, lookA, resA, rvA, fin, AV.i, AV.b, AV.s, beq_int, bne_int, emp_is, emp_iff, runD, step2, clash, apartFP, Pr.log, A48L0, Sto.e, Ver.e, eVals, hi, hg, hw, w1, e1, e2, q3, w2, e3]
      exact .inr ⟨.ret, _, by simp, hb, by simp [LE, fl]⟩
    · intro q1 q2 q3 q4 q5 qq
      rw [q1] at e1
      have w2 := w2 q2
      rw [q2] at e2
      rw [q4] at e3
      rw [qq, if_pos (by simp)]
      have hb : acode (run1 code ext n) n A48L0 (A48H0 (.ptr 0 0 0) (.i i), ⟨[.box 0 s.e], [], nx⟩) = acode (run1 code ext n) n A48L0 (A48H0 (.ptr 0 0 0) (.i i), ⟨[.box 0 s.e], [], nx⟩) := rfl
      conv at hb => rhs; simp [acode, runOps, step1, aop, wantedA, ev, put, opened, binV, binInt, binStr, app_v, Pr.run, Pr.map, Pr.bind, Pr.mapP, loadA, storeA, cellsVal, Pr.ofOption, cells, fillA, splice, nz, dr, cln, flat, one, bnd, slA, items, appA, Hp.get, Hp.app, Hp.set, eqAll, eq1, lookA, resA, rvA, fin, AV.i, AV.b, AV.s, beq_int, bne_int, emp_is, emp_iff, runD, step2, clash, apartFP, Pr.log, A48L0, Sto.e, Ver.e, eVals, hi, hg, hw, w1, e1, e2, q3, w2, e3, q5]
      exact .inr ⟨.ret, _, by simp, hb, by simp [LE, fl]⟩
    · intro q1 q2 q3 q4 q5 qq
      rw [q1] at e1
      have w2 := w2 q2
      rw [q2] at e2
      rw [q4] at e3
      rw [qq]
      by_cases qr : ckRow s.cols v.vals = 0
      · rw [qr] at e4
        rw [if_neg (by simpa using qr)]
        by_cases h0 : 0 < i
        · have hw1 := wrap_pred i h0 (by omega)
          obtain ⟨b, hgb⟩ : ∃ b, s.vers[i - 1] = b := ⟨_, rfl⟩
          have hi1 : i - 1 < s.vers.length := by omega
          have hp : (s.vers.take i).getLast? = some b := by
            have := last_take hi1
            rw [hgb, show i - 1 + 1 = i by omega] at this
            exact this
          rw [hp]
          refine off_cases v b _ ?_ ?_ ?_ ?_
          · intro a1 a2
            rw [if_pos a2]
            have hb : acode (run1 code ext n) n A48L0 (A48H0 (.ptr 0 0 0) (.i i), ⟨[.box 0 s.e], [], nx⟩) = acode (run1 code ext n) n A48L0 (A48H0 (.ptr 0 0 0) (.i i), ⟨[.box 0 s.e], [], nx⟩) := rfl
            conv at hb => rhs; simp [acode, runOps, step1, aop, wantedA, ev, put, opened, binV, binInt, binStr, app_v, Pr.run, Pr.map, Pr.bind, Pr.mapP, loadA, storeA, cellsVal, Pr.ofOption, cells, fillA, splice, nz, dr, cln, flat, one, bnd, slA, items, appA, Hp.get, Hp.app, Hp.set, eqAll, eq1, lookA, resA, rvA, fin, AV.i, AV.b, AV.s, beq_int, bne_int, emp_is, emp_iff, runD, step2, clash, apartFP, Pr.log, A48L0, Sto.e, Ver.e, eVals, hi, hg, hw, w1, e1, e2, q3, w2, e3, q5, e4, h0, hw1, hi1, hgb, a1]
            exact .inr ⟨.ret, _, by simp, hb, by simp [LE, fl]⟩
          · intro a1 a2 a3
            rw [if_neg (by simp [a3])]
            have hb : acode (run1 code ext n) n A48L0 (A48H0 (.ptr 0 0 0) (.i i), ⟨[.box 0 s.e], [], nx⟩) = acode (run1 code ext n) n A48L0 (A48H0 (.ptr 0 0 0) (.i i), ⟨[.box 0 s.e], [], nx⟩) := rfl
            conv at hb => rhs; simp [acode, runOps, step1, aop, wantedA, ev, put, opened, binV, binInt, binStr, app_v, Pr.run, Pr.map, Pr.bind, Pr.mapP, loadA, storeA, cellsVal, Pr.ofOption, cells, fillA, splice, nz, dr, cln, flat, one, bnd, slA, items, appA, Hp.get, Hp.app, Hp.set, eqAll, eq1, lookA, resA, rvA, fin, AV.i, AV.b, AV.s, beq_int, bne_int, emp_is, emp_iff, runD, step2, clash, apartFP, Pr.log, A48L0, Sto.e, Ver.e, eVals, hi, hg, hw, w1, e1, e2, q3, w2, e3, q5, e4, h0, hw1, hi1, hgb, a1, a2]
            exact .inl ⟨_, (), _, hb, by simp [trunc, mask, A48M0, Sto.e, eVals]; rfl, trivial, fun e st h => by rw [hlast] at h; exact h⟩
          · intro a1 a2 a3 a4
            rw [if_pos a4]
            have hb : acode (run1 code ext n) n A48L0 (A48H0 (.ptr 0 0 0) (.i i), ⟨[.box 0 s.e], [], nx⟩) = acode (run1 code ext n) n A48L0 (A48H0 (.ptr 0 0 0) (.i i), ⟨[.box 0 s.e], [], nx⟩) := rfl
            conv at hb => rhs; simp [acode, runOps, step1, aop, wantedA, ev, put, opened, binV, binInt, binStr, app_v, Pr.run, Pr.map, Pr.bind, Pr.mapP, loadA, storeA, cellsVal, Pr.ofOption, cells, fillA, splice, nz, dr, cln, flat, one, bnd, slA, items, appA, Hp.get, Hp.app, Hp.set, eqAll, eq1, lookA, resA, rvA, fin, AV.i, AV.b, AV.s, beq_int, bne_int, emp_is, emp_iff, runD, step2, clash, apartFP, Pr.log, A48L0, Sto.e, Ver.e, eVals, hi, hg, hw, w1, e1, e2, q3, w2, e3, q5, e4, h0, hw1, hi1, hgb, a1, a2, a3]
            exact .inr ⟨.ret, _, by simp, hb, by simp [LE, fl]⟩
          · intro a1 a2 a3 a4
            rw [if_neg (by simp [a4])]
            have hb : acode (run1 code ext n) n A48L0 (A48H0 (.ptr 0 0 0) (.i i), ⟨[.box 0 s.e], [], nx⟩) = acode (run1 code ext n) n A48L0 (A48H0 (.ptr 0 0 0) (.i i), ⟨[.box 0 s.e], [], nx⟩) := rfl
            conv at hb => rhs; simp [acode, runOps, step1, aop, wantedA, ev, put, opened, binV, binInt, binStr, app_v, Pr.run, Pr.map, Pr.bind, Pr.mapP, loadA, storeA, cellsVal, Pr.ofOption, cells, fillA, splice, nz, dr, cln, flat, one, bnd, slA, items, appA, Hp.get, Hp.app, Hp.set, eqAll, eq1, lookA, resA, rvA, fin, AV.i, AV.b, AV.s, beq_int, bne_int, emp_is, emp_iff, runD, step2, clash, apartFP, Pr.log, A48L0, Sto.e, Ver.e, eVals, hi, hg, hw, w1, e1, e2, q3, w2, e3, q5, e4, h0, hw1, hi1, hgb, a1, a2, a3]
            exact .inl ⟨_, (), _, hb, by simp [trunc, mask, A48M0, Sto.e, eVals]; rfl, trivial, fun e st h => by rw [hlast] at h; exact h⟩
        · obtain rfl : i = 0 := by omega
          rw [if_neg (by simp [offOrder])]
          have hb : acode (run1 code ext n) n A48L0 (A48H0 (.ptr 0 0 0) (.i (0 : Nat)), ⟨[.box 0 s.e], [], nx⟩) = acode (run1 code ext n) n A48L0 (A48H0 (.ptr 0 0 0) (.i (0 : Nat)), ⟨[.box 0 s.e], [], nx⟩) := rfl
          conv at hb => rhs; simp [acode, runOps, step1, aop, wantedA, ev, put, opened, binV, binInt, binStr, app_v, Pr.run, Pr.map, Pr.bind, Pr.mapP, loadA, storeA, cellsVal, Pr.ofOption, cells, fillA, splice, nz, dr, cln, flat, one, bnd, slA, items, appA, Hp.get, Hp.app, Hp.set, eqAll, eq1, lookA, resA, rvA, fin, AV.i, AV.b, AV.s, beq_int, bne_int, emp_is, emp_iff, runD, step2, clash, apartFP, Pr.log, A48L0, Sto.e, Ver.e, eVals, hi, hg, hw, w1, e1, e2, q3, w2, e3, q5, e4, wrap_one]
          exact .inl ⟨_, (), _, hb, by simp [trunc, mask, A48M0, Sto.e, eVals]; rfl, trivial, fun e st h => by rw [hlast] at h; exact h⟩
      · rw [if_pos (by simpa using qr)]
        have hb : acode (run1 code ext n) n A48L0 (A48H0 (.ptr 0 0 0) (.i i), ⟨[.box 0 s.e], [], nx⟩) = acode (run1 code ext n) n A48L0 (A48H0 (.ptr 0 0 0) (.i i), ⟨[.box 0 s.e], [], nx⟩) := rfl
        conv at hb => rhs; simp [acode, runOps, step1, aop, wantedA, ev, put, opened, binV, binInt, binStr, app_v, Pr.run, Pr.map, Pr.bind, Pr.mapP, loadA, storeA, cellsVal, Pr.ofOption, cells, fillA, splice, nz, dr, cln, flat, one, bnd, slA, items, appA, Hp.get, Hp.app, Hp.set, eqAll, eq1, lookA, resA, rvA, fin, AV.i, AV.b, AV.s, beq_int, bne_int, emp_is, emp_iff, runD, step2, clash, apartFP, Pr.log, A48L0, Sto.e, Ver.e, eVals, hi, hg, hw, w1, e1, e2, q3, w2, e3, q5, e4, qr]
        exact .inr ⟨.ret, _, by simp, hb, by simp [LE, fl, qr]⟩
end Go.Pv
