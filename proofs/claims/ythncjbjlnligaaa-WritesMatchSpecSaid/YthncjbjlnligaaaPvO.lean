/-
  What functions come to: the check of a store. Conditions: none.
-/
import Derived.Test.YthncjbjlnligaaaPvN
set_option linter.unusedVariables false
set_option linter.unusedSimpArgs false
namespace Go.Pv
open Go
set_option maxRecDepth 100000
set_option maxHeartbeats 8000000

theorem loop46c (n : Nat) (hn : 2 ^ 64 + 6 ≤ n) (s : Sto) (hs : Bd s) (um : Nat) (m i nx : Nat) (rs : List Ob) (th : Int → Bool) (hI : ∃ es, rs[0]? = some (.map um es) ∧ ∀ k, (lookA (.b false) es k).1 = .b (th k)) (hi : i ≤ s.opn.length) (hm : s.opn.length - i < m) :
    ∃ e st, iter (acode (run1 code ext n) n A46L2) 1 A46M2 m (A46H2 (.ptr 0 0 0) (.mp 0 um) (roT s.opn) (.i s.opn.length) (.i i), ⟨[.box 0 s.e], rs, nx⟩) = some (e, st) ∧ LX 2 2 95 (fl (ckOpenL wroteS s th (s.opn.take i).getLast? (s.opn.drop i))) e st := by
  have ho := hs.o
  have hv := hs.v
  have w1 : IntKind.i64.wrap (s.nextTrans - 1) = s.nextTrans - 1 := wrap_in _ (by have := hs.nt; omega)
  refine loop_list (f := acode (run1 code ext n) n A46L2) (k := 1) (M := A46M2) s.opn (fun i (x : List Ob × (Int → Bool)) nx => (A46H2 (.ptr 0 0 0) (.mp 0 um) (roT s.opn) (.i s.opn.length) (.i i), ⟨[.box 0 s.e], x.1, nx⟩)) (fun i x => ∃ es, x.1[0]? = some (.map um es) ∧ ∀ k, (lookA (.b false) es k).1 = .b (x.2 k)) (fun i r x e st => LX 2 2 95 (fl (ckOpenL wroteS s x.2 (s.opn.take i).getLast? r)) e st) ?_ ?_ m i (rs, th) nx hi hm hI
  · intro x nx _
    have hb : acode (run1 code ext n) n A46L2 (A46H2 (.ptr 0 0 0) (.mp 0 um) (roT s.opn) (.i s.opn.length) (.i s.opn.length), ⟨[.box 0 s.e], x.1, nx⟩) = acode (run1 code ext n) n A46L2 (A46H2 (.ptr 0 0 0) (.mp 0 um) (roT s.opn) (.i s.opn.length) (.i s.opn.length), ⟨[.box 0 s.e], x.1, nx⟩) := rfl
    conv at hb => rhs; simp [acode, runOps, step1, aop, wantedA, ev, put, opened, binV, binInt, binStr, app_v, Pr.run, Pr.map, Pr.bind, Pr.mapP, loadA, storeA, cellsVal, Pr.ofOption, cells, fillA, splice, nz, dr, cln, flat, one, bnd, slA, items, appA, Hp.get, Hp.app, Hp.set, eqAll, eq1, lookA, resA, rvA, fin, AV.i, AV.b, AV.s, beq_int, bne_int, emp_is, emp_iff, runD, step2, clash, apartFP, Pr.log, A46L2]
    exact ⟨_, _, by simp, hb, by simp [LX, ckOpenL, fl]⟩
  · intro i hi t x nx hg hI
    obtain ⟨rs, th⟩ := x
    simp only at hI ⊢
    have hw := wrap_nat i (by omega)
    have h1 := e44 t.id 1 (s.nextTrans - 1) n (by omega)
    have h2 := e44 t.sees s.swept s.last n (by omega)
    have hlast := last_take hi
    rw [hg] at hlast
    simp only [ckOpenL_step]
    have hbl := base_len s.vers t.sees
    have key : ∃ o, (s.opn.take i).getLast? = o ∧ ((i = 0 ∧ o = none) ∨ (0 < i ∧ ∃ h : i - 1 < s.opn.length, o = some s.opn[i - 1])) := by
      refine ⟨_, rfl, ?_⟩
      rcases Nat.eq_zero_or_pos i with h0 | h0
      · exact .inl ⟨h0, by rw [h0]; rfl⟩
      · have hi1 : i - 1 < s.opn.length := by omega
        have := last_take hi1
        rw [show i - 1 + 1 = i by omega] at this
        exact .inr ⟨h0, hi1, this⟩
    obtain ⟨o, hoe, hoc⟩ := key
    rw [hoe]
    refine tr_cases s o t _ ?_ ?_ ?_ ?_ ?_
    · intro q1 qq
      rw [q1] at h1
      rw [qq, if_pos (by simp)]
      have hb : acode (run1 code ext n) n A46L2 (A46H2 (.ptr 0 0 0) (.mp 0 um) (roT s.opn) (.i s.opn.length) (.i i), ⟨[.box 0 s.e], rs, nx⟩) = acode (run1 code ext n) n A46L2 (A46H2 (.ptr 0 0 0) (.mp 0 um) (roT s.opn) (.i s.opn.length) (.i i), ⟨[.box 0 s.e], rs, nx⟩) := rfl
      conv at hb => rhs; simp [acode, runOps, step1, aop, wantedA, ev, put, opened, binV, binInt, binStr, app_v, Pr.run, Pr.map, Pr.bind, Pr.mapP, loadA, storeA, cellsVal, Pr.ofOption, cells, fillA, splice, nz, dr, cln, flat, one, bnd, slA, items, appA, Hp.get, Hp.app, Hp.set, eqAll, eq1, lookA, resA, rvA, fin, AV.i, AV.b, AV.s, beq_int, bne_int, emp_is, emp_iff, runD, step2, clash, apartFP, Pr.log, A46L2, Sto.e, Tr.e, roT, hi, hg, hw, w1, h1]
      exact .inr ⟨.ret, _, by simp, hb, by simp [LX, fl]⟩
    · intro q1 q2 qq
      obtain ⟨q, rfl, hq⟩ := q2
      rcases hoc with ⟨_, h⟩ | ⟨h0, hi1, h⟩
      · cases h
      cases h
      rw [q1] at h1
      rw [qq, if_pos (by simp)]
      obtain ⟨b0, hgb⟩ : ∃ b0, s.opn[i - 1] = b0 := ⟨_, rfl⟩
      rw [hgb] at hq
      have hw1 := wrap_pred i h0 (by omega)
      have hb : acode (run1 code ext n) n A46L2 (A46H2 (.ptr 0 0 0) (.mp 0 um) (roT s.opn) (.i s.opn.length) (.i i), ⟨[.box 0 s.e], rs, nx⟩) = acode (run1 code ext n) n A46L2 (A46H2 (.ptr 0 0 0) (.mp 0 um) (roT s.opn) (.i s.opn.length) (.i i), ⟨[.box 0 s.e], rs, nx⟩) := rfl
      conv at hb => rhs; simp [acode, runOps, step1, aop, wantedA, ev, put, opened, binV, binInt, binStr, app_v, Pr.run, Pr.map, Pr.bind, Pr.mapP, loadA, storeA, cellsVal, Pr.ofOption, cells, fillA, splice, nz, dr, cln, flat, one, bnd, slA, items, appA, Hp.get, Hp.app, Hp.set, eqAll, eq1, lookA, resA, rvA, fin, AV.i, AV.b, AV.s, beq_int, bne_int, emp_is, emp_iff, runD, step2, clash, apartFP, Pr.log, A46L2, Sto.e, Tr.e, roT, hi, hg, hw, w1, h1, h0, hw1, hi1, hgb, hq]
      exact .inr ⟨.ret, _, by simp, hb, by simp [LX, fl]⟩
    · intro q1 q2 q3 qq
      rw [q1] at h1
      rw [q3] at h2
      rw [qq, if_pos (by simp)]
      rcases hoc with ⟨hi0, rfl⟩ | ⟨h0, hi1, rfl⟩
      · have h0f : ¬ 0 < i := by omega
        have hb : acode (run1 code ext n) n A46L2 (A46H2 (.ptr 0 0 0) (.mp 0 um) (roT s.opn) (.i s.opn.length) (.i i), ⟨[.box 0 s.e], rs, nx⟩) = acode (run1 code ext n) n A46L2 (A46H2 (.ptr 0 0 0) (.mp 0 um) (roT s.opn) (.i s.opn.length) (.i i), ⟨[.box 0 s.e], rs, nx⟩) := rfl
        conv at hb => rhs; simp [acode, runOps, step1, aop, wantedA, ev, put, opened, binV, binInt, binStr, app_v, Pr.run, Pr.map, Pr.bind, Pr.mapP, loadA, storeA, cellsVal, Pr.ofOption, cells, fillA, splice, nz, dr, cln, flat, one, bnd, slA, items, appA, Hp.get, Hp.app, Hp.set, eqAll, eq1, lookA, resA, rvA, fin, AV.i, AV.b, AV.s, beq_int, bne_int, emp_is, emp_iff, runD, step2, clash, apartFP, Pr.log, A46L2, Sto.e, Tr.e, roT, hi, hg, hw, w1, h1, h2, h0f]
        exact .inr ⟨.ret, _, by simp, hb, by simp [LX, fl]⟩
      · have hq := q2 _ rfl
        obtain ⟨b0, hgb⟩ : ∃ b0, s.opn[i - 1] = b0 := ⟨_, rfl⟩
        rw [hgb] at hq
        have hw1 := wrap_pred i h0 (by omega)
        have hb : acode (run1 code ext n) n A46L2 (A46H2 (.ptr 0 0 0) (.mp 0 um) (roT s.opn) (.i s.opn.length) (.i i), ⟨[.box 0 s.e], rs, nx⟩) = acode (run1 code ext n) n A46L2 (A46H2 (.ptr 0 0 0) (.mp 0 um) (roT s.opn) (.i s.opn.length) (.i i), ⟨[.box 0 s.e], rs, nx⟩) := rfl
        conv at hb => rhs; simp [acode, runOps, step1, aop, wantedA, ev, put, opened, binV, binInt, binStr, app_v, Pr.run, Pr.map, Pr.bind, Pr.mapP, loadA, storeA, cellsVal, Pr.ofOption, cells, fillA, splice, nz, dr, cln, flat, one, bnd, slA, items, appA, Hp.get, Hp.app, Hp.set, eqAll, eq1, lookA, resA, rvA, fin, AV.i, AV.b, AV.s, beq_int, bne_int, emp_is, emp_iff, runD, step2, clash, apartFP, Pr.log, A46L2, Sto.e, Tr.e, roT, hi, hg, hw, w1, h1, h2, h0, hw1, hi1, hgb, hq]
        exact .inr ⟨.ret, _, by simp, hb, by simp [LX, fl]⟩
    · intro q1 q2 q3 q4 qq
      rw [q1] at h1
      rw [q3] at h2
      rw [qq, if_pos (by simp)]
      rcases hoc with ⟨hi0, rfl⟩ | ⟨h0, hi1, rfl⟩
      · have h0f : ¬ 0 < i := by omega
        have hb : acode (run1 code ext n) n A46L2 (A46H2 (.ptr 0 0 0) (.mp 0 um) (roT s.opn) (.i s.opn.length) (.i i), ⟨[.box 0 s.e], rs, nx⟩) = acode (run1 code ext n) n A46L2 (A46H2 (.ptr 0 0 0) (.mp 0 um) (roT s.opn) (.i s.opn.length) (.i i), ⟨[.box 0 s.e], rs, nx⟩) := rfl
        conv at hb => rhs; simp [acode, runOps, step1, aop, wantedA, ev, put, opened, binV, binInt, binStr, app_v, Pr.run, Pr.map, Pr.bind, Pr.mapP, loadA, storeA, cellsVal, Pr.ofOption, cells, fillA, splice, nz, dr, cln, flat, one, bnd, slA, items, appA, Hp.get, Hp.app, Hp.set, eqAll, eq1, lookA, resA, rvA, fin, AV.i, AV.b, AV.s, beq_int, bne_int, emp_is, emp_iff, runD, step2, clash, apartFP, Pr.log, A46L2, Sto.e, Tr.e, roT, hi, hg, hw, w1, h1, h2, q4, h0f]
        exact .inr ⟨.ret, _, by simp, hb, by simp [LX, fl]⟩
      · have hq := q2 _ rfl
        obtain ⟨b0, hgb⟩ : ∃ b0, s.opn[i - 1] = b0 := ⟨_, rfl⟩
        rw [hgb] at hq
        have hw1 := wrap_pred i h0 (by omega)
        have hb : acode (run1 code ext n) n A46L2 (A46H2 (.ptr 0 0 0) (.mp 0 um) (roT s.opn) (.i s.opn.length) (.i i), ⟨[.box 0 s.e], rs, nx⟩) = acode (run1 code ext n) n A46L2 (A46H2 (.ptr 0 0 0) (.mp 0 um) (roT s.opn) (.i s.opn.length) (.i i), ⟨[.box 0 s.e], rs, nx⟩) := rfl
        conv at hb => rhs; simp [acode, runOps, step1, aop, wantedA, ev, put, opened, binV, binInt, binStr, app_v, Pr.run, Pr.map, Pr.bind, Pr.mapP, loadA, storeA, cellsVal, Pr.ofOption, cells, fillA, splice, nz, dr, cln, flat, one, bnd, slA, items, appA, Hp.get, Hp.app, Hp.set, eqAll, eq1, lookA, resA, rvA, fin, AV.i, AV.b, AV.s, beq_int, bne_int, emp_is, emp_iff, runD, step2, clash, apartFP, Pr.log, A46L2, Sto.e, Tr.e, roT, hi, hg, hw, w1, h1, h2, q4, h0, hw1, hi1, hgb, hq]
        exact .inr ⟨.ret, _, by simp, hb, by simp [LX, fl]⟩
    · intro q1 q2 q3 q4 qq
      rw [q1] at h1
      rw [q3] at h2
      rw [qq, if_neg (by simp)]
      obtain ⟨es, hm0, hlk⟩ := hI
      obtain ⟨hm1, hm2⟩ := List.getElem?_eq_some_iff.1 hm0
      obtain ⟨v, rs1, nx1, h3, ⟨tl, rfl, htl⟩, hsl⟩ := e74 s t.sees rs (by omega) n (by omega) (nx + 1 + 6 + 7 + 14 + 8 + 4 + 5)
      simp only [Sto.e] at h3
      have hI2 : In46 um rs.length (rs ++ tl) v (baseS s.vers t.sees) th := ⟨⟨es, by rw [List.getElem?_append_left hm1]; exact hm0, hlk⟩, hsl, by omega, fun h => by rw [htl h, List.append_nil]⟩
      obtain ⟨e, st, k1, k2⟩ := loop46b n hn s hs t (by omega) um (nx + 1 + 3) rs.length (baseS s.vers t.sees).length (by omega) (roT s.opn) (.i s.opn.length) (.i i) n 0 (nx1 + 4) ⟨rs ++ tl, v, baseS s.vers t.sees, th⟩ hI2 (Nat.le_refl _) (Nat.zero_le _) (by omega)
      simp only [List.drop_zero] at k2
      simp only [Int.natCast_zero, Sto.e, Tr.e, roT, roW] at k1
      by_cases q : (ckWrs wroteS s (baseS s.vers t.sees) th t.writes).1 = 0
      · unfold Q46 at k2
        simp only [q, fl_zero] at k2
        obtain ⟨v', rs', nx', rfl, rfl, hth⟩ := k2
        simp only [F46, roT, roW] at k1
        rw [if_neg (by simpa using q)]
        rcases hoc with ⟨hi0, rfl⟩ | ⟨h0, hi1, rfl⟩
        · have h0f : ¬ 0 < i := by omega
          have hb : acode (run1 code ext n) n A46L2 (A46H2 (.ptr 0 0 0) (.mp 0 um) (roT s.opn) (.i s.opn.length) (.i i), ⟨[.box 0 s.e], rs, nx⟩) = acode (run1 code ext n) n A46L2 (A46H2 (.ptr 0 0 0) (.mp 0 um) (roT s.opn) (.i s.opn.length) (.i i), ⟨[.box 0 s.e], rs, nx⟩) := rfl
          conv at hb => rhs; simp [acode, runOps, step1, aop, wantedA, ev, put, opened, binV, binInt, binStr, app_v, Pr.run, Pr.map, Pr.bind, Pr.mapP, loadA, storeA, cellsVal, Pr.ofOption, cells, fillA, splice, nz, dr, cln, flat, one, bnd, slA, items, appA, Hp.get, Hp.app, Hp.set, eqAll, eq1, lookA, resA, rvA, fin, AV.i, AV.b, AV.s, beq_int, bne_int, emp_is, emp_iff, runD, step2, clash, apartFP, Pr.log, A46L2, Sto.e, Tr.e, roT, hi, hg, hw, w1, h1, h2, h3, q4, A46M1_eq, k1, h0f]
          exact .inl ⟨_, (rs', (ckWrs wroteS s (baseS s.vers t.sees) th t.writes).2), _, hb, by simp [trunc, mask, A46M2, Sto.e, roT]; rfl, hth, fun e st h => by rw [hlast] at h; exact h⟩
        · have hq := q2 _ rfl
          obtain ⟨b0, hgb⟩ : ∃ b0, s.opn[i - 1] = b0 := ⟨_, rfl⟩
          rw [hgb] at hq
          have hw1 := wrap_pred i h0 (by omega)
          have hb : acode (run1 code ext n) n A46L2 (A46H2 (.ptr 0 0 0) (.mp 0 um) (roT s.opn) (.i s.opn.length) (.i i), ⟨[.box 0 s.e], rs, nx⟩) = acode (run1 code ext n) n A46L2 (A46H2 (.ptr 0 0 0) (.mp 0 um) (roT s.opn) (.i s.opn.length) (.i i), ⟨[.box 0 s.e], rs, nx⟩) := rfl
          conv at hb => rhs; simp [acode, runOps, step1, aop, wantedA, ev, put, opened, binV, binInt, binStr, app_v, Pr.run, Pr.map, Pr.bind, Pr.mapP, loadA, storeA, cellsVal, Pr.ofOption, cells, fillA, splice, nz, dr, cln, flat, one, bnd, slA, items, appA, Hp.get, Hp.app, Hp.set, eqAll, eq1, lookA, resA, rvA, fin, AV.i, AV.b, AV.s, beq_int, bne_int, emp_is, emp_iff, runD, step2, clash, apartFP, Pr.log, A46L2, Sto.e, Tr.e, roT, hi, hg, hw, w1, h1, h2, h3, q4, A46M1_eq, k1, h0, hw1, hi1, hgb, hq]
          exact .inl ⟨_, (rs', (ckWrs wroteS s (baseS s.vers t.sees) th t.writes).2), _, hb, by simp [trunc, mask, A46M2, Sto.e, roT]; rfl, hth, fun e st h => by rw [hlast] at h; exact h⟩
      · unfold Q46 at k2
        simp only [fl_pos q] at k2
        obtain ⟨F, h, rfl, rfl, hF⟩ : ∃ F h, e = .ret ∧ st = (F, h) ∧ F[2]? = some (.i (ckWrs wroteS s (baseS s.vers t.sees) th t.writes).1) := ⟨st.1, st.2, k2.1, rfl, k2.2⟩
        rw [if_pos (by simpa using q), fl_pos q]
        rcases hoc with ⟨hi0, rfl⟩ | ⟨h0, hi1, rfl⟩
        · have h0f : ¬ 0 < i := by omega
          have hb : acode (run1 code ext n) n A46L2 (A46H2 (.ptr 0 0 0) (.mp 0 um) (roT s.opn) (.i s.opn.length) (.i i), ⟨[.box 0 s.e], rs, nx⟩) = acode (run1 code ext n) n A46L2 (A46H2 (.ptr 0 0 0) (.mp 0 um) (roT s.opn) (.i s.opn.length) (.i i), ⟨[.box 0 s.e], rs, nx⟩) := rfl
          conv at hb => rhs; simp [acode, runOps, step1, aop, wantedA, ev, put, opened, binV, binInt, binStr, app_v, Pr.run, Pr.map, Pr.bind, Pr.mapP, loadA, storeA, cellsVal, Pr.ofOption, cells, fillA, splice, nz, dr, cln, flat, one, bnd, slA, items, appA, Hp.get, Hp.app, Hp.set, eqAll, eq1, lookA, resA, rvA, fin, AV.i, AV.b, AV.s, beq_int, bne_int, emp_is, emp_iff, runD, step2, clash, apartFP, Pr.log, A46L2, Sto.e, Tr.e, roT, hi, hg, hw, w1, h1, h2, h3, q4, A46M1_eq, k1, h0f]
          exact .inr ⟨.ret, _, by simp, hb, by simp [LX, hF]⟩
        · have hq := q2 _ rfl
          obtain ⟨b0, hgb⟩ : ∃ b0, s.opn[i - 1] = b0 := ⟨_, rfl⟩
          rw [hgb] at hq
          have hw1 := wrap_pred i h0 (by omega)
          have hb : acode (run1 code ext n) n A46L2 (A46H2 (.ptr 0 0 0) (.mp 0 um) (roT s.opn) (.i s.opn.length) (.i i), ⟨[.box 0 s.e], rs, nx⟩) = acode (run1 code ext n) n A46L2 (A46H2 (.ptr 0 0 0) (.mp 0 um) (roT s.opn) (.i s.opn.length) (.i i), ⟨[.box 0 s.e], rs, nx⟩) := rfl
          conv at hb => rhs; simp [acode, runOps, step1, aop, wantedA, ev, put, opened, binV, binInt, binStr, app_v, Pr.run, Pr.map, Pr.bind, Pr.mapP, loadA, storeA, cellsVal, Pr.ofOption, cells, fillA, splice, nz, dr, cln, flat, one, bnd, slA, items, appA, Hp.get, Hp.app, Hp.set, eqAll, eq1, lookA, resA, rvA, fin, AV.i, AV.b, AV.s, beq_int, bne_int, emp_is, emp_iff, runD, step2, clash, apartFP, Pr.log, A46L2, Sto.e, Tr.e, roT, hi, hg, hw, w1, h1, h2, h3, q4, A46M1_eq, k1, h0, hw1, hi1, hgb, hq]
          exact .inr ⟨.ret, _, by simp, hb, by simp [LX, hF]⟩

theorem e46 (s : Sto) (hs : Bd s) : Is code ext 7 46 [.agg s.e] (.i (ckOpen wroteS s)) := by
  refine Is.step code ext c46 fun n hn => ?_
  have ho := hs.o
  have hv := hs.v
  obtain ⟨e, st, p2, es', nx', rfl, rfl, hlk⟩ := loop46a (run1 code ext n) n s 2 (by omega) n 0 8 [] (Nat.zero_le _) (by omega) (fun r => rfl)
  simp only [Int.natCast_zero, Sto.e, roV] at p2
  obtain ⟨e, st, q2, q3⟩ := loop46c n hn s hs 2 n 0 (nx' + 4) [.map 2 es'] (hasV s) ⟨es', rfl, hlk⟩ (Nat.zero_le _) (by omega)
  simp only [List.drop_zero, List.take_zero, List.getLast?_nil] at q3
  simp only [Int.natCast_zero, Sto.e, roT] at q2
  unfold ckOpen
  by_cases hq : ckOpenL wroteS s (hasV s) none s.opn = 0
  · rw [hq, fl_zero] at q3
    obtain ⟨F, h, rfl, rfl, hF⟩ := q3.exit
    simp [A46, acode, runOps, step1, aop, wantedA, ev, put, opened, binV, binInt, binStr, app_v, Pr.run, Pr.map, Pr.bind, Pr.mapP, loadA, storeA, cellsVal, Pr.ofOption, cells, fillA, splice, nz, dr, cln, flat, one, bnd, slA, items, appA, Hp.get, Hp.app, Hp.set, eqAll, eq1, lookA, resA, rvA, fin, AV.i, AV.b, AV.s, beq_int, bne_int, emp_is, emp_iff, runD, step2, clash, apartFP, Pr.log, Sto.e, roV, A46M0_eq, A46M2_eq, p2, q2, hq, hF]
  · rw [fl_pos hq] at q3
    obtain ⟨F, h, rfl, rfl, hF⟩ := q3.back
    simp [A46, acode, runOps, step1, aop, wantedA, ev, put, opened, binV, binInt, binStr, app_v, Pr.run, Pr.map, Pr.bind, Pr.mapP, loadA, storeA, cellsVal, Pr.ofOption, cells, fillA, splice, nz, dr, cln, flat, one, bnd, slA, items, appA, Hp.get, Hp.app, Hp.set, eqAll, eq1, lookA, resA, rvA, fin, AV.i, AV.b, AV.s, beq_int, bne_int, emp_is, emp_iff, runD, step2, clash, apartFP, Pr.log, Sto.e, roV, A46M0_eq, A46M2_eq, p2, q2, hF]
end Go.Pv

namespace Go.Pv
open Go
set_option maxRecDepth 100000
set_option maxHeartbeats 8000000

/-- What every store that can be handed in is. -/
structure Wf (s : Sto) : Prop where
  c : s.cols.length < 2 ^ 63
  v : s.vers.length < 2 ^ 63
  o : s.opn.length < 2 ^ 63
  cn : ∀ c ∈ s.cols, c.name.size < 2 ^ 63
  vt : ∀ v ∈ s.vers, ∀ a ∈ v.vals, a.text.size < 2 ^ 63
  ot : ∀ t ∈ s.opn, ∀ w ∈ t.writes, ∀ a ∈ w.vals, a.text.size < 2 ^ 63

/-- The numbers' bounds, one after another. -/
def numsOK (s : Sto) : Bool := inB s.last 0 1000000 && inB s.nextRow 1 1000000 && inB s.nextTrans 1 1000000 && inB s.swept 0 s.last

theorem bd_of {s : Sto} (hw : Wf s) (hc : s.cols.length ≤ 20) (hv : s.vers.length ≤ 3000) (ho : s.opn.length ≤ 20) (hn : numsOK s = true) : Bd s := by
  simp [numsOK, inB] at hn
  exact ⟨by omega, by omega, ho, by omega, by omega, by omega, hw.vt, hw.ot⟩

theorem ckCols_len {c : List Col} (h : ckCols c = 0) : c.length ≤ 20 ∧ 0 < c.length := by
  unfold ckCols at h
  split at h
  · omega
  · split at h <;> omega

theorem nums_cases (s : Sto) (p : Prop) (h1 : inB s.last 0 1000000 = false → numsOK s = false → p) (h2 : inB s.last 0 1000000 = true → inB s.nextRow 1 1000000 = false → numsOK s = false → p)
    (h3 : inB s.last 0 1000000 = true → inB s.nextRow 1 1000000 = true → inB s.nextTrans 1 1000000 = false → numsOK s = false → p)
    (h4 : inB s.last 0 1000000 = true → inB s.nextRow 1 1000000 = true → inB s.nextTrans 1 1000000 = true → inB s.swept 0 s.last = false → numsOK s = false → p)
    (h5 : inB s.last 0 1000000 = true → inB s.nextRow 1 1000000 = true → inB s.nextTrans 1 1000000 = true → inB s.swept 0 s.last = true → numsOK s = true → p) : p := by
  cases q1 : inB s.last 0 1000000 with
  | false => exact h1 q1 (by simp [numsOK, q1])
  | true =>
    cases q2 : inB s.nextRow 1 1000000 with
    | false => exact h2 q1 q2 (by simp [numsOK, q2])
    | true =>
      cases q3 : inB s.nextTrans 1 1000000 with
      | false => exact h3 q1 q2 q3 (by simp [numsOK, q3])
      | true =>
        cases q4 : inB s.swept 0 s.last with
        | false => exact h4 q1 q2 q3 q4 (by simp [numsOK, q4])
        | true => exact h5 q1 q2 q3 q4 (by simp [numsOK, q1, q2, q3, q4])

theorem ckStoreW_eq (st : List Sn → Wr → List Sn) (s : Sto) : ckStoreW st s = if ckCols s.cols ≠ 0 then ckCols s.cols else if s.vers.length > 3000 ∨ s.opn.length > 20 then 2 else if numsOK s = false then 1 else if ckVers s ≠ 0 then ckVers s else ckOpen st s := by
  unfold ckStoreW numsOK
  congr 1
  congr 1
  cases inB s.last 0 1000000 <;> cases inB s.nextRow 1 1000000 <;> cases inB s.nextTrans 1 1000000 <;> cases inB s.swept 0 s.last <;> rfl

theorem e11 (s : Sto) (hw : Wf s) : Is code ext 8 11 [.agg s.e] (.i (ckStoreW wroteS s)) := by
  refine Is.step code ext c11 fun n hn => ?_
  have h1 := e41 s.cols n (by omega)
  have h2 := e44 s.last 0 1000000 n (by omega)
  have h3 := e44 s.nextRow 1 1000000 n (by omega)
  have h4 := e44 s.nextTrans 1 1000000 n (by omega)
  have h5 := e44 s.swept 0 s.last n (by omega)
  simp only [roC] at h1
  rw [ckStoreW_eq]
  by_cases q1 : ckCols s.cols = 0
  · rw [q1] at h1
    rw [if_neg (by simpa using q1)]
    obtain ⟨hc1, hc2⟩ := ckCols_len q1
    by_cases q2 : s.vers.length > 3000
    · have q2x : (3000 : Int) < s.vers.length := by omega
      rw [if_pos (.inl q2)]
      simp [A11, acode, runOps, step1, aop, wantedA, ev, put, opened, binV, binInt, binStr, app_v, Pr.run, Pr.map, Pr.bind, Pr.mapP, loadA, storeA, cellsVal, Pr.ofOption, cells, fillA, splice, nz, dr, cln, flat, one, bnd, slA, items, appA, Hp.get, Hp.app, Hp.set, eqAll, eq1, lookA, resA, rvA, fin, AV.i, AV.b, AV.s, beq_int, bne_int, emp_is, emp_iff, runD, step2, clash, apartFP, Pr.log, Sto.e, h1, q2x]
    · have q2x : ¬ (3000 : Int) < s.vers.length := by omega
      by_cases q3 : s.opn.length > 20
      · have q3x : (20 : Int) < s.opn.length := by omega
        rw [if_pos (.inr q3)]
        simp [A11, acode, runOps, step1, aop, wantedA, ev, put, opened, binV, binInt, binStr, app_v, Pr.run, Pr.map, Pr.bind, Pr.mapP, loadA, storeA, cellsVal, Pr.ofOption, cells, fillA, splice, nz, dr, cln, flat, one, bnd, slA, items, appA, Hp.get, Hp.app, Hp.set, eqAll, eq1, lookA, resA, rvA, fin, AV.i, AV.b, AV.s, beq_int, bne_int, emp_is, emp_iff, runD, step2, clash, apartFP, Pr.log, Sto.e, h1, q2x, q3x]
      · have q3x : ¬ (20 : Int) < s.opn.length := by omega
        rw [if_neg (by omega)]
        refine nums_cases s _ ?_ ?_ ?_ ?_ ?_
        · intro r1 rr
          rw [r1] at h2
          simp [A11, acode, runOps, step1, aop, wantedA, ev, put, opened, binV, binInt, binStr, app_v, Pr.run, Pr.map, Pr.bind, Pr.mapP, loadA, storeA, cellsVal, Pr.ofOption, cells, fillA, splice, nz, dr, cln, flat, one, bnd, slA, items, appA, Hp.get, Hp.app, Hp.set, eqAll, eq1, lookA, resA, rvA, fin, AV.i, AV.b, AV.s, beq_int, bne_int, emp_is, emp_iff, runD, step2, clash, apartFP, Pr.log, Sto.e, h1, h2, q2x, q3x, rr]
        · intro r1 r2 rr
          rw [r1] at h2
          rw [r2] at h3
          simp [A11, acode, runOps, step1, aop, wantedA, ev, put, opened, binV, binInt, binStr, app_v, Pr.run, Pr.map, Pr.bind, Pr.mapP, loadA, storeA, cellsVal, Pr.ofOption, cells, fillA, splice, nz, dr, cln, flat, one, bnd, slA, items, appA, Hp.get, Hp.app, Hp.set, eqAll, eq1, lookA, resA, rvA, fin, AV.i, AV.b, AV.s, beq_int, bne_int, emp_is, emp_iff, runD, step2, clash, apartFP, Pr.log, Sto.e, h1, h2, h3, q2x, q3x, rr]
        · intro r1 r2 r3 rr
          rw [r1] at h2
          rw [r2] at h3
          rw [r3] at h4
          simp [A11, acode, runOps, step1, aop, wantedA, ev, put, opened, binV, binInt, binStr, app_v, Pr.run, Pr.map, Pr.bind, Pr.mapP, loadA, storeA, cellsVal, Pr.ofOption, cells, fillA, splice, nz, dr, cln, flat, one, bnd, slA, items, appA, Hp.get, Hp.app, Hp.set, eqAll, eq1, lookA, resA, rvA, fin, AV.i, AV.b, AV.s, beq_int, bne_int, emp_is, emp_iff, runD, step2, clash, apartFP, Pr.log, Sto.e, h1, h2, h3, h4, q2x, q3x, rr]
        · intro r1 r2 r3 r4 rr
          rw [r1] at h2
          rw [r2] at h3
          rw [r3] at h4
          rw [r4] at h5
          simp [A11, acode, runOps, step1, aop, wantedA, ev, put, opened, binV, binInt, binStr, app_v, Pr.run, Pr.map, Pr.bind, Pr.mapP, loadA, storeA, cellsVal, Pr.ofOption, cells, fillA, splice, nz, dr, cln, flat, one, bnd, slA, items, appA, Hp.get, Hp.app, Hp.set, eqAll, eq1, lookA, resA, rvA, fin, AV.i, AV.b, AV.s, beq_int, bne_int, emp_is, emp_iff, runD, step2, clash, apartFP, Pr.log, Sto.e, h1, h2, h3, h4, h5, q2x, q3x, rr]
        · intro r1 r2 r3 r4 rr
          rw [r1] at h2
          rw [r2] at h3
          rw [r3] at h4
          rw [r4] at h5
          have hb := bd_of hw hc1 (by omega) (by omega) rr
          have h6 := e45 s hb n (by omega)
          have h7 := e46 s hb n (by omega)
          simp only [Sto.e] at h6 h7
          rw [rr, if_neg (by simp)]
          by_cases q4 : ckVers s = 0
          · rw [q4] at h6
            rw [if_neg (by simpa using q4)]
            simp [A11, acode, runOps, step1, aop, wantedA, ev, put, opened, binV, binInt, binStr, app_v, Pr.run, Pr.map, Pr.bind, Pr.mapP, loadA, storeA, cellsVal, Pr.ofOption, cells, fillA, splice, nz, dr, cln, flat, one, bnd, slA, items, appA, Hp.get, Hp.app, Hp.set, eqAll, eq1, lookA, resA, rvA, fin, AV.i, AV.b, AV.s, beq_int, bne_int, emp_is, emp_iff, runD, step2, clash, apartFP, Pr.log, Sto.e, h1, h2, h3, h4, h5, h6, h7, q2x, q3x]
          · rw [if_pos (by simpa using q4)]
            simp [A11, acode, runOps, step1, aop, wantedA, ev, put, opened, binV, binInt, binStr, app_v, Pr.run, Pr.map, Pr.bind, Pr.mapP, loadA, storeA, cellsVal, Pr.ofOption, cells, fillA, splice, nz, dr, cln, flat, one, bnd, slA, items, appA, Hp.get, Hp.app, Hp.set, eqAll, eq1, lookA, resA, rvA, fin, AV.i, AV.b, AV.s, beq_int, bne_int, emp_is, emp_iff, runD, step2, clash, apartFP, Pr.log, Sto.e, h1, h2, h3, h4, h5, h6, q2x, q3x, q4]
  · rw [if_pos (by simpa using q1)]
    simp [A11, acode, runOps, step1, aop, wantedA, ev, put, opened, binV, binInt, binStr, app_v, Pr.run, Pr.map, Pr.bind, Pr.mapP, loadA, storeA, cellsVal, Pr.ofOption, cells, fillA, splice, nz, dr, cln, flat, one, bnd, slA, items, appA, Hp.get, Hp.app, Hp.set, eqAll, eq1, lookA, resA, rvA, fin, AV.i, AV.b, AV.s, beq_int, bne_int, emp_is, emp_iff, runD, step2, clash, apartFP, Pr.log, Sto.e, h1, q1]

theorem e12 (s : Sto) (hw : Wf s) : Is code ext 8 12 [.agg s.e] (.i (ckStoreW afterS s)) := by
  refine Is.step code ext c12 fun n hn => ?_
  have h1 := e43 s.cols hw.cn n (by omega)
  have h2 := e47 s.last 0 1000000 n (by omega)
  have h3 := e47 s.nextRow 1 1000000 n (by omega)
  have h4 := e47 s.nextTrans 1 1000000 n (by omega)
  have h5 := e47 s.swept 0 s.last n (by omega)
  simp only [roC] at h1
  rw [ckStoreW_eq]
  by_cases q1 : ckCols s.cols = 0
  · rw [q1] at h1
    rw [if_neg (by simpa using q1)]
    obtain ⟨hc1, hc2⟩ := ckCols_len q1
    by_cases q2 : s.vers.length > 3000
    · have q2x : (3000 : Int) < s.vers.length := by omega
      rw [if_pos (.inl q2)]
      simp [A12, acode, runOps, step1, aop, wantedA, ev, put, opened, binV, binInt, binStr, app_v, Pr.run, Pr.map, Pr.bind, Pr.mapP, loadA, storeA, cellsVal, Pr.ofOption, cells, fillA, splice, nz, dr, cln, flat, one, bnd, slA, items, appA, Hp.get, Hp.app, Hp.set, eqAll, eq1, lookA, resA, rvA, fin, AV.i, AV.b, AV.s, beq_int, bne_int, emp_is, emp_iff, runD, step2, clash, apartFP, Pr.log, Sto.e, h1, q2x]
    · have q2x : ¬ (3000 : Int) < s.vers.length := by omega
      by_cases q3 : s.opn.length > 20
      · have q3x : (20 : Int) < s.opn.length := by omega
        rw [if_pos (.inr q3)]
        simp [A12, acode, runOps, step1, aop, wantedA, ev, put, opened, binV, binInt, binStr, app_v, Pr.run, Pr.map, Pr.bind, Pr.mapP, loadA, storeA, cellsVal, Pr.ofOption, cells, fillA, splice, nz, dr, cln, flat, one, bnd, slA, items, appA, Hp.get, Hp.app, Hp.set, eqAll, eq1, lookA, resA, rvA, fin, AV.i, AV.b, AV.s, beq_int, bne_int, emp_is, emp_iff, runD, step2, clash, apartFP, Pr.log, Sto.e, h1, q2x, q3x]
      · have q3x : ¬ (20 : Int) < s.opn.length := by omega
        rw [if_neg (by omega)]
        refine nums_cases s _ ?_ ?_ ?_ ?_ ?_
        · intro r1 rr
          rw [r1] at h2
          simp [A12, acode, runOps, step1, aop, wantedA, ev, put, opened, binV, binInt, binStr, app_v, Pr.run, Pr.map, Pr.bind, Pr.mapP, loadA, storeA, cellsVal, Pr.ofOption, cells, fillA, splice, nz, dr, cln, flat, one, bnd, slA, items, appA, Hp.get, Hp.app, Hp.set, eqAll, eq1, lookA, resA, rvA, fin, AV.i, AV.b, AV.s, beq_int, bne_int, emp_is, emp_iff, runD, step2, clash, apartFP, Pr.log, Sto.e, h1, h2, q2x, q3x, rr]
        · intro r1 r2 rr
          rw [r1] at h2
          rw [r2] at h3
          simp [A12, acode, runOps, step1, aop, wantedA, ev, put, opened, binV, binInt, binStr, app_v, Pr.run, Pr.map, Pr.bind, Pr.mapP, loadA, storeA, cellsVal, Pr.ofOption, cells, fillA, splice, nz, dr, cln, flat, one, bnd, slA, items, appA, Hp.get, Hp.app, Hp.set, eqAll, eq1, lookA, resA, rvA, fin, AV.i, AV.b, AV.s, beq_int, bne_int, emp_is, emp_iff, runD, step2, clash, apartFP, Pr.log, Sto.e, h1, h2, h3, q2x, q3x, rr]
        · intro r1 r2 r3 rr
          rw [r1] at h2
          rw [r2] at h3
          rw [r3] at h4
          simp [A12, acode, runOps, step1, aop, wantedA, ev, put, opened, binV, binInt, binStr, app_v, Pr.run, Pr.map, Pr.bind, Pr.mapP, loadA, storeA, cellsVal, Pr.ofOption, cells, fillA, splice, nz, dr, cln, flat, one, bnd, slA, items, appA, Hp.get, Hp.app, Hp.set, eqAll, eq1, lookA, resA, rvA, fin, AV.i, AV.b, AV.s, beq_int, bne_int, emp_is, emp_iff, runD, step2, clash, apartFP, Pr.log, Sto.e, h1, h2, h3, h4, q2x, q3x, rr]
        · intro r1 r2 r3 r4 rr
          rw [r1] at h2
          rw [r2] at h3
          rw [r3] at h4
          rw [r4] at h5
          simp [A12, acode, runOps, step1, aop, wantedA, ev, put, opened, binV, binInt, binStr, app_v, Pr.run, Pr.map, Pr.bind, Pr.mapP, loadA, storeA, cellsVal, Pr.ofOption, cells, fillA, splice, nz, dr, cln, flat, one, bnd, slA, items, appA, Hp.get, Hp.app, Hp.set, eqAll, eq1, lookA, resA, rvA, fin, AV.i, AV.b, AV.s, beq_int, bne_int, emp_is, emp_iff, runD, step2, clash, apartFP, Pr.log, Sto.e, h1, h2, h3, h4, h5, q2x, q3x, rr]
        · intro r1 r2 r3 r4 rr
          rw [r1] at h2
          rw [r2] at h3
          rw [r3] at h4
          rw [r4] at h5
          have hb := bd_of hw hc1 (by omega) (by omega) rr
          have h6 := e48 s hb n (by omega)
          have h7 := e49 s hb n (by omega)
          simp only [Sto.e] at h6 h7
          rw [rr, if_neg (by simp)]
          by_cases q4 : ckVers s = 0
          · rw [q4] at h6
            rw [if_neg (by simpa using q4)]
            simp [A12, acode, runOps, step1, aop, wantedA, ev, put, opened, binV, binInt, binStr, app_v, Pr.run, Pr.map, Pr.bind, Pr.mapP, loadA, storeA, cellsVal, Pr.ofOption, cells, fillA, splice, nz, dr, cln, flat, one, bnd, slA, items, appA, Hp.get, Hp.app, Hp.set, eqAll, eq1, lookA, resA, rvA, fin, AV.i, AV.b, AV.s, beq_int, bne_int, emp_is, emp_iff, runD, step2, clash, apartFP, Pr.log, Sto.e, h1, h2, h3, h4, h5, h6, h7, q2x, q3x]
          · rw [if_pos (by simpa using q4)]
            simp [A12, acode, runOps, step1, aop, wantedA, ev, put, opened, binV, binInt, binStr, app_v, Pr.run, Pr.map, Pr.bind, Pr.mapP, loadA, storeA, cellsVal, Pr.ofOption, cells, fillA, splice, nz, dr, cln, flat, one, bnd, slA, items, appA, Hp.get, Hp.app, Hp.set, eqAll, eq1, lookA, resA, rvA, fin, AV.i, AV.b, AV.s, beq_int, bne_int, emp_is, emp_iff, runD, step2, clash, apartFP, Pr.log, Sto.e, h1, h2, h3, h4, h5, h6, q2x, q3x, q4]
  · rw [if_pos (by simpa using q1)]
    simp [A12, acode, runOps, step1, aop, wantedA, ev, put, opened, binV, binInt, binStr, app_v, Pr.run, Pr.map, Pr.bind, Pr.mapP, loadA, storeA, cellsVal, Pr.ofOption, cells, fillA, splice, nz, dr, cln, flat, one, bnd, slA, items, appA, Hp.get, Hp.app, Hp.set, eqAll, eq1, lookA, resA, rvA, fin, AV.i, AV.b, AV.s, beq_int, bne_int, emp_is, emp_iff, runD, step2, clash, apartFP, Pr.log, Sto.e, h1, q1]

/-- The document's check, by the program's steps. -/
theorem e12' (s : Sto) (hw : Wf s) : Is code ext 8 12 [.agg s.e] (.i (ckStore s)) := by
  have := e12 s hw
  rw [← ckStore_eq] at this
  exact this
end Go.Pv
