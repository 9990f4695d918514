/-
  What functions come to: open transactions. Conditions: none.
-/
import Derived.Test.YthncjbjlnligaaaPvM
set_option linter.unusedVariables false
set_option linter.unusedSimpArgs false
namespace Go.Pv
open Go
set_option maxRecDepth 100000
set_option maxHeartbeats 8000000

def thR (s : Sto) (before : List Wr) : Int → Bool := fun r => hasV s r || insW before r

theorem e89 (s : Sto) (hs : Bd s) (l : List Sn) (hl : l.length < 2 ^ 30) (before : List Wr) (hb0 : before.length < 2 ^ 30) (w : Wr) (hw : ∀ a ∈ w.vals, a.text.size < 2 ^ 63) :
    Is code ext 5 89 [.agg s.e, roS l, roW before, .agg w.e] (.i (ckWr s l (thR s before) w)) := by
  refine Is.step code ext c89 fun n hn => ?_
  have w1 : IntKind.i64.wrap (s.nextRow - 1) = s.nextRow - 1 := wrap_in _ (by have := hs.nr; omega)
  have h1 := e47 w.kind 1 3 n (by omega)
  have h2 := e47 w.row 1 (s.nextRow - 1) n (by omega)
  have h3 := e58 s.cols w.vals hw hs.c n (by omega)
  have h4 := e98 l w.row (by omega) n (by omega)
  have h5 := e104 s w.row (by have := hs.v; omega) n (by omega)
  have h6 := e105 before w.row (by omega) n (by omega)
  simp only [roC, eVals, roS, roW, Sto.e] at h3 h4 h5 h6
  refine wr_cases s l (thR s before) w _ ?_ ?_ ?_ ?_ ?_ ?_ ?_ ?_
  · intro q1 qq
    rw [q1] at h1
    simp [A89, acode, runOps, step1, aop, wantedA, ev, put, opened, binV, binInt, binStr, app_v, Pr.run, Pr.map, Pr.bind, Pr.mapP, loadA, storeA, cellsVal, Pr.ofOption, cells, fillA, splice, nz, dr, cln, flat, one, bnd, slA, items, appA, Hp.get, Hp.app, Hp.set, eqAll, eq1, lookA, resA, rvA, fin, AV.i, AV.b, AV.s, beq_int, bne_int, emp_is, emp_iff, runD, step2, clash, apartFP, Pr.log, Sto.e, Wr.e, eVals, h1, qq]
  · intro q1 q2 q3 qq
    rw [q1] at h1
    rw [q3] at h2
    simp [A89, acode, runOps, step1, aop, wantedA, ev, put, opened, binV, binInt, binStr, app_v, Pr.run, Pr.map, Pr.bind, Pr.mapP, loadA, storeA, cellsVal, Pr.ofOption, cells, fillA, splice, nz, dr, cln, flat, one, bnd, slA, items, appA, Hp.get, Hp.app, Hp.set, eqAll, eq1, lookA, resA, rvA, fin, AV.i, AV.b, AV.s, beq_int, bne_int, emp_is, emp_iff, runD, step2, clash, apartFP, Pr.log, Sto.e, Wr.e, eVals, w1, h1, h2, q2, qq]
  · intro q1 q2 q3 q4 qq
    rw [q1] at h1
    rw [q3] at h2
    unfold thR at q4
    cases r1 : hasV s w.row with
    | true =>
      rw [r1] at h5
      simp [A89, acode, runOps, step1, aop, wantedA, ev, put, opened, binV, binInt, binStr, app_v, Pr.run, Pr.map, Pr.bind, Pr.mapP, loadA, storeA, cellsVal, Pr.ofOption, cells, fillA, splice, nz, dr, cln, flat, one, bnd, slA, items, appA, Hp.get, Hp.app, Hp.set, eqAll, eq1, lookA, resA, rvA, fin, AV.i, AV.b, AV.s, beq_int, bne_int, emp_is, emp_iff, runD, step2, clash, apartFP, Pr.log, Sto.e, Wr.e, eVals, w1, h1, h2, h5, q2, qq]
    | false =>
      rw [r1, Bool.false_or] at q4
      rw [r1] at h5
      rw [q4] at h6
      simp [A89, acode, runOps, step1, aop, wantedA, ev, put, opened, binV, binInt, binStr, app_v, Pr.run, Pr.map, Pr.bind, Pr.mapP, loadA, storeA, cellsVal, Pr.ofOption, cells, fillA, splice, nz, dr, cln, flat, one, bnd, slA, items, appA, Hp.get, Hp.app, Hp.set, eqAll, eq1, lookA, resA, rvA, fin, AV.i, AV.b, AV.s, beq_int, bne_int, emp_is, emp_iff, runD, step2, clash, apartFP, Pr.log, Sto.e, Wr.e, eVals, w1, h1, h2, h5, h6, q2, qq, roW]
  · intro q1 q2 q2b q3 q4 qq
    rw [q1] at h1
    rw [q3] at h2
    unfold thR at q4
    rw [Bool.or_eq_false_iff] at q4
    rw [q4.1] at h5
    rw [q4.2] at h6
    simp [A89, acode, runOps, step1, aop, wantedA, ev, put, opened, binV, binInt, binStr, app_v, Pr.run, Pr.map, Pr.bind, Pr.mapP, loadA, storeA, cellsVal, Pr.ofOption, cells, fillA, splice, nz, dr, cln, flat, one, bnd, slA, items, appA, Hp.get, Hp.app, Hp.set, eqAll, eq1, lookA, resA, rvA, fin, AV.i, AV.b, AV.s, beq_int, bne_int, emp_is, emp_iff, runD, step2, clash, apartFP, Pr.log, Sto.e, Wr.e, eVals, w1, h1, h2, h3, h5, h6, q2, q2b, qq, roW]
  · intro q1 q2 q3 qq
    rw [q1] at h1
    simp [A89, acode, runOps, step1, aop, wantedA, ev, put, opened, binV, binInt, binStr, app_v, Pr.run, Pr.map, Pr.bind, Pr.mapP, loadA, storeA, cellsVal, Pr.ofOption, cells, fillA, splice, nz, dr, cln, flat, one, bnd, slA, items, appA, Hp.get, Hp.app, Hp.set, eqAll, eq1, lookA, resA, rvA, fin, AV.i, AV.b, AV.s, beq_int, bne_int, emp_is, emp_iff, runD, step2, clash, apartFP, Pr.log, Sto.e, Wr.e, eVals, h1, h4, q2, q3, qq, roS]
  · intro q1 q2 q2b q3 q4 qq
    rw [q1] at h1
    simp [A89, acode, runOps, step1, aop, wantedA, ev, put, opened, binV, binInt, binStr, app_v, Pr.run, Pr.map, Pr.bind, Pr.mapP, loadA, storeA, cellsVal, Pr.ofOption, cells, fillA, splice, nz, dr, cln, flat, one, bnd, slA, items, appA, Hp.get, Hp.app, Hp.set, eqAll, eq1, lookA, resA, rvA, fin, AV.i, AV.b, AV.s, beq_int, bne_int, emp_is, emp_iff, runD, step2, clash, apartFP, Pr.log, Sto.e, Wr.e, eVals, h1, h4, q2, q2b, q3, q4, qq, roS]
  · intro q1 q2 q2b q3 q4 qq
    rw [q1] at h1
    simp [A89, acode, runOps, step1, aop, wantedA, ev, put, opened, binV, binInt, binStr, app_v, Pr.run, Pr.map, Pr.bind, Pr.mapP, loadA, storeA, cellsVal, Pr.ofOption, cells, fillA, splice, nz, dr, cln, flat, one, bnd, slA, items, appA, Hp.get, Hp.app, Hp.set, eqAll, eq1, lookA, resA, rvA, fin, AV.i, AV.b, AV.s, beq_int, bne_int, emp_is, emp_iff, runD, step2, clash, apartFP, Pr.log, Sto.e, Wr.e, eVals, h1, h4, q2, q2b, q3, q4, qq, roS]
  · intro q1 q2 q2b q3 qq
    rw [q1] at h1
    simp [A89, acode, runOps, step1, aop, wantedA, ev, put, opened, binV, binInt, binStr, app_v, Pr.run, Pr.map, Pr.bind, Pr.mapP, loadA, storeA, cellsVal, Pr.ofOption, cells, fillA, splice, nz, dr, cln, flat, one, bnd, slA, items, appA, Hp.get, Hp.app, Hp.set, eqAll, eq1, lookA, resA, rvA, fin, AV.i, AV.b, AV.s, beq_int, bne_int, emp_is, emp_iff, runD, step2, clash, apartFP, Pr.log, Sto.e, Wr.e, eVals, h1, h3, h4, q2, q2b, q3, qq, roS]

theorem ckWrs_step (st : List Sn → Wr → List Sn) (s : Sto) (l : List Sn) (th : Int → Bool) (w : Wr) (r : List Wr) : ckWrs st s l th (w :: r) = if ckWr s l th w ≠ 0 then (ckWr s l th w, th) else ckWrs st s (st l w) (upd th w) r := rfl

theorem base_len (vs : List Ver) (c : Int) : (baseS vs c).length ≤ vs.length := by
  unfold baseS; rw [List.length_map]; exact List.length_filter_le _ _

theorem after_len (l : List Sn) (w : Wr) : (afterS l w).length ≤ l.length + 1 := by
  rw [afterS_eq, List.length_append]
  have := aftL_len w l
  split <;> simp <;> omega
theorem wrote_len (l : List Sn) (w : Wr) : (wroteS l w).length ≤ l.length + 1 := by
  unfold wroteS
  split
  · simp
  · split
    · omega
    · rename_i k _
      split
      · have := List.length_eraseIdx_le l k; omega
      · simp

theorem thR_upd (s : Sto) (b : List Wr) (w : Wr) : thR s (b ++ [w]) = upd (thR s b) w := by
  funext r
  simp [thR, upd, insW, Bool.or_assoc]

def F49a (t : Tr) (u1 : Nat) (t4 : AV) (b : List Wr) (u : Nat) (l : List Sn) : List AV := (((((A49H0 (.ptr 0 0 0) (aV 0 u b.length) t4 (.ptr 1 u1 0) (roS l) (.i t.writes.length)).set 58 (.i t.writes.length)).set 59 (.ptr 1 u1 2)).set 60 (roW t.writes)).set 61 (.i t.writes.length)).set 62 (.b false)

/-- How the loop over a transaction's writes ends. -/
def Q49a (s : Sto) (t : Tr) (u1 : Nat) (t4 : AV) (r : List Wr) (x : List Wr × Nat × List Sn) (e : Ex) (st : St) : Prop :=
  match fl (ckWrs afterS s x.2.2 (thR s x.1) r).1 with
  | some v => e = .ret ∧ st.1[2]? = some v ∧ True
  | none => ∃ u' l' nx, e = .ex 2 ∧ st = (F49a t u1 t4 (x.1 ++ r) u' l', ⟨[.box 0 s.e, .box u1 t.e], aR u' 3 ((x.1 ++ r).map Wr.e), nx⟩) ∧ (ckWrs afterS s x.2.2 (thR s x.1) r).2 = thR s (x.1 ++ r)

theorem Q49a_step {s : Sto} {t : Tr} {u1 : Nat} {t4 : AV} {r : List Wr} {b : List Wr} {u u' : Nat} {l : List Sn} {w : Wr} (h : ckWr s l (thR s b) w = 0) {e : Ex} {st : St} (hq : Q49a s t u1 t4 r (b ++ [w], u', afterS l w) e st) : Q49a s t u1 t4 (w :: r) (b, u, l) e st := by
  unfold Q49a at hq ⊢
  simp only [ckWrs_step, h, ne_eq, not_true_eq_false, if_false, ← thR_upd] at hq ⊢
  simpa using hq

/-- The document's loop over a transaction's writes. -/
theorem loop49a (n : Nat) (hn : 2 ^ 64 + 5 ≤ n) (s : Sto) (hs : Bd s) (t : Tr) (ht : ∀ w ∈ t.writes, ∀ a ∈ w.vals, a.text.size < 2 ^ 63) (hwl : t.writes.length ≤ 200) (u1 N M : Nat) (hN : N < 2 ^ 28) (hM : M < 2 ^ 28) (t4 : AV) (m i nx u : Nat) (b : List Wr) (l : List Sn) (hb0 : b.length ≤ N + i) (hl0 : l.length ≤ M + i) (hi : i ≤ t.writes.length) (hm : t.writes.length - i < m) :
    ∃ e st, iter (acode (run1 code ext n) n A49L0) 2 A49M0 m (A49H0 (.ptr 0 0 0) (aV 0 u b.length) t4 (.ptr 1 u1 0) (roS l) (.i i), ⟨[.box 0 s.e, .box u1 t.e], aR u 3 (b.map Wr.e), nx⟩) = some (e, st) ∧ Q49a s t u1 t4 (t.writes.drop i) (b, u, l) e st := by
  refine loop_list (f := acode (run1 code ext n) n A49L0) (k := 2) (M := A49M0) t.writes (fun i (x : List Wr × Nat × List Sn) nx => (A49H0 (.ptr 0 0 0) (aV 0 x.2.1 x.1.length) t4 (.ptr 1 u1 0) (roS x.2.2) (.i i), ⟨[.box 0 s.e, .box u1 t.e], aR x.2.1 3 (x.1.map Wr.e), nx⟩)) (fun i x => x.1.length ≤ N + i ∧ x.2.2.length ≤ M + i) (fun i r x e st => Q49a s t u1 t4 r x e st) ?_ ?_ m i (b, u, l) nx hi hm ⟨hb0, hl0⟩
  · intro x nx _
    have hb : acode (run1 code ext n) n A49L0 (A49H0 (.ptr 0 0 0) (aV 0 x.2.1 x.1.length) t4 (.ptr 1 u1 0) (roS x.2.2) (.i t.writes.length), ⟨[.box 0 s.e, .box u1 t.e], aR x.2.1 3 (x.1.map Wr.e), nx⟩) = acode (run1 code ext n) n A49L0 (A49H0 (.ptr 0 0 0) (aV 0 x.2.1 x.1.length) t4 (.ptr 1 u1 0) (roS x.2.2) (.i t.writes.length), ⟨[.box 0 s.e, .box u1 t.e], aR x.2.1 3 (x.1.map Wr.e), nx⟩) := rfl
    conv at hb => rhs; simp [acode, runOps, step1, aop, wantedA, ev, put, opened, binV, binInt, binStr, app_v, Pr.run, Pr.map, Pr.bind, Pr.mapP, loadA, storeA, cellsVal, Pr.ofOption, cells, fillA, splice, nz, dr, cln, flat, one, bnd, slA, items, appA, Hp.get, Hp.app, Hp.set, eqAll, eq1, lookA, resA, rvA, fin, AV.i, AV.b, AV.s, beq_int, bne_int, emp_is, emp_iff, runD, step2, clash, apartFP, Pr.log, A49L0, Tr.e]
    refine ⟨_, _, by simp, hb, ?_⟩
    unfold Q49a
    simp only [ckWrs, fl_zero, List.append_nil]
    exact ⟨x.2.1, x.2.2, _, trivial, by simp [F49a, Tr.e]; rfl, trivial⟩
  · intro i hi w x nx hg hI
    obtain ⟨b, u, l⟩ := x
    simp only at hI ⊢
    have hw := wrap_nat i (by omega)
    have h1 := e89 s hs l (by omega) b (by omega) w (ht w (by rw [← hg]; exact List.getElem_mem _)) n (by omega)
    have h2 := e90 l w (by omega) n (by omega)
    simp only [roS, roW, Wr.e, eVals, Sto.e] at h1 h2
    obtain ⟨hr1, _, hr2⟩ := room32 (k := b.length) (by omega)
    have hr3 : 1 ≤ roomMax := by unfold roomMax; omega
    have hr4 : 40 ≤ roomMax := by unfold roomMax; omega
    have htk := take_all Wr.e b
    have hno : ¬ (b.length + 1 ≤ b.length) := by omega
    have mp := mapP_plain plain_wr 4 b
    have hle := after_len l w
    rcases Nat.eq_zero_or_pos b.length with h0 | h0
    · obtain rfl := List.length_eq_zero_iff.1 h0
      simp only [List.map_nil] at h1
      by_cases q : ckWr s l (thR s []) w = 0
      · rw [q] at h1
        have hb : acode (run1 code ext n) n A49L0 (A49H0 (.ptr 0 0 0) (aV 0 u 0) t4 (.ptr 1 u1 0) (roS l) (.i i), ⟨[.box 0 s.e, .box u1 t.e], aR u 3 [], nx⟩) = acode (run1 code ext n) n A49L0 (A49H0 (.ptr 0 0 0) (aV 0 u 0) t4 (.ptr 1 u1 0) (roS l) (.i i), ⟨[.box 0 s.e, .box u1 t.e], aR u 3 [], nx⟩) := rfl
        conv at hb => rhs; simp [acode, runOps, step1, aop, wantedA, ev, put, opened, binV, binInt, binStr, app_v, Pr.run, Pr.map, Pr.bind, Pr.mapP, loadA, storeA, cellsVal, Pr.ofOption, cells, fillA, splice, nz, dr, cln, flat, one, bnd, slA, items, appA, Hp.get, Hp.app, Hp.set, eqAll, eq1, lookA, resA, rvA, fin, AV.i, AV.b, AV.s, beq_int, bne_int, emp_is, emp_iff, runD, step2, clash, apartFP, Pr.log, A49L0, Sto.e, Tr.e, Wr.e, eVals, roS, hi, hg, hw, h1, h2, aV, aR, hr3, hr4]
        exact .inl ⟨_, ([w], _, afterS l w), _, hb, by simp [trunc, mask, A49M0, Sto.e, Tr.e, aV, aR, Wr.e, eVals, roS]; exact ⟨rfl, rfl⟩, by simp; omega, fun e st h => Q49a_step (b := []) q h⟩
      · have hb : acode (run1 code ext n) n A49L0 (A49H0 (.ptr 0 0 0) (aV 0 u 0) t4 (.ptr 1 u1 0) (roS l) (.i i), ⟨[.box 0 s.e, .box u1 t.e], aR u 3 [], nx⟩) = acode (run1 code ext n) n A49L0 (A49H0 (.ptr 0 0 0) (aV 0 u 0) t4 (.ptr 1 u1 0) (roS l) (.i i), ⟨[.box 0 s.e, .box u1 t.e], aR u 3 [], nx⟩) := rfl
        conv at hb => rhs; simp [acode, runOps, step1, aop, wantedA, ev, put, opened, binV, binInt, binStr, app_v, Pr.run, Pr.map, Pr.bind, Pr.mapP, loadA, storeA, cellsVal, Pr.ofOption, cells, fillA, splice, nz, dr, cln, flat, one, bnd, slA, items, appA, Hp.get, Hp.app, Hp.set, eqAll, eq1, lookA, resA, rvA, fin, AV.i, AV.b, AV.s, beq_int, bne_int, emp_is, emp_iff, runD, step2, clash, apartFP, Pr.log, A49L0, Sto.e, Tr.e, Wr.e, eVals, roS, hi, hg, hw, h1, aV, aR, q]
        refine .inr ⟨.ret, _, by simp, hb, ?_⟩
        unfold Q49a
        simp [ckWrs_step, q, fl_pos q]
    · have hV := aV_pos (r := 0) (u := u) h0
      have hR : aR u 3 (b.map Wr.e) = [.row u 3 (b.map Wr.e)] := aR_pos (by simpa using h0)
      by_cases q : ckWr s l (thR s b) w = 0
      · rw [q] at h1
        have hb : acode (run1 code ext n) n A49L0 (A49H0 (.ptr 0 0 0) (aV 0 u b.length) t4 (.ptr 1 u1 0) (roS l) (.i i), ⟨[.box 0 s.e, .box u1 t.e], aR u 3 (b.map Wr.e), nx⟩) = acode (run1 code ext n) n A49L0 (A49H0 (.ptr 0 0 0) (aV 0 u b.length) t4 (.ptr 1 u1 0) (roS l) (.i i), ⟨[.box 0 s.e, .box u1 t.e], aR u 3 (b.map Wr.e), nx⟩) := rfl
        conv at hb => rhs; simp [acode, runOps, step1, aop, wantedA, ev, put, opened, binV, binInt, binStr, app_v, Pr.run, Pr.map, Pr.bind, Pr.mapP, loadA, storeA, cellsVal, Pr.ofOption, cells, fillA, splice, nz, dr, cln, flat, one, bnd, slA, items, appA, Hp.get, Hp.app, Hp.set, eqAll, eq1, lookA, resA, rvA, fin, AV.i, AV.b, AV.s, beq_int, bne_int, emp_is, emp_iff, runD, step2, clash, apartFP, Pr.log, A49L0, Sto.e, Tr.e, Wr.e, eVals, roS, hi, hg, hw, h1, h2, hV, hR, hr1, hr2, htk, hno, mp]
        exact .inl ⟨_, (b ++ [w], _, afterS l w), _, hb, by simp [trunc, mask, A49M0, Sto.e, Tr.e, aV, aR, Wr.e, eVals, roS]; exact ⟨rfl, rfl⟩, by simp; omega, fun e st h => Q49a_step q h⟩
      · have hb : acode (run1 code ext n) n A49L0 (A49H0 (.ptr 0 0 0) (aV 0 u b.length) t4 (.ptr 1 u1 0) (roS l) (.i i), ⟨[.box 0 s.e, .box u1 t.e], aR u 3 (b.map Wr.e), nx⟩) = acode (run1 code ext n) n A49L0 (A49H0 (.ptr 0 0 0) (aV 0 u b.length) t4 (.ptr 1 u1 0) (roS l) (.i i), ⟨[.box 0 s.e, .box u1 t.e], aR u 3 (b.map Wr.e), nx⟩) := rfl
        conv at hb => rhs; simp [acode, runOps, step1, aop, wantedA, ev, put, opened, binV, binInt, binStr, app_v, Pr.run, Pr.map, Pr.bind, Pr.mapP, loadA, storeA, cellsVal, Pr.ofOption, cells, fillA, splice, nz, dr, cln, flat, one, bnd, slA, items, appA, Hp.get, Hp.app, Hp.set, eqAll, eq1, lookA, resA, rvA, fin, AV.i, AV.b, AV.s, beq_int, bne_int, emp_is, emp_iff, runD, step2, clash, apartFP, Pr.log, A49L0, Sto.e, Tr.e, Wr.e, eVals, roS, hi, hg, hw, h1, hV, hR, htk, mp, q]
        refine .inr ⟨.ret, _, by simp, hb, ?_⟩
        unfold Q49a
        simp [ckWrs_step, q, fl_pos q]

theorem ckOpenL_step (st : List Sn → Wr → List Sn) (s : Sto) (th : Int → Bool) (p : Option Tr) (t : Tr) (r : List Tr) : ckOpenL st s th p (t :: r) = if ckTr s p t ≠ 0 then ckTr s p t else
    if (ckWrs st s (baseS s.vers t.sees) th t.writes).1 ≠ 0 then (ckWrs st s (baseS s.vers t.sees) th t.writes).1
    else ckOpenL st s (ckWrs st s (baseS s.vers t.sees) th t.writes).2 (some t) r := rfl

/-- The ways a transaction is asked. -/
theorem tr_cases (s : Sto) (o : Option Tr) (t : Tr) (p : Prop) (h1 : inB t.id 1 (s.nextTrans - 1) = false → ckTr s o t = 1 → p)
    (h2 : inB t.id 1 (s.nextTrans - 1) = true → (∃ q, o = some q ∧ t.id ≤ q.id) → ckTr s o t = 8 → p)
    (h3 : inB t.id 1 (s.nextTrans - 1) = true → (∀ q, o = some q → ¬ t.id ≤ q.id) → inB t.sees s.swept s.last = false → ckTr s o t = 1 → p)
    (h4 : inB t.id 1 (s.nextTrans - 1) = true → (∀ q, o = some q → ¬ t.id ≤ q.id) → inB t.sees s.swept s.last = true → (200 : Int) < t.writes.length → ckTr s o t = 2 → p)
    (h5 : inB t.id 1 (s.nextTrans - 1) = true → (∀ q, o = some q → ¬ t.id ≤ q.id) → inB t.sees s.swept s.last = true → ¬ (200 : Int) < t.writes.length → ckTr s o t = 0 → p) : p := by
  cases q1 : inB t.id 1 (s.nextTrans - 1) with
  | false => exact h1 q1 (by simp [ckTr, q1])
  | true =>
    by_cases q2 : ∃ q, o = some q ∧ t.id ≤ q.id
    · obtain ⟨q, rfl, hq⟩ := q2
      exact h2 q1 ⟨q, rfl, hq⟩ (by simp [ckTr, q1, hq])
    · have q2' : ∀ q, o = some q → ¬ t.id ≤ q.id := fun q h1 h2 => q2 ⟨q, h1, h2⟩
      cases q3 : inB t.sees s.swept s.last with
      | false => exact h3 q1 q2' q3 (by cases o with | none => simp [ckTr, q1, q3] | some q => have := q2' q rfl; simp [ckTr, q1, this, q3])
      | true =>
        by_cases q4 : t.writes.length > 200
        · exact h4 q1 q2' q3 (by omega) (by cases o with | none => simp [ckTr, q1, q3, q4] | some q => have := q2' q rfl; simp [ckTr, q1, this, q3, q4])
        · exact h5 q1 q2' q3 (by omega) (by cases o with | none => simp [ckTr, q1, q3, q4] | some q => have := q2' q rfl; simp [ckTr, q1, this, q3, q4])

/-- All writes of transactions, one after another. -/
def allW (l : List Tr) : List Wr := l.flatMap Tr.writes

theorem loop49b (n : Nat) (hn : 2 ^ 64 + 5 ≤ n) (s : Sto) (hs : Bd s) (m i nx u : Nat) (b : List Wr) (hb0 : b.length ≤ 200 * i) (hi : i ≤ s.opn.length) (hm : s.opn.length - i < m) :
    ∃ e st, iter (acode (run1 code ext n) n A49L1) 1 A49M1 m (A49H1 (.ptr 0 0 0) (aV 0 u b.length) (.i i), ⟨[.box 0 s.e], aR u 3 (b.map Wr.e), nx⟩) = some (e, st) ∧ LX 0 2 92 (fl (ckOpenL afterS s (thR s b) (s.opn.take i).getLast? (s.opn.drop i))) e st := by
  have ho := hs.o
  have hv := hs.v
  have w1 : IntKind.i64.wrap (s.nextTrans - 1) = s.nextTrans - 1 := wrap_in _ (by have := hs.nt; omega)
  refine loop_list (f := acode (run1 code ext n) n A49L1) (k := 1) (M := A49M1) s.opn (fun i (x : List Wr × Nat) nx => (A49H1 (.ptr 0 0 0) (aV 0 x.2 x.1.length) (.i i), ⟨[.box 0 s.e], aR x.2 3 (x.1.map Wr.e), nx⟩)) (fun i x => x.1.length ≤ 200 * i) (fun i r x e st => LX 0 2 92 (fl (ckOpenL afterS s (thR s x.1) (s.opn.take i).getLast? r)) e st) ?_ ?_ m i (b, u) nx hi hm hb0
  · intro x nx _
    have hb : acode (run1 code ext n) n A49L1 (A49H1 (.ptr 0 0 0) (aV 0 x.2 x.1.length) (.i s.opn.length), ⟨[.box 0 s.e], aR x.2 3 (x.1.map Wr.e), nx⟩) = acode (run1 code ext n) n A49L1 (A49H1 (.ptr 0 0 0) (aV 0 x.2 x.1.length) (.i s.opn.length), ⟨[.box 0 s.e], aR x.2 3 (x.1.map Wr.e), nx⟩) := rfl
    conv at hb => rhs; simp [acode, runOps, step1, aop, wantedA, ev, put, opened, binV, binInt, binStr, app_v, Pr.run, Pr.map, Pr.bind, Pr.mapP, loadA, storeA, cellsVal, Pr.ofOption, cells, fillA, splice, nz, dr, cln, flat, one, bnd, slA, items, appA, Hp.get, Hp.app, Hp.set, eqAll, eq1, lookA, resA, rvA, fin, AV.i, AV.b, AV.s, beq_int, bne_int, emp_is, emp_iff, runD, step2, clash, apartFP, Pr.log, A49L1, Sto.e]
    exact ⟨_, _, by simp, hb, by simp [LX, ckOpenL, fl]⟩
  · intro i hi t x nx hg hI
    obtain ⟨b, u⟩ := x
    simp only at hI ⊢
    have hw := wrap_nat i (by omega)
    have h1 := e47 t.id 1 (s.nextTrans - 1) n (by omega)
    have h2 := e47 t.sees s.swept s.last n (by omega)
    have h3 := e79 s t.sees (by omega) n (by omega)
    simp only [Sto.e, roS] at h3
    have hlast := last_take hi
    rw [hg] at hlast
    simp only [ckOpenL_step]
    have htw := hs.ot t (by rw [← hg]; exact List.getElem_mem _)
    have hbl := base_len s.vers t.sees
    -- the transaction ahead
    have key : ∃ o, (s.opn.take i).getLast? = o ∧ ((i = 0 ∧ o = none) ∨ (0 < i ∧ ∃ h : i - 1 < s.opn.length, o = some s.opn[i - 1])) := by
      refine ⟨_, rfl, ?_⟩
      rcases Nat.eq_zero_or_pos i with h0 | h0
      · exact .inl ⟨h0, by rw [h0]; rfl⟩
      · have hi1 : i - 1 < s.opn.length := by omega
        have := last_take hi1
        rw [show i - 1 + 1 = i by omega] at this
        exact .inr ⟨h0, hi1, this⟩
    obtain ⟨o, hoe, hoc⟩ := key
    rw [hoe]
    refine tr_cases s o t _ ?_ ?_ ?_ ?_ ?_
    · intro q1 qq
      rw [q1] at h1
      rw [qq, if_pos (by simp)]
      have hb : acode (run1 code ext n) n A49L1 (A49H1 (.ptr 0 0 0) (aV 0 u b.length) (.i i), ⟨[.box 0 s.e], aR u 3 (b.map Wr.e), nx⟩) = acode (run1 code ext n) n A49L1 (A49H1 (.ptr 0 0 0) (aV 0 u b.length) (.i i), ⟨[.box 0 s.e], aR u 3 (b.map Wr.e), nx⟩) := rfl
      conv at hb => rhs; simp [acode, runOps, step1, aop, wantedA, ev, put, opened, binV, binInt, binStr, app_v, Pr.run, Pr.map, Pr.bind, Pr.mapP, loadA, storeA, cellsVal, Pr.ofOption, cells, fillA, splice, nz, dr, cln, flat, one, bnd, slA, items, appA, Hp.get, Hp.app, Hp.set, eqAll, eq1, lookA, resA, rvA, fin, AV.i, AV.b, AV.s, beq_int, bne_int, emp_is, emp_iff, runD, step2, clash, apartFP, Pr.log, A49L1, Sto.e, Tr.e, hi, hg, hw, w1, h1]
      exact .inr ⟨.ret, _, by simp, hb, by simp [LX, fl]⟩
    · intro q1 q2 qq
      obtain ⟨q, rfl, hq⟩ := q2
      rcases hoc with ⟨_, h⟩ | ⟨h0, hi1, h⟩
      · cases h
      cases h
      rw [q1] at h1
      rw [qq, if_pos (by simp)]
      obtain ⟨b0, hgb⟩ : ∃ b0, s.opn[i - 1] = b0 := ⟨_, rfl⟩
      rw [hgb] at hq
      have hw1 := wrap_pred i h0 (by omega)
      have hb : acode (run1 code ext n) n A49L1 (A49H1 (.ptr 0 0 0) (aV 0 u b.length) (.i i), ⟨[.box 0 s.e], aR u 3 (b.map Wr.e), nx⟩) = acode (run1 code ext n) n A49L1 (A49H1 (.ptr 0 0 0) (aV 0 u b.length) (.i i), ⟨[.box 0 s.e], aR u 3 (b.map Wr.e), nx⟩) := rfl
      conv at hb => rhs; simp [acode, runOps, step1, aop, wantedA, ev, put, opened, binV, binInt, binStr, app_v, Pr.run, Pr.map, Pr.bind, Pr.mapP, loadA, storeA, cellsVal, Pr.ofOption, cells, fillA, splice, nz, dr, cln, flat, one, bnd, slA, items, appA, Hp.get, Hp.app, Hp.set, eqAll, eq1, lookA, resA, rvA, fin, AV.i, AV.b, AV.s, beq_int, bne_int, emp_is, emp_iff, runD, step2, clash, apartFP, Pr.log, A49L1, Sto.e, Tr.e, hi, hg, hw, w1, h1, h0, hw1, hi1, hgb, hq]
      exact .inr ⟨.ret, _, by simp, hb, by simp [LX, fl]⟩
    · intro q1 q2 q3 qq
      rw [q1] at h1
      rw [q3] at h2
      rw [qq, if_pos (by simp)]
      rcases hoc with ⟨hi0, rfl⟩ | ⟨h0, hi1, rfl⟩
      · have h0f : ¬ 0 < i := by omega
        have hb : acode (run1 code ext n) n A49L1 (A49H1 (.ptr 0 0 0) (aV 0 u b.length) (.i i), ⟨[.box 0 s.e], aR u 3 (b.map Wr.e), nx⟩) = acode (run1 code ext n) n A49L1 (A49H1 (.ptr 0 0 0) (aV 0 u b.length) (.i i), ⟨[.box 0 s.e], aR u 3 (b.map Wr.e), nx⟩) := rfl
        conv at hb => rhs; simp [acode, runOps, step1, aop, wantedA, ev, put, opened, binV, binInt, binStr, app_v, Pr.run, Pr.map, Pr.bind, Pr.mapP, loadA, storeA, cellsVal, Pr.ofOption, cells, fillA, splice, nz, dr, cln, flat, one, bnd, slA, items, appA, Hp.get, Hp.app, Hp.set, eqAll, eq1, lookA, resA, rvA, fin, AV.i, AV.b, AV.s, beq_int, bne_int, emp_is, emp_iff, runD, step2, clash, apartFP, Pr.log, A49L1, Sto.e, Tr.e, hi, hg, hw, w1, h1, h2, h0f]
        exact .inr ⟨.ret, _, by simp, hb, by simp [LX, fl]⟩
      · have hq := q2 _ rfl
        obtain ⟨b0, hgb⟩ : ∃ b0, s.opn[i - 1] = b0 := ⟨_, rfl⟩
        rw [hgb] at hq
        have hw1 := wrap_pred i h0 (by omega)
        have hb : acode (run1 code ext n) n A49L1 (A49H1 (.ptr 0 0 0) (aV 0 u b.length) (.i i), ⟨[.box 0 s.e], aR u 3 (b.map Wr.e), nx⟩) = acode (run1 code ext n) n A49L1 (A49H1 (.ptr 0 0 0) (aV 0 u b.length) (.i i), ⟨[.box 0 s.e], aR u 3 (b.map Wr.e), nx⟩) := rfl
        conv at hb => rhs; simp [acode, runOps, step1, aop, wantedA, ev, put, opened, binV, binInt, binStr, app_v, Pr.run, Pr.map, Pr.bind, Pr.mapP, loadA, storeA, cellsVal, Pr.ofOption, cells, fillA, splice, nz, dr, cln, flat, one, bnd, slA, items, appA, Hp.get, Hp.app, Hp.set, eqAll, eq1, lookA, resA, rvA, fin, AV.i, AV.b, AV.s, beq_int, bne_int, emp_is, emp_iff, runD, step2, clash, apartFP, Pr.log, A49L1, Sto.e, Tr.e, hi, hg, hw, w1, h1, h2, h0, hw1, hi1, hgb, hq]
        exact .inr ⟨.ret, _, by simp, hb, by simp [LX, fl]⟩
    · intro q1 q2 q3 q4 qq
      rw [q1] at h1
      rw [q3] at h2
      rw [qq, if_pos (by simp)]
      rcases hoc with ⟨hi0, rfl⟩ | ⟨h0, hi1, rfl⟩
      · have h0f : ¬ 0 < i := by omega
        have hb : acode (run1 code ext n) n A49L1 (A49H1 (.ptr 0 0 0) (aV 0 u b.length) (.i i), ⟨[.box 0 s.e], aR u 3 (b.map Wr.e), nx⟩) = acode (run1 code ext n) n A49L1 (A49H1 (.ptr 0 0 0) (aV 0 u b.length) (.i i), ⟨[.box 0 s.e], aR u 3 (b.map Wr.e), nx⟩) := rfl
        conv at hb => rhs; simp [acode, runOps, step1, aop, wantedA, ev, put, opened, binV, binInt, binStr, app_v, Pr.run, Pr.map, Pr.bind, Pr.mapP, loadA, storeA, cellsVal, Pr.ofOption, cells, fillA, splice, nz, dr, cln, flat, one, bnd, slA, items, appA, Hp.get, Hp.app, Hp.set, eqAll, eq1, lookA, resA, rvA, fin, AV.i, AV.b, AV.s, beq_int, bne_int, emp_is, emp_iff, runD, step2, clash, apartFP, Pr.log, A49L1, Sto.e, Tr.e, hi, hg, hw, w1, h1, h2, q4, h0f]
        exact .inr ⟨.ret, _, by simp, hb, by simp [LX, fl]⟩
      · have hq := q2 _ rfl
        obtain ⟨b0, hgb⟩ : ∃ b0, s.opn[i - 1] = b0 := ⟨_, rfl⟩
        rw [hgb] at hq
        have hw1 := wrap_pred i h0 (by omega)
        have hb : acode (run1 code ext n) n A49L1 (A49H1 (.ptr 0 0 0) (aV 0 u b.length) (.i i), ⟨[.box 0 s.e], aR u 3 (b.map Wr.e), nx⟩) = acode (run1 code ext n) n A49L1 (A49H1 (.ptr 0 0 0) (aV 0 u b.length) (.i i), ⟨[.box 0 s.e], aR u 3 (b.map Wr.e), nx⟩) := rfl
        conv at hb => rhs; simp [acode, runOps, step1, aop, wantedA, ev, put, opened, binV, binInt, binStr, app_v, Pr.run, Pr.map, Pr.bind, Pr.mapP, loadA, storeA, cellsVal, Pr.ofOption, cells, fillA, splice, nz, dr, cln, flat, one, bnd, slA, items, appA, Hp.get, Hp.app, Hp.set, eqAll, eq1, lookA, resA, rvA, fin, AV.i, AV.b, AV.s, beq_int, bne_int, emp_is, emp_iff, runD, step2, clash, apartFP, Pr.log, A49L1, Sto.e, Tr.e, hi, hg, hw, w1, h1, h2, q4, h0, hw1, hi1, hgb, hq]
        exact .inr ⟨.ret, _, by simp, hb, by simp [LX, fl]⟩
    · intro q1 q2 q3 q4 qq
      rw [q1] at h1
      rw [q3] at h2
      rw [qq, if_neg (by simp)]
      obtain ⟨e, st, k1, k2⟩ := loop49a n hn s hs t htw (by omega) (nx + 5 + 5) b.length (baseS s.vers t.sees).length (by omega) (by omega) (.i i) n 0 (nx + 5 + 7 + 7 + 14 + 8 + 4 + 5 + 1) u b (baseS s.vers t.sees) (by omega) (by omega) (Nat.zero_le _) (by omega)
      simp only [List.drop_zero] at k2
      simp only [Int.natCast_zero, Sto.e, Tr.e, roS] at k1
      by_cases q : (ckWrs afterS s (baseS s.vers t.sees) (thR s b) t.writes).1 = 0
      · unfold Q49a at k2
        simp only [q, fl_zero, List.drop_zero] at k2
        obtain ⟨u', l', nx', rfl, rfl, hth⟩ := k2
        simp only [F49a, roS, roW] at k1
        rw [if_neg (by simpa using q), hth]
        rcases hoc with ⟨hi0, rfl⟩ | ⟨h0, hi1, rfl⟩
        · have h0f : ¬ 0 < i := by omega
          have hb : acode (run1 code ext n) n A49L1 (A49H1 (.ptr 0 0 0) (aV 0 u b.length) (.i i), ⟨[.box 0 s.e], aR u 3 (b.map Wr.e), nx⟩) = acode (run1 code ext n) n A49L1 (A49H1 (.ptr 0 0 0) (aV 0 u b.length) (.i i), ⟨[.box 0 s.e], aR u 3 (b.map Wr.e), nx⟩) := rfl
          conv at hb => rhs; simp [acode, runOps, step1, aop, wantedA, ev, put, opened, binV, binInt, binStr, app_v, Pr.run, Pr.map, Pr.bind, Pr.mapP, loadA, storeA, cellsVal, Pr.ofOption, cells, fillA, splice, nz, dr, cln, flat, one, bnd, slA, items, appA, Hp.get, Hp.app, Hp.set, eqAll, eq1, lookA, resA, rvA, fin, AV.i, AV.b, AV.s, beq_int, bne_int, emp_is, emp_iff, runD, step2, clash, apartFP, Pr.log, A49L1, Sto.e, Tr.e, hi, hg, hw, w1, h1, h2, h3, q4, A49M0_eq, k1, h0f]
          exact .inl ⟨_, (b ++ t.writes, u'), _, hb, by simp [trunc, mask, A49M1, Sto.e]; rfl, by simp; omega, fun e st h => by rw [hlast] at h; exact h⟩
        · have hq := q2 _ rfl
          obtain ⟨b0, hgb⟩ : ∃ b0, s.opn[i - 1] = b0 := ⟨_, rfl⟩
          rw [hgb] at hq
          have hw1 := wrap_pred i h0 (by omega)
          have hb : acode (run1 code ext n) n A49L1 (A49H1 (.ptr 0 0 0) (aV 0 u b.length) (.i i), ⟨[.box 0 s.e], aR u 3 (b.map Wr.e), nx⟩) = acode (run1 code ext n) n A49L1 (A49H1 (.ptr 0 0 0) (aV 0 u b.length) (.i i), ⟨[.box 0 s.e], aR u 3 (b.map Wr.e), nx⟩) := rfl
          conv at hb => rhs; simp [acode, runOps, step1, aop, wantedA, ev, put, opened, binV, binInt, binStr, app_v, Pr.run, Pr.map, Pr.bind, Pr.mapP, loadA, storeA, cellsVal, Pr.ofOption, cells, fillA, splice, nz, dr, cln, flat, one, bnd, slA, items, appA, Hp.get, Hp.app, Hp.set, eqAll, eq1, lookA, resA, rvA, fin, AV.i, AV.b, AV.s, beq_int, bne_int, emp_is, emp_iff, runD, step2, clash, apartFP, Pr.log, A49L1, Sto.e, Tr.e, hi, hg, hw, w1, h1, h2, h3, q4, A49M0_eq, k1, h0, hw1, hi1, hgb, hq]
          exact .inl ⟨_, (b ++ t.writes, u'), _, hb, by simp [trunc, mask, A49M1, Sto.e]; rfl, by simp; omega, fun e st h => by rw [hlast] at h; exact h⟩
      · unfold Q49a at k2
        simp only [fl_pos q] at k2
        obtain ⟨F, h, rfl, rfl, hF⟩ : ∃ F h, e = .ret ∧ st = (F, h) ∧ F[2]? = some (.i (ckWrs afterS s (baseS s.vers t.sees) (thR s b) t.writes).1) := ⟨st.1, st.2, k2.1, rfl, k2.2.1⟩
        rw [if_pos (by simpa using q), fl_pos q]
        rcases hoc with ⟨hi0, rfl⟩ | ⟨h0, hi1, rfl⟩
        · have h0f : ¬ 0 < i := by omega
          have hb : acode (run1 code ext n) n A49L1 (A49H1 (.ptr 0 0 0) (aV 0 u b.length) (.i i), ⟨[.box 0 s.e], aR u 3 (b.map Wr.e), nx⟩) = acode (run1 code ext n) n A49L1 (A49H1 (.ptr 0 0 0) (aV 0 u b.length) (.i i), ⟨[.box 0 s.e], aR u 3 (b.map Wr.e), nx⟩) := rfl
          conv at hb => rhs; simp [acode, runOps, step1, aop, wantedA, ev, put, opened, binV, binInt, binStr, app_v, Pr.run, Pr.map, Pr.bind, Pr.mapP, loadA, storeA, cellsVal, Pr.ofOption, cells, fillA, splice, nz, dr, cln, flat, one, bnd, slA, items, appA, Hp.get, Hp.app, Hp.set, eqAll, eq1, lookA, resA, rvA, fin, AV.i, AV.b, AV.s, beq_int, bne_int, emp_is, emp_iff, runD, step2, clash, apartFP, Pr.log, A49L1, Sto.e, Tr.e, hi, hg, hw, w1, h1, h2, h3, q4, A49M0_eq, k1, h0f]
          exact .inr ⟨.ret, _, by simp, hb, by simp [LX, hF]⟩
        · have hq := q2 _ rfl
          obtain ⟨b0, hgb⟩ : ∃ b0, s.opn[i - 1] = b0 := ⟨_, rfl⟩
          rw [hgb] at hq
          have hw1 := wrap_pred i h0 (by omega)
          have hb : acode (run1 code ext n) n A49L1 (A49H1 (.ptr 0 0 0) (aV 0 u b.length) (.i i), ⟨[.box 0 s.e], aR u 3 (b.map Wr.e), nx⟩) = acode (run1 code ext n) n A49L1 (A49H1 (.ptr 0 0 0) (aV 0 u b.length) (.i i), ⟨[.box 0 s.e], aR u 3 (b.map Wr.e), nx⟩) := rfl
          conv at hb => rhs; simp [acode, runOps, step1, aop, wantedA, ev, put, opened, binV, binInt, binStr, app_v, Pr.run, Pr.map, Pr.bind, Pr.mapP, loadA, storeA, cellsVal, Pr.ofOption, cells, fillA, splice, nz, dr, cln, flat, one, bnd, slA, items, appA, Hp.get, Hp.app, Hp.set, eqAll, eq1, lookA, resA, rvA, fin, AV.i, AV.b, AV.s, beq_int, bne_int, emp_is, emp_iff, runD, step2, clash, apartFP, Pr.log, A49L1, Sto.e, Tr.e, hi, hg, hw, w1, h1, h2, h3, q4, A49M0_eq, k1, h0, hw1, hi1, hgb, hq]
          exact .inr ⟨.ret, _, by simp, hb, by simp [LX, hF]⟩

theorem e49 (s : Sto) (hs : Bd s) : Is code ext 6 49 [.agg s.e] (.i (ckOpen afterS s)) := by
  refine Is.step code ext c49 fun n hn => ?_
  have ho := hs.o
  obtain ⟨e, st, q2, q3⟩ := loop49b n hn s hs n 0 4 0 [] (Nat.le_refl _) (Nat.zero_le _) (by omega)
  simp only [List.drop_zero, List.take_zero, List.getLast?_nil] at q3
  simp only [Int.natCast_zero, Sto.e, List.length_nil, List.map_nil, aV, aR, if_pos] at q2
  have hth : thR s [] = hasV s := by funext r; simp [thR, insW]
  rw [hth] at q3
  unfold ckOpen
  by_cases hq : ckOpenL afterS s (hasV s) none s.opn = 0
  · rw [hq, fl_zero] at q3
    obtain ⟨F, h, rfl, rfl, hF⟩ := q3.exit
    simp [A49, acode, runOps, step1, aop, wantedA, ev, put, opened, binV, binInt, binStr, app_v, Pr.run, Pr.map, Pr.bind, Pr.mapP, loadA, storeA, cellsVal, Pr.ofOption, cells, fillA, splice, nz, dr, cln, flat, one, bnd, slA, items, appA, Hp.get, Hp.app, Hp.set, eqAll, eq1, lookA, resA, rvA, fin, AV.i, AV.b, AV.s, beq_int, bne_int, emp_is, emp_iff, runD, step2, clash, apartFP, Pr.log, Sto.e, A49M1_eq, q2, hq, hF]
  · rw [fl_pos hq] at q3
    obtain ⟨F, h, rfl, rfl, hF⟩ := q3.back
    simp [A49, acode, runOps, step1, aop, wantedA, ev, put, opened, binV, binInt, binStr, app_v, Pr.run, Pr.map, Pr.bind, Pr.mapP, loadA, storeA, cellsVal, Pr.ofOption, cells, fillA, splice, nz, dr, cln, flat, one, bnd, slA, items, appA, Hp.get, Hp.app, Hp.set, eqAll, eq1, lookA, resA, rvA, fin, AV.i, AV.b, AV.s, beq_int, bne_int, emp_is, emp_iff, runD, step2, clash, apartFP, Pr.log, Sto.e, A49M1_eq, q2, hF]
end Go.Pv

namespace Go.Pv
open Go
set_option maxRecDepth 100000
set_option maxHeartbeats 8000000

abbrev roT (l : List Tr) : AV := .ro (l.map Tr.e)

theorem loop46a (call : Nat → List AV → Hp → Option (AV × Hp)) (n : Nat) (s : Sto) (um : Nat) (hs : s.vers.length < 2 ^ 62) (m i nx : Nat) (es : List (Int × AV)) (hi : i ≤ s.vers.length) (hm : s.vers.length - i < m) (hI : ∀ r, (lookA (.b false) es r).1 = .b ((s.vers.take i).any (·.row == r))) :
    ∃ e st, iter (acode call n A46L0) 1 A46M0 m (A46H0 (.ptr 0 0 0) (.mp 0 um) (roV s.vers) (.i s.vers.length) (.i i), ⟨[.box 0 s.e], [.map um es], nx⟩) = some (e, st) ∧ ∃ es' nx', e = .ex 0 ∧ st = ((A46H0 (.ptr 0 0 0) (.mp 0 um) (roV s.vers) (.i s.vers.length) (.i s.vers.length)).set 17 (.b false), ⟨[.box 0 s.e], [.map um es'], nx'⟩) ∧ ∀ r, (lookA (.b false) es' r).1 = .b (hasV s r) := by
  refine loop_list (f := acode call n A46L0) (k := 1) (M := A46M0) s.vers (fun i (x : List (Int × AV)) nx => (A46H0 (.ptr 0 0 0) (.mp 0 um) (roV s.vers) (.i s.vers.length) (.i i), ⟨[.box 0 s.e], [.map um x], nx⟩)) (fun i x => ∀ r, (lookA (.b false) x r).1 = .b ((s.vers.take i).any (·.row == r))) (fun i _ x e st => ∃ es' nx', e = .ex 0 ∧ st = ((A46H0 (.ptr 0 0 0) (.mp 0 um) (roV s.vers) (.i s.vers.length) (.i s.vers.length)).set 17 (.b false), ⟨[.box 0 s.e], [.map um es'], nx'⟩) ∧ ∀ r, (lookA (.b false) es' r).1 = .b (hasV s r)) ?_ ?_ m i es nx hi hm hI
  · intro x nx hI
    have hb : acode call n A46L0 (A46H0 (.ptr 0 0 0) (.mp 0 um) (roV s.vers) (.i s.vers.length) (.i s.vers.length), ⟨[.box 0 s.e], [.map um x], nx⟩) = acode call n A46L0 (A46H0 (.ptr 0 0 0) (.mp 0 um) (roV s.vers) (.i s.vers.length) (.i s.vers.length), ⟨[.box 0 s.e], [.map um x], nx⟩) := rfl
    conv at hb => rhs; simp [acode, runOps, step1, aop, wantedA, ev, put, opened, binV, binInt, binStr, app_v, Pr.run, Pr.map, Pr.bind, Pr.mapP, loadA, storeA, cellsVal, Pr.ofOption, cells, fillA, splice, nz, dr, cln, flat, one, bnd, slA, items, appA, Hp.get, Hp.app, Hp.set, eqAll, eq1, lookA, resA, rvA, fin, AV.i, AV.b, AV.s, beq_int, bne_int, emp_is, emp_iff, runD, step2, clash, apartFP, Pr.log, A46L0]
    exact ⟨_, _, by simp, hb, x, _, rfl, by simp; rfl, fun r => by rw [hI r, List.take_length]; rfl⟩
  · intro i hi v x nx hg hI
    have hw := wrap_nat i (by omega)
    have ht : s.vers.take (i + 1) = s.vers.take i ++ [v] := by rw [← hg]; exact (List.take_append_getElem hi).symm
    have hb : acode call n A46L0 (A46H0 (.ptr 0 0 0) (.mp 0 um) (roV s.vers) (.i s.vers.length) (.i i), ⟨[.box 0 s.e], [.map um x], nx⟩) = acode call n A46L0 (A46H0 (.ptr 0 0 0) (.mp 0 um) (roV s.vers) (.i s.vers.length) (.i i), ⟨[.box 0 s.e], [.map um x], nx⟩) := rfl
    conv at hb => rhs; simp [acode, runOps, step1, aop, wantedA, ev, put, opened, binV, binInt, binStr, app_v, Pr.run, Pr.map, Pr.bind, Pr.mapP, loadA, storeA, cellsVal, Pr.ofOption, cells, fillA, splice, nz, dr, cln, flat, one, bnd, slA, items, appA, Hp.get, Hp.app, Hp.set, eqAll, eq1, lookA, resA, rvA, fin, AV.i, AV.b, AV.s, beq_int, bne_int, emp_is, emp_iff, runD, step2, clash, apartFP, Pr.log, A46L0, Ver.e, eVals, hi, hg, hw]
    refine .inl ⟨_, (v.row, .b true) :: x, _, hb, by simp [trunc, mask, A46M0, roV]; rfl, fun r => ?_, fun e st h => h⟩
    rw [ht, List.any_append]
    by_cases h : v.row = r
    · simp [lookA, h]
    · simp [lookA, h, hI r]

/-- Rows of the heap with the map of rows that there are, and what is seen. -/
def In46 (um r : Nat) (rs : List Ob) (v : AV) (l : List Sn) (th : Int → Bool) : Prop :=
  (∃ es, rs[0]? = some (.map um es) ∧ ∀ k, (lookA (.b false) es k).1 = .b (th k)) ∧ Sl Sn.e 2 rs r v l ∧ 0 < r ∧ (v = .nils → rs.length = r)

def F46 (t3 v t25 t26 t27 : AV) (t : Tr) : List AV := (A46H1 (.ptr 0 0 0) t3 v t25 t26 t27 (roW t.writes) (.i t.writes.length) (.i t.writes.length)).set 73 (.b false)

structure X46 where
  rs : List Ob
  v : AV
  l : List Sn
  th : Int → Bool

def Q46 (s : Sto) (t : Tr) (um u7 : Nat) (t25 t26 t27 : AV) (r : List Wr) (x : X46) (e : Ex) (st : St) : Prop :=
  match fl (ckWrs wroteS s x.l x.th r).1 with
  | some v => e = .ret ∧ st.1[2]? = some v
  | none => ∃ v' rs' nx, e = .ex 4 ∧ st = (F46 (.mp 0 um) v' t25 t26 t27 t, ⟨[.box 0 s.e, .box u7 t.e], rs', nx⟩) ∧ ∃ es, rs'[0]? = some (.map um es) ∧ ∀ k, (lookA (.b false) es k).1 = .b ((ckWrs wroteS s x.l x.th r).2 k)

theorem sl_set0 {l : List Sn} {rs : List Ob} {r : Nat} {v : AV} {o : Ob} (hr : 0 < r) (h : Sl Sn.e 2 rs r v l) : Sl Sn.e 2 (rs.set 0 o) r v l := by
  rcases h with h | ⟨u, xs, h1, h2, h3⟩
  · exact .inl h
  · exact .inr ⟨u, xs, h1, by rw [List.getElem?_set_ne (by omega)]; exact h2, h3⟩

theorem loop46b (n : Nat) (hn : 2 ^ 64 + 6 ≤ n) (s : Sto) (hs : Bd s) (t : Tr) (hwl : t.writes.length ≤ 200) (um u7 r N : Nat) (hN : N < 2 ^ 28) (t25 t26 t27 : AV) (m i nx : Nat) (x : X46) (hI : In46 um r x.rs x.v x.l x.th) (hl0 : x.l.length ≤ N + i) (hi : i ≤ t.writes.length) (hm : t.writes.length - i < m) :
    ∃ e st, iter (acode (run1 code ext n) n A46L1) 2 A46M1 m (A46H1 (.ptr 0 0 0) (.mp 0 um) x.v t25 t26 t27 (roW t.writes) (.i t.writes.length) (.i i), ⟨[.box 0 s.e, .box u7 t.e], x.rs, nx⟩) = some (e, st) ∧ Q46 s t um u7 t25 t26 t27 (t.writes.drop i) x e st := by
  refine loop_list (f := acode (run1 code ext n) n A46L1) (k := 2) (M := A46M1) t.writes (fun i (x : X46) nx => (A46H1 (.ptr 0 0 0) (.mp 0 um) x.v t25 t26 t27 (roW t.writes) (.i t.writes.length) (.i i), ⟨[.box 0 s.e, .box u7 t.e], x.rs, nx⟩)) (fun i x => In46 um r x.rs x.v x.l x.th ∧ x.l.length ≤ N + i) (fun i r x e st => Q46 s t um u7 t25 t26 t27 r x e st) ?_ ?_ m i x nx hi hm ⟨hI, hl0⟩
  · intro x nx hI
    have hb : acode (run1 code ext n) n A46L1 (A46H1 (.ptr 0 0 0) (.mp 0 um) x.v t25 t26 t27 (roW t.writes) (.i t.writes.length) (.i t.writes.length), ⟨[.box 0 s.e, .box u7 t.e], x.rs, nx⟩) = acode (run1 code ext n) n A46L1 (A46H1 (.ptr 0 0 0) (.mp 0 um) x.v t25 t26 t27 (roW t.writes) (.i t.writes.length) (.i t.writes.length), ⟨[.box 0 s.e, .box u7 t.e], x.rs, nx⟩) := rfl
    conv at hb => rhs; simp [acode, runOps, step1, aop, wantedA, ev, put, opened, binV, binInt, binStr, app_v, Pr.run, Pr.map, Pr.bind, Pr.mapP, loadA, storeA, cellsVal, Pr.ofOption, cells, fillA, splice, nz, dr, cln, flat, one, bnd, slA, items, appA, Hp.get, Hp.app, Hp.set, eqAll, eq1, lookA, resA, rvA, fin, AV.i, AV.b, AV.s, beq_int, bne_int, emp_is, emp_iff, runD, step2, clash, apartFP, Pr.log, A46L1]
    refine ⟨_, _, by simp, hb, ?_⟩
    unfold Q46
    simp only [ckWrs, fl_zero]
    exact ⟨x.v, x.rs, _, trivial, by simp [F46]; rfl, hI.1.1⟩
  · intro i hi w x nx hg hI
    obtain ⟨rs, v, l, th⟩ := x
    simp only at hI ⊢
    obtain ⟨⟨⟨es, hm0, hlk⟩, hsl, hr0, hnil⟩, hll⟩ := hI
    have hw := wrap_nat i (by omega)
    obtain ⟨v1, rs1, nx1, h1, rfl, rfl⟩ := e87 s hs l (by omega) w th r 0 um es v rs hsl hm0 hlk n hn (nx + 1 + 4 + 6)
    simp only [Sto.e, Wr.e, eVals] at h1
    obtain ⟨hm1, hm2⟩ := List.getElem?_eq_some_iff.1 hm0
    by_cases q : ckWr s l th w = 0
    · rw [q] at h1
      obtain ⟨z1, z2, z3⟩ := ckWr_zero q
      by_cases k : w.kind = 1
      · have kx : (w.kind = 1) = True := eq_true k
        obtain ⟨v2, rs2, nx2, g1, g2, g3, g4⟩ := e88 l w z1 z3 (by omega) r v (rs1.set 0 (.map um ((w.row, .b true) :: es))) (sl_set0 hr0 hsl) (fun h => by rw [List.length_set]; exact hnil h) n (by omega) (nx1 + 2 + 3 + 4 + 4)
        simp only [Wr.e, eVals] at g1
        have hb : acode (run1 code ext n) n A46L1 (A46H1 (.ptr 0 0 0) (.mp 0 um) v t25 t26 t27 (roW t.writes) (.i t.writes.length) (.i i), ⟨[.box 0 s.e, .box u7 t.e], rs1, nx⟩) = acode (run1 code ext n) n A46L1 (A46H1 (.ptr 0 0 0) (.mp 0 um) v t25 t26 t27 (roW t.writes) (.i t.writes.length) (.i i), ⟨[.box 0 s.e, .box u7 t.e], rs1, nx⟩) := rfl
        conv at hb => rhs; simp [acode, runOps, step1, aop, wantedA, ev, put, opened, binV, binInt, binStr, app_v, Pr.run, Pr.map, Pr.bind, Pr.mapP, loadA, storeA, cellsVal, Pr.ofOption, cells, fillA, splice, nz, dr, cln, flat, one, bnd, slA, items, appA, Hp.get, Hp.app, Hp.set, eqAll, eq1, lookA, resA, rvA, fin, AV.i, AV.b, AV.s, beq_int, bne_int, emp_is, emp_iff, runD, step2, clash, apartFP, Pr.log, A46L1, Sto.e, Tr.e, Wr.e, eVals, roW, hi, hg, hw, h1, kx, hm1, hm2, g1]
        refine .inl ⟨_, ⟨rs2, v2, wroteS l w, upd th w⟩, _, hb, by simp [trunc, mask, A46M1, Sto.e, Tr.e, roW]; rfl, ⟨⟨⟨(w.row, .b true) :: es, ?_, fun k' => ?_⟩, g2, hr0, g3⟩, ?_⟩, fun e st h => ?_⟩
        · rw [g4 0 hr0, List.getElem?_set_self (by omega)]
        · by_cases h : w.row = k'
          · simp [lookA, upd, h, k]
          · simp [lookA, upd, h, hlk k']
        · have := wrote_len l w
          simp only; omega
        · unfold Q46 at h ⊢
          simpa [ckWrs_step, q] using h
      · obtain ⟨v2, rs2, nx2, g1, g2, g3, g4⟩ := e88 l w z1 z3 (by omega) r v rs1 hsl hnil n (by omega) (nx1 + 2 + 3 + 4)
        simp only [Wr.e, eVals] at g1
        have hb : acode (run1 code ext n) n A46L1 (A46H1 (.ptr 0 0 0) (.mp 0 um) v t25 t26 t27 (roW t.writes) (.i t.writes.length) (.i i), ⟨[.box 0 s.e, .box u7 t.e], rs1, nx⟩) = acode (run1 code ext n) n A46L1 (A46H1 (.ptr 0 0 0) (.mp 0 um) v t25 t26 t27 (roW t.writes) (.i t.writes.length) (.i i), ⟨[.box 0 s.e, .box u7 t.e], rs1, nx⟩) := rfl
        conv at hb => rhs; simp [acode, runOps, step1, aop, wantedA, ev, put, opened, binV, binInt, binStr, app_v, Pr.run, Pr.map, Pr.bind, Pr.mapP, loadA, storeA, cellsVal, Pr.ofOption, cells, fillA, splice, nz, dr, cln, flat, one, bnd, slA, items, appA, Hp.get, Hp.app, Hp.set, eqAll, eq1, lookA, resA, rvA, fin, AV.i, AV.b, AV.s, beq_int, bne_int, emp_is, emp_iff, runD, step2, clash, apartFP, Pr.log, A46L1, Sto.e, Tr.e, Wr.e, eVals, roW, hi, hg, hw, h1, k, g1]
        have hu : upd th w = th := by funext k'; simp [upd, k]
        refine .inl ⟨_, ⟨rs2, v2, wroteS l w, upd th w⟩, _, hb, by simp [trunc, mask, A46M1, Sto.e, Tr.e, roW]; rfl, ⟨⟨⟨es, ?_, fun k' => ?_⟩, g2, hr0, g3⟩, ?_⟩, fun e st h => ?_⟩
        · rw [g4 0 hr0]; exact hm0
        · rw [hu]; exact hlk k'
        · have := wrote_len l w
          simp only; omega
        · unfold Q46 at h ⊢
          simpa [ckWrs_step, q] using h
    · have hb : acode (run1 code ext n) n A46L1 (A46H1 (.ptr 0 0 0) (.mp 0 um) v t25 t26 t27 (roW t.writes) (.i t.writes.length) (.i i), ⟨[.box 0 s.e, .box u7 t.e], rs1, nx⟩) = acode (run1 code ext n) n A46L1 (A46H1 (.ptr 0 0 0) (.mp 0 um) v t25 t26 t27 (roW t.writes) (.i t.writes.length) (.i i), ⟨[.box 0 s.e, .box u7 t.e], rs1, nx⟩) := rfl
      conv at hb => rhs; simp [acode, runOps, step1, aop, wantedA, ev, put, opened, binV, binInt, binStr, app_v, Pr.run, Pr.map, Pr.bind, Pr.mapP, loadA, storeA, cellsVal, Pr.ofOption, cells, fillA, splice, nz, dr, cln, flat, one, bnd, slA, items, appA, Hp.get, Hp.app, Hp.set, eqAll, eq1, lookA, resA, rvA, fin, AV.i, AV.b, AV.s, beq_int, bne_int, emp_is, emp_iff, runD, step2, clash, apartFP, Pr.log, A46L1, Sto.e, Tr.e, Wr.e, eVals, roW, hi, hg, hw, h1, q]
      refine .inr ⟨.ret, _, by simp, hb, ?_⟩
      unfold Q46
      simp [ckWrs_step, q, fl_pos q]
end Go.Pv
