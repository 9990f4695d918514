/-
  What functions come to: a store of its own. Conditions: none.
-/
import Derived.Test.YthncjbjlnligaaaPvP
set_option linter.unusedVariables false
set_option linter.unusedSimpArgs false
namespace Go.Pv
open Go
set_option maxRecDepth 100000
set_option maxHeartbeats 8000000

theorem set_self {α : Type} {l : List α} {i : Nat} {x : α} (h : l[i]? = some x) : l.set i x = l := by
  obtain ⟨h1, h2⟩ := List.getElem?_eq_some_iff.1 h
  subst h2
  exact List.set_getElem_self h1

theorem loop51a (n : Nat) (hn : 2 ^ 64 + 1 ≤ n) (vs : List Ver) (hv : ∀ v ∈ vs, v.vals.length < 2 ^ 30) (hs : vs.length < 2 ^ 62) (t1 t2 : AV) (b0 b1 : Ob) (r u : Nat) (rs : List Ob) (hr : rs[r]? = some (.row u 4 (vs.map Ver.e))) (m i nx : Nat) (hi : i ≤ vs.length) (hm : vs.length - i < m) :
    ∃ e st, iter (acode (run1 code ext n) n A51L0) 2 A51M0 m (A51H0 t1 t2 (.own r u 0 vs.length) (.own r u 0 vs.length) (.i vs.length) (.i i), ⟨[b0, b1], rs, nx⟩) = some (e, st) ∧
      ∃ nx', e = .ex 0 ∧ st = ((A51H0 t1 t2 (.own r u 0 vs.length) (.own r u 0 vs.length) (.i vs.length) (.i vs.length)).set 22 (.b false), ⟨[b0, b1], rs, nx'⟩) := by
  obtain ⟨hrl, hr'⟩ := List.getElem?_eq_some_iff.1 hr
  refine loop_list (f := acode (run1 code ext n) n A51L0) (k := 2) (M := A51M0) vs (fun i (_ : Unit) nx => (A51H0 t1 t2 (.own r u 0 vs.length) (.own r u 0 vs.length) (.i vs.length) (.i i), ⟨[b0, b1], rs, nx⟩)) (fun _ _ => True) (fun i _ _ e st => ∃ nx', e = .ex 0 ∧ st = ((A51H0 t1 t2 (.own r u 0 vs.length) (.own r u 0 vs.length) (.i vs.length) (.i vs.length)).set 22 (.b false), ⟨[b0, b1], rs, nx'⟩)) ?_ ?_ m i () nx hi hm trivial
  · intro _ nx _
    have hb : acode (run1 code ext n) n A51L0 (A51H0 t1 t2 (.own r u 0 vs.length) (.own r u 0 vs.length) (.i vs.length) (.i vs.length), ⟨[b0, b1], rs, nx⟩) = acode (run1 code ext n) n A51L0 (A51H0 t1 t2 (.own r u 0 vs.length) (.own r u 0 vs.length) (.i vs.length) (.i vs.length), ⟨[b0, b1], rs, nx⟩) := rfl
    conv at hb => rhs; simp [acode, runOps, step1, aop, wantedA, ev, put, opened, binV, binInt, binStr, app_v, Pr.run, Pr.map, Pr.bind, Pr.mapP, loadA, storeA, cellsVal, Pr.ofOption, cells, fillA, splice, nz, dr, cln, flat, one, bnd, slA, items, appA, Hp.get, Hp.app, Hp.set, eqAll, eq1, lookA, resA, rvA, fin, AV.i, AV.b, AV.s, beq_int, bne_int, emp_is, emp_iff, runD, step2, clash, apartFP, Pr.log, A51L0]
    exact ⟨_, _, by simp, hb, _, rfl, by simp; rfl⟩
  · intro i hi v _ nx hg _
    have hw := wrap_nat i (by omega)
    have h57 := e57 v.vals (hv v (by rw [← hg]; exact List.getElem_mem _)) n (by omega)
    have hs1 : (vs.map Ver.e).set i v.e = vs.map Ver.e := set_self (by rw [List.getElem?_map, List.getElem?_eq_getElem hi, hg]; rfl)
    have hs2 : rs.set r (.row u 4 (vs.map Ver.e)) = rs := set_self hr
    simp only [eVals, Ver.e] at h57 hs1
    have hb : acode (run1 code ext n) n A51L0 (A51H0 t1 t2 (.own r u 0 vs.length) (.own r u 0 vs.length) (.i vs.length) (.i i), ⟨[b0, b1], rs, nx⟩) = acode (run1 code ext n) n A51L0 (A51H0 t1 t2 (.own r u 0 vs.length) (.own r u 0 vs.length) (.i vs.length) (.i i), ⟨[b0, b1], rs, nx⟩) := rfl
    conv at hb => rhs; simp [acode, runOps, step1, aop, wantedA, ev, put, opened, binV, binInt, binStr, app_v, Pr.run, Pr.map, Pr.bind, Pr.mapP, loadA, storeA, cellsVal, Pr.ofOption, cells, fillA, splice, nz, dr, cln, flat, one, bnd, slA, items, appA, Hp.get, Hp.app, Hp.set, eqAll, eq1, lookA, resA, rvA, fin, AV.i, AV.b, AV.s, beq_int, bne_int, emp_is, emp_iff, runD, step2, clash, apartFP, Pr.log, A51L0, Ver.e, eVals, hi, hg, hw, h57, hr', hrl, hs1, hs2]
    exact .inl ⟨_, (), _, hb, by simp [trunc, mask, A51M0]; rfl, trivial, fun e st h => h⟩

theorem loop51b (n : Nat) (hn : 2 ^ 64 + 1 ≤ n) (ws : List Wr) (hv : ∀ v ∈ ws, v.vals.length < 2 ^ 30) (hs : ws.length < 2 ^ 62) (t1 t2 t3 t6 t7 t37 t38 t39 : AV) (b0 b1 b8 : Ob) (r u : Nat) (rs : List Ob) (hr : rs[r]? = some (.row u 3 (ws.map Wr.e))) (m i nx : Nat) (hi : i ≤ ws.length) (hm : ws.length - i < m) :
    ∃ e st, iter (acode (run1 code ext n) n A51L1) 3 A51M1 m (A51H1 t1 t2 t3 t6 t7 (.own r u 0 ws.length) t37 t38 t39 (.own r u 0 ws.length) (.i ws.length) (.i i), ⟨[b0, b1, b8], rs, nx⟩) = some (e, st) ∧
      ∃ nx', e = .ex 4 ∧ st = ((A51H1 t1 t2 t3 t6 t7 (.own r u 0 ws.length) t37 t38 t39 (.own r u 0 ws.length) (.i ws.length) (.i ws.length)).set 50 (.b false), ⟨[b0, b1, b8], rs, nx'⟩) := by
  obtain ⟨hrl, hr'⟩ := List.getElem?_eq_some_iff.1 hr
  refine loop_list (f := acode (run1 code ext n) n A51L1) (k := 3) (M := A51M1) ws (fun i (_ : Unit) nx => (A51H1 t1 t2 t3 t6 t7 (.own r u 0 ws.length) t37 t38 t39 (.own r u 0 ws.length) (.i ws.length) (.i i), ⟨[b0, b1, b8], rs, nx⟩)) (fun _ _ => True) (fun i _ _ e st => ∃ nx', e = .ex 4 ∧ st = ((A51H1 t1 t2 t3 t6 t7 (.own r u 0 ws.length) t37 t38 t39 (.own r u 0 ws.length) (.i ws.length) (.i ws.length)).set 50 (.b false), ⟨[b0, b1, b8], rs, nx'⟩)) ?_ ?_ m i () nx hi hm trivial
  · intro _ nx _
    have hb : acode (run1 code ext n) n A51L1 (A51H1 t1 t2 t3 t6 t7 (.own r u 0 ws.length) t37 t38 t39 (.own r u 0 ws.length) (.i ws.length) (.i ws.length), ⟨[b0, b1, b8], rs, nx⟩) = acode (run1 code ext n) n A51L1 (A51H1 t1 t2 t3 t6 t7 (.own r u 0 ws.length) t37 t38 t39 (.own r u 0 ws.length) (.i ws.length) (.i ws.length), ⟨[b0, b1, b8], rs, nx⟩) := rfl
    conv at hb => rhs; simp [acode, runOps, step1, aop, wantedA, ev, put, opened, binV, binInt, binStr, app_v, Pr.run, Pr.map, Pr.bind, Pr.mapP, loadA, storeA, cellsVal, Pr.ofOption, cells, fillA, splice, nz, dr, cln, flat, one, bnd, slA, items, appA, Hp.get, Hp.app, Hp.set, eqAll, eq1, lookA, resA, rvA, fin, AV.i, AV.b, AV.s, beq_int, bne_int, emp_is, emp_iff, runD, step2, clash, apartFP, Pr.log, A51L1]
    exact ⟨_, _, by simp, hb, _, rfl, by simp; rfl⟩
  · intro i hi v _ nx hg _
    have hw := wrap_nat i (by omega)
    have h57 := e57 v.vals (hv v (by rw [← hg]; exact List.getElem_mem _)) n (by omega)
    have hs1 : (ws.map Wr.e).set i v.e = ws.map Wr.e := set_self (by rw [List.getElem?_map, List.getElem?_eq_getElem hi, hg]; rfl)
    have hs2 : rs.set r (.row u 3 (ws.map Wr.e)) = rs := set_self hr
    simp only [eVals, Wr.e] at h57 hs1
    have hb : acode (run1 code ext n) n A51L1 (A51H1 t1 t2 t3 t6 t7 (.own r u 0 ws.length) t37 t38 t39 (.own r u 0 ws.length) (.i ws.length) (.i i), ⟨[b0, b1, b8], rs, nx⟩) = acode (run1 code ext n) n A51L1 (A51H1 t1 t2 t3 t6 t7 (.own r u 0 ws.length) t37 t38 t39 (.own r u 0 ws.length) (.i ws.length) (.i i), ⟨[b0, b1, b8], rs, nx⟩) := rfl
    conv at hb => rhs; simp [acode, runOps, step1, aop, wantedA, ev, put, opened, binV, binInt, binStr, app_v, Pr.run, Pr.map, Pr.bind, Pr.mapP, loadA, storeA, cellsVal, Pr.ofOption, cells, fillA, splice, nz, dr, cln, flat, one, bnd, slA, items, appA, Hp.get, Hp.app, Hp.set, eqAll, eq1, lookA, resA, rvA, fin, AV.i, AV.b, AV.s, beq_int, bne_int, emp_is, emp_iff, runD, step2, clash, apartFP, Pr.log, A51L1, Wr.e, eVals, hi, hg, hw, h57, hr', hrl, hs1, hs2]
    exact .inl ⟨_, (), _, hb, by simp [trunc, mask, A51M1]; rfl, trivial, fun e st h => h⟩

/-- The writes of a transaction in a row of their own (not the row ro). -/
def WA (rs : List Ob) (ro : Nat) (a : AV) (l : List Wr) : Prop := (a = .nils ∧ l = []) ∨ ∃ r u, ro < r ∧ a = .own r u 0 l.length ∧ 0 < l.length ∧ rs[r]? = some (.row u 3 (l.map Wr.e))

theorem WA.grow {rs t : List Ob} {ro : Nat} {a : AV} {l : List Wr} (h : WA rs ro a l) : WA (rs ++ t) ro a l := by
  rcases h with h | ⟨r, u, h1, h2, h3, h4⟩
  · exact .inl h
  · exact .inr ⟨r, u, h1, h2, h3, by rw [List.getElem?_append_left (List.getElem?_eq_some_iff.1 h4).1]; exact h4⟩
theorem WA.set {rs : List Ob} {ro : Nat} {a : AV} {l : List Wr} {o : Ob} (h : WA rs ro a l) : WA (rs.set ro o) ro a l := by
  rcases h with h | ⟨r, u, h1, h2, h3, h4⟩
  · exact .inl h
  · exact .inr ⟨r, u, h1, h2, h3, by rw [List.getElem?_set_ne (by omega)]; exact h4⟩

theorem iter_zero51 (n : Nat) (t1 t2 t3 t6 t7 t37 t38 t39 : AV) (b0 b1 b8 : Ob) (rs : List Ob) (nx : Nat) : ∃ nx', iter (acode (run1 code ext (n + 1)) (n + 1) A51L1) 3 A51M1 (n + 1) (A51H1 t1 t2 t3 t6 t7 .nils t37 t38 t39 .nils (.i 0) (.i 0), ⟨[b0, b1, b8], rs, nx⟩) = some (.ex 4, ((A51H1 t1 t2 t3 t6 t7 .nils t37 t38 t39 .nils (.i 0) (.i 0)).set 50 (.b false), ⟨[b0, b1, b8], rs, nx'⟩)) := by
  have hb : acode (run1 code ext (n + 1)) (n + 1) A51L1 (A51H1 t1 t2 t3 t6 t7 .nils t37 t38 t39 .nils (.i 0) (.i 0), ⟨[b0, b1, b8], rs, nx⟩) = acode (run1 code ext (n + 1)) (n + 1) A51L1 (A51H1 t1 t2 t3 t6 t7 .nils t37 t38 t39 .nils (.i 0) (.i 0), ⟨[b0, b1, b8], rs, nx⟩) := rfl
  conv at hb => rhs; simp [acode, runOps, step1, aop, wantedA, ev, put, opened, binV, binInt, binStr, app_v, Pr.run, Pr.map, Pr.bind, Pr.mapP, loadA, storeA, cellsVal, Pr.ofOption, cells, fillA, splice, nz, dr, cln, flat, one, bnd, slA, items, appA, Hp.get, Hp.app, Hp.set, eqAll, eq1, lookA, resA, rvA, fin, AV.i, AV.b, AV.s, beq_int, bne_int, emp_is, emp_iff, runD, step2, clash, apartFP, Pr.log, A51L1]
  refine ⟨nx + 1, ?_⟩
  unfold iter
  rw [hb]
  simp

/-- The open transactions as far as they are cloned. -/
structure CI (ts : List Tr) (ro uo : Nat) (rs0 rs : List Ob) (cs : List (List AV)) (i : Nat) : Prop where
  row : rs[ro]? = some (.row uo 3 cs)
  len : cs.length = ts.length
  todo : ∀ j t, i ≤ j → ts[j]? = some t → cs[j]? = some t.e
  done : ∀ j t, j < i → ts[j]? = some t → ∃ a, cs[j]? = some [.i t.id, .i t.sees, a] ∧ WA rs ro a t.writes
  keep : ∀ k, k < ro → rs[k]? = rs0[k]?
  dis : ∀ (j1 j2 r u1 k1 u2 k2 : Nat) (x1 y1 x2 y2 : AV), j1 < j2 → j2 < i → cs[j1]? = some [x1, y1, .own r u1 0 k1] → cs[j2]? = some [x2, y2, .own r u2 0 k2] → False

theorem loop51c (n : Nat) (hn : 2 ^ 64 + 1 ≤ n) (ts : List Tr) (hv : ∀ t ∈ ts, t.writes.length ≤ 200 ∧ ∀ w ∈ t.writes, w.vals.length < 2 ^ 30) (hs : ts.length < 2 ^ 62) (t1 t2 t3 : AV) (b0 b1 : Ob) (ro uo : Nat) (rs0 rs : List Ob) (cs : List (List AV)) (m i nx : Nat) (hC : CI ts ro uo rs0 rs cs i) (hi : i ≤ ts.length) (hm : ts.length - i < m) :
    ∃ e st, iter (acode (run1 code ext n) n A51L2) 2 A51M2 m (A51H2 t1 t2 t3 (.own ro uo 0 ts.length) (.own ro uo 0 ts.length) (.i ts.length) (.i i), ⟨[b0, b1], rs, nx⟩) = some (e, st) ∧
      ∃ nx' rs' cs', e = .ex 2 ∧ st = ((A51H2 t1 t2 t3 (.own ro uo 0 ts.length) (.own ro uo 0 ts.length) (.i ts.length) (.i ts.length)).set 40 (.b false), ⟨[b0, b1], rs', nx'⟩) ∧ CI ts ro uo rs0 rs' cs' ts.length := by
  refine loop_list (f := acode (run1 code ext n) n A51L2) (k := 2) (M := A51M2) ts (fun i (x : List Ob × List (List AV)) nx => (A51H2 t1 t2 t3 (.own ro uo 0 ts.length) (.own ro uo 0 ts.length) (.i ts.length) (.i i), ⟨[b0, b1], x.1, nx⟩)) (fun i x => CI ts ro uo rs0 x.1 x.2 i) (fun i _ _ e st => ∃ nx' rs' cs', e = .ex 2 ∧ st = ((A51H2 t1 t2 t3 (.own ro uo 0 ts.length) (.own ro uo 0 ts.length) (.i ts.length) (.i ts.length)).set 40 (.b false), ⟨[b0, b1], rs', nx'⟩) ∧ CI ts ro uo rs0 rs' cs' ts.length) ?_ ?_ m i (rs, cs) nx hi hm hC
  · intro x nx hC
    have hb : acode (run1 code ext n) n A51L2 (A51H2 t1 t2 t3 (.own ro uo 0 ts.length) (.own ro uo 0 ts.length) (.i ts.length) (.i ts.length), ⟨[b0, b1], x.1, nx⟩) = acode (run1 code ext n) n A51L2 (A51H2 t1 t2 t3 (.own ro uo 0 ts.length) (.own ro uo 0 ts.length) (.i ts.length) (.i ts.length), ⟨[b0, b1], x.1, nx⟩) := rfl
    conv at hb => rhs; simp [acode, runOps, step1, aop, wantedA, ev, put, opened, binV, binInt, binStr, app_v, Pr.run, Pr.map, Pr.bind, Pr.mapP, loadA, storeA, cellsVal, Pr.ofOption, cells, fillA, splice, nz, dr, cln, flat, one, bnd, slA, items, appA, Hp.get, Hp.app, Hp.set, eqAll, eq1, lookA, resA, rvA, fin, AV.i, AV.b, AV.s, beq_int, bne_int, emp_is, emp_iff, runD, step2, clash, apartFP, Pr.log, A51L2]
    exact ⟨_, _, by simp, hb, _, x.1, x.2, rfl, by simp; rfl, hC⟩
  · intro i hi t x nx hg hC
    obtain ⟨rs, cs⟩ := x
    simp only at hC ⊢
    have hw := wrap_nat i (by omega)
    have hmem : t ∈ ts := by rw [← hg]; exact List.getElem_mem _
    obtain ⟨hw1, hw2⟩ := hv t hmem
    have htj : ts[i]? = some t := by rw [List.getElem?_eq_getElem hi, hg]
    obtain ⟨hrl, hr'⟩ := List.getElem?_eq_some_iff.1 hC.row
    obtain ⟨hcl, hc'⟩ := List.getElem?_eq_some_iff.1 (hC.todo i t (Nat.le_refl _) htj)
    have hlen := hC.len
    have hle : ts.length ≤ cs.length := by omega
    simp only [Tr.e] at hc'
    obtain ⟨n, rfl⟩ : ∃ m, n = m + 1 := ⟨n - 1, by omega⟩
    obtain ⟨v, tl, nx', h2, h3⟩ := cloneE_ro 3 40 [.v (.int .i64 0), .v (.int .i64 0), .nils] 93 (t.writes.map Wr.e) (one_wr t.writes) ⟨by simp; unfold roomMax; omega, by simp; unfold roomMax; omega⟩ rs (nx + 1 + 6 + 4)
    rw [← c93r n] at h2
    simp only [List.length_map] at h2 h3
    have next : ∀ (a : AV), WA (rs ++ tl) ro a t.writes → (∀ r u k, a = .own r u 0 k → rs.length ≤ r) → CI ts ro uo rs0 ((rs ++ tl).set ro (.row uo 3 (cs.set i [.i t.id, .i t.sees, a]))) (cs.set i [.i t.id, .i t.sees, a]) (i + 1) := fun a ha hd => by
      refine ⟨by rw [List.getElem?_set_self (by simp; omega)], by rw [List.length_set]; exact hlen, fun j t' hj ht' => ?_, fun j t' hj ht' => ?_, fun k hk => ?_, fun j1 j2 r u1 k1 u2 k2 x1 y1 x2 y2 h12 h2i e1 e2 => ?_⟩
      · rw [List.getElem?_set_ne (by omega)]; exact hC.todo j t' (by omega) ht'
      · by_cases hji : j = i
        · subst hji
          rw [htj] at ht'; cases ht'
          exact ⟨a, by rw [List.getElem?_set_self hcl], ha.set⟩
        · obtain ⟨a', h4, h5⟩ := hC.done j t' (by omega) ht'
          exact ⟨a', by rw [List.getElem?_set_ne (fun e => hji e.symm)]; exact h4, h5.grow.set⟩
      · rw [List.getElem?_set_ne (by omega), List.getElem?_append_left (by omega)]; exact hC.keep k hk
      · rw [List.getElem?_set_ne (by omega)] at e1
        by_cases hji : j2 = i
        · rw [hji, List.getElem?_set_self hcl] at e2
          simp only [Option.some.injEq, List.cons.injEq, and_true] at e2
          have hr := hd _ _ _ e2.2.2
          have hj1 : j1 < ts.length := by omega
          obtain ⟨a', h4, h5⟩ := hC.done j1 ts[j1] (by omega) (List.getElem?_eq_getElem hj1)
          rw [e1] at h4
          simp only [Option.some.injEq, List.cons.injEq, and_true] at h4
          obtain ⟨_, _, rfl⟩ := h4
          rcases h5 with ⟨h5, _⟩ | ⟨r', u', _, h6, _, h7⟩
          · cases h5
          · cases h6
            have := (List.getElem?_eq_some_iff.1 h7).1
            omega
        · rw [List.getElem?_set_ne (fun e => hji e.symm)] at e2
          exact hC.dis j1 j2 r u1 k1 u2 k2 x1 y1 x2 y2 h12 (by omega) e1 e2
    have hrl2 : ro < (rs ++ tl).length := by simp; omega
    have hr2 : (rs ++ tl)[ro] = .row uo 3 cs := by rw [List.getElem_append_left hrl]; exact hr'
    rcases h3 with ⟨h3, rfl, rfl⟩ | ⟨h0, u, rfl, rfl⟩
    · rw [List.map_eq_nil_iff] at h3
      have hN := next .nils (.inl ⟨rfl, h3⟩) (fun r u k e => by cases e)
      rw [h3] at h2
      simp only [List.map_nil, List.append_nil] at h2 hN
      have hk := iter_zero51 n t1 t2 t3 (.own ro uo 0 ts.length) (.i i) (.own ro uo 0 ts.length) (.i ts.length) (.i i) b0 b1 (.box (nx + 1 + 3) t.e) rs (nx' + 3)
      obtain ⟨nx2, hk⟩ := hk
      simp only [Tr.e, h3, List.map_nil] at hk
      have hb : acode (run1 code ext (n + 1)) (n + 1) A51L2 (A51H2 t1 t2 t3 (.own ro uo 0 ts.length) (.own ro uo 0 ts.length) (.i ts.length) (.i i), ⟨[b0, b1], rs, nx⟩) = acode (run1 code ext (n + 1)) (n + 1) A51L2 (A51H2 t1 t2 t3 (.own ro uo 0 ts.length) (.own ro uo 0 ts.length) (.i ts.length) (.i i), ⟨[b0, b1], rs, nx⟩) := rfl
      conv at hb => rhs; simp [acode, runOps, step1, aop, wantedA, ev, put, opened, binV, binInt, binStr, app_v, Pr.run, Pr.map, Pr.bind, Pr.mapP, loadA, storeA, cellsVal, Pr.ofOption, cells, fillA, splice, nz, dr, cln, flat, one, bnd, slA, items, appA, Hp.get, Hp.app, Hp.set, eqAll, eq1, lookA, resA, rvA, fin, AV.i, AV.b, AV.s, beq_int, bne_int, emp_is, emp_iff, runD, step2, clash, apartFP, Pr.log, A51L2, hi, hw, hr', hrl, hcl, hc', hle, h2, h3, A51M1_eq, hk]
      exact .inl ⟨_, (rs.set ro (.row uo 3 (cs.set i [.i t.id, .i t.sees, .nils])), cs.set i [.i t.id, .i t.sees, .nils]), _, hb, by simp [trunc, mask, A51M2]; rfl, hN, fun e st h => h⟩
    · have hN := next (.own rs.length u 0 t.writes.length) (.inr ⟨rs.length, u, by omega, rfl, h0, by simp⟩) (fun r u k e => by cases e; exact Nat.le_refl _)
      obtain ⟨e, st, k1, nx2, rfl, rfl⟩ := loop51b (n + 1) (by omega) t.writes hw2 (by omega) t1 t2 t3 (.own ro uo 0 ts.length) (.i i) (.own ro uo 0 ts.length) (.i ts.length) (.i i) b0 b1 (.box (nx + 1 + 3) t.e) rs.length u (rs ++ [.row u 3 (t.writes.map Wr.e)]) (by simp) (n + 1) 0 (nx' + 3) (Nat.zero_le _) (by omega)
      simp only [Tr.e, Int.natCast_zero] at k1
      have hr3 : (rs ++ [Ob.row u 3 (t.writes.map Wr.e)])[ro]? = some (Ob.row uo 3 cs) := by rw [List.getElem?_append_left hrl]; exact hC.row
      have hb : acode (run1 code ext (n + 1)) (n + 1) A51L2 (A51H2 t1 t2 t3 (.own ro uo 0 ts.length) (.own ro uo 0 ts.length) (.i ts.length) (.i i), ⟨[b0, b1], rs, nx⟩) = acode (run1 code ext (n + 1)) (n + 1) A51L2 (A51H2 t1 t2 t3 (.own ro uo 0 ts.length) (.own ro uo 0 ts.length) (.i ts.length) (.i i), ⟨[b0, b1], rs, nx⟩) := rfl
      conv at hb => rhs; simp [acode, runOps, step1, aop, wantedA, ev, put, opened, binV, binInt, binStr, app_v, Pr.run, Pr.map, Pr.bind, Pr.mapP, loadA, storeA, cellsVal, Pr.ofOption, cells, fillA, splice, nz, dr, cln, flat, one, bnd, slA, items, appA, Hp.get, Hp.app, Hp.set, eqAll, eq1, lookA, resA, rvA, fin, AV.i, AV.b, AV.s, beq_int, bne_int, emp_is, emp_iff, runD, step2, clash, apartFP, Pr.log, A51L2, hi, hw, hr', hrl, hcl, hc', hle, h2, A51M1_eq, k1, hr3]
      exact .inl ⟨_, ((rs ++ [Ob.row u 3 (t.writes.map Wr.e)]).set ro (.row uo 3 (cs.set i [.i t.id, .i t.sees, .own rs.length u 0 t.writes.length])), cs.set i [.i t.id, .i t.sees, .own rs.length u 0 t.writes.length]), _, hb, by simp [trunc, mask, A51M2, List.set_append, hrl]; rfl, hN, fun e st h => h⟩

theorem opn_start (ts : List Tr) (ro uo : Nat) (rs : List Ob) (hr : rs[ro]? = some (.row uo 3 (ts.map Tr.e))) : CI ts ro uo rs rs (ts.map Tr.e) 0 where
  row := hr
  len := by simp
  todo := fun j t _ ht => by rw [List.getElem?_map, ht]; rfl
  done := fun j t hj => by omega
  keep := fun k hk => rfl
  dis := fun _ j2 _ _ _ _ _ _ _ _ _ _ h => by omega

theorem iter_zero51a (n : Nat) (t1 t2 : AV) (b0 b1 : Ob) (rs : List Ob) (nx : Nat) : iter (acode (run1 code ext (n + 1)) (n + 1) A51L0) 2 A51M0 (n + 1) (A51H0 t1 t2 .nils .nils (.i 0) (.i 0), ⟨[b0, b1], rs, nx⟩) = some (.ex 0, ((A51H0 t1 t2 .nils .nils (.i 0) (.i 0)).set 22 (.b false), ⟨[b0, b1], rs, nx + 1⟩)) := by
  have hb : acode (run1 code ext (n + 1)) (n + 1) A51L0 (A51H0 t1 t2 .nils .nils (.i 0) (.i 0), ⟨[b0, b1], rs, nx⟩) = acode (run1 code ext (n + 1)) (n + 1) A51L0 (A51H0 t1 t2 .nils .nils (.i 0) (.i 0), ⟨[b0, b1], rs, nx⟩) := rfl
  conv at hb => rhs; simp [acode, runOps, step1, aop, wantedA, ev, put, opened, binV, binInt, binStr, app_v, Pr.run, Pr.map, Pr.bind, Pr.mapP, loadA, storeA, cellsVal, Pr.ofOption, cells, fillA, splice, nz, dr, cln, flat, one, bnd, slA, items, appA, Hp.get, Hp.app, Hp.set, eqAll, eq1, lookA, resA, rvA, fin, AV.i, AV.b, AV.s, beq_int, bne_int, emp_is, emp_iff, runD, step2, clash, apartFP, Pr.log, A51L0]
  unfold iter
  rw [hb]
  simp

theorem iter_zero51c (n : Nat) (t1 t2 t3 : AV) (b0 b1 : Ob) (rs : List Ob) (nx : Nat) : iter (acode (run1 code ext (n + 1)) (n + 1) A51L2) 2 A51M2 (n + 1) (A51H2 t1 t2 t3 .nils .nils (.i 0) (.i 0), ⟨[b0, b1], rs, nx⟩) = some (.ex 2, ((A51H2 t1 t2 t3 .nils .nils (.i 0) (.i 0)).set 40 (.b false), ⟨[b0, b1], rs, nx + 1⟩)) := by
  have hb : acode (run1 code ext (n + 1)) (n + 1) A51L2 (A51H2 t1 t2 t3 .nils .nils (.i 0) (.i 0), ⟨[b0, b1], rs, nx⟩) = acode (run1 code ext (n + 1)) (n + 1) A51L2 (A51H2 t1 t2 t3 .nils .nils (.i 0) (.i 0), ⟨[b0, b1], rs, nx⟩) := rfl
  conv at hb => rhs; simp [acode, runOps, step1, aop, wantedA, ev, put, opened, binV, binInt, binStr, app_v, Pr.run, Pr.map, Pr.bind, Pr.mapP, loadA, storeA, cellsVal, Pr.ofOption, cells, fillA, splice, nz, dr, cln, flat, one, bnd, slA, items, appA, Hp.get, Hp.app, Hp.set, eqAll, eq1, lookA, resA, rvA, fin, AV.i, AV.b, AV.s, beq_int, bne_int, emp_is, emp_iff, runD, step2, clash, apartFP, Pr.log, A51L2]
  unfold iter
  rw [hb]
  simp
end Go.Pv

namespace Go.Pv
open Go
set_option maxRecDepth 100000
set_option maxHeartbeats 8000000

/-- What every store that is right is. -/
structure Rt (s : Sto) : Prop where
  bd : Bd s
  c : 0 < s.cols.length ∧ s.cols.length ≤ 20
  v : s.vers.length ≤ 3000
  vv : ∀ v ∈ s.vers, v.vals.length ≤ 20
  tw : ∀ t ∈ s.opn, t.writes.length ≤ 200 ∧ ∀ w ∈ t.writes, w.vals.length ≤ 20

/-- A store of its own, in the heap. -/
def Own51 (s : Sto) (v : AV) (rs : List Ob) : Prop := ∃ uC vV oV, v = .agg [.own 0 uC 0 s.cols.length, vV, .i s.last, .i s.nextRow, .i s.nextTrans, .i s.swept, oV] ∧ rs[0]? = some (.row uC 2 (s.cols.map Col.e)) ∧
    ((vV = .nils ∧ s.vers = []) ∨ ∃ uV, vV = .own 1 uV 0 s.vers.length ∧ 0 < s.vers.length ∧ rs[1]? = some (.row uV 4 (s.vers.map Ver.e))) ∧
    ((oV = .nils ∧ s.opn = []) ∨ ∃ ro uo cs, oV = .own ro uo 0 s.opn.length ∧ 0 < s.opn.length ∧ 0 < ro ∧ (0 < s.vers.length → ro ≠ 1) ∧ CI s.opn ro uo rs rs cs s.opn.length)

theorem e51 (s : Sto) (hs : Rt s) : Own code ext 3 51 [.agg s.e] [] fun v rs => Own51 s v rs := by
  refine Own.mk code ext c51 fun n hn nx => ?_
  obtain ⟨n, rfl⟩ : ∃ m, n = m + 1 := ⟨n - 1, by omega⟩
  have hc := hs.c
  have hv := hs.v
  have ho := hs.bd.o
  obtain ⟨v1, tl1, nx1, h1, h1'⟩ := cloneE_ro 2 24 [.v (.string ⟨#[]⟩), .v (.int .i64 0)] 42 (s.cols.map Col.e) (one_col s.cols) ⟨by simp; unfold roomMax; omega, by simp; unfold roomMax; omega⟩ [] (nx + 2 + 5)
  rw [← c42r n] at h1
  rcases h1' with ⟨h1', _⟩ | ⟨_, uC, rfl, rfl⟩
  · rw [List.map_eq_nil_iff] at h1'; rw [h1'] at hc; simp at hc
  simp only [List.length_map, List.length_nil, List.nil_append] at h1
  obtain ⟨v2, tl2, nx2, h2, h2'⟩ := cloneE_ro 4 48 [.v (.int .i64 0), .v (.int .i64 0), .v (.int .i64 0), .nils] 91 (s.vers.map Ver.e) (one_ver s.vers) ⟨by simp; unfold roomMax; omega, by simp; unfold roomMax; omega⟩ [.row uC 2 (s.cols.map Col.e)] (nx1 + 4)
  rw [← c91r n] at h2
  simp only [List.length_map, List.length_singleton] at h2 h2'
  rcases h2' with ⟨hvn, rfl, rfl⟩ | ⟨hv0, uV, rfl, rfl⟩
  · rw [List.map_eq_nil_iff] at hvn
    rw [hvn] at h2
    simp only [List.map_nil, List.append_nil] at h2
    have k0 := iter_zero51a n (.ptr 0 nx 0) (.ptr 1 (nx + 1) 0) (.box nx [.own 0 uC 0 s.cols.length, .ro [], .i s.last, .i s.nextRow, .i s.nextTrans, .i s.swept, .ro (s.opn.map Tr.e)]) (.box (nx + 1) [.nils, .nils, .i 0, .i 0, .i 0, .i 0, .nils]) [.row uC 2 (s.cols.map Col.e)] (nx2 + 3)
    obtain ⟨nx3, hnx3⟩ : ∃ k, nx2 + 3 + 1 = k := ⟨_, rfl⟩
    rw [hnx3] at k0
    obtain ⟨v3, tl3, nx4, h3, h3'⟩ := cloneE_ro 3 40 [.v (.int .i64 0), .v (.int .i64 0), .nils] 92 (s.opn.map Tr.e) (one_tr s.opn) ⟨by simp; unfold roomMax; omega, by simp; unfold roomMax; omega⟩ [.row uC 2 (s.cols.map Col.e)] (nx3 + 4)
    rw [← c92r n] at h3
    simp only [List.length_map, List.length_cons, List.length_nil, List.cons_append, List.nil_append] at h3 h3'
    rcases h3' with ⟨hon, rfl, rfl⟩ | ⟨ho0, uo, rfl, rfl⟩
    · rw [List.map_eq_nil_iff] at hon
      rw [hon] at h3 k0
      simp only [List.map_nil, List.append_nil] at h3 k0
      have k1 := iter_zero51c n (.ptr 0 nx 0) (.ptr 1 (nx + 1) 0) .nils (.box nx [.own 0 uC 0 s.cols.length, .ro [], .i s.last, .i s.nextRow, .i s.nextTrans, .i s.swept, .ro []]) (.box (nx + 1) [.nils, .nils, .i 0, .i 0, .i 0, .i 0, .nils]) [.row uC 2 (s.cols.map Col.e)] (nx4 + 3)
      have hb : acode (run1 code ext (n + 1)) (n + 1) A51.code ([.agg s.e] ++ List.replicate (A51.nt - [AV.agg s.e].length) .top, ⟨[], [], nx⟩) = acode (run1 code ext (n + 1)) (n + 1) A51.code ([.agg s.e] ++ List.replicate (A51.nt - [AV.agg s.e].length) .top, ⟨[], [], nx⟩) := rfl
      conv at hb => rhs; simp [acode, runOps, step1, aop, wantedA, ev, put, opened, binV, binInt, binStr, app_v, Pr.run, Pr.map, Pr.bind, Pr.mapP, loadA, storeA, cellsVal, Pr.ofOption, cells, fillA, splice, nz, dr, cln, flat, one, bnd, slA, items, appA, Hp.get, Hp.app, Hp.set, eqAll, eq1, lookA, resA, rvA, fin, AV.i, AV.b, AV.s, beq_int, bne_int, emp_is, emp_iff, runD, step2, clash, apartFP, Pr.log, A51, Sto.e, h1, h2, h3, A51M0_eq, A51M2_eq, k0, k1, hon, hvn]
      exact ⟨_, _, _, _, hb, .inr rfl, by simp [A51, resA, rvA, loadA, Pr.run, Hp.get, cellsVal, Pr.ofOption], uC, _, _, rfl, rfl, .inl ⟨rfl, hvn⟩, .inl ⟨rfl, hon⟩⟩
    · obtain ⟨e1, st1, k1, nx5, rs', cs', rfl, rfl, hC⟩ := loop51c (n + 1) (by omega) s.opn (fun t hm => ⟨(hs.tw t hm).1, fun w hw => by have := (hs.tw t hm).2 w hw; omega⟩) (by omega) (.ptr 0 nx 0) (.ptr 1 (nx + 1) 0) .nils (.box nx [.own 0 uC 0 s.cols.length, .ro [], .i s.last, .i s.nextRow, .i s.nextTrans, .i s.swept, .ro (s.opn.map Tr.e)]) (.box (nx + 1) [.nils, .nils, .i 0, .i 0, .i 0, .i 0, .nils]) 1 uo ([.row uC 2 (s.cols.map Col.e)] ++ [.row uo 3 (s.opn.map Tr.e)]) ([.row uC 2 (s.cols.map Col.e)] ++ [.row uo 3 (s.opn.map Tr.e)]) (s.opn.map Tr.e) (n + 1) 0 (nx4 + 3) (opn_start _ _ _ _ rfl) (Nat.zero_le _) (by omega)
      simp only [Int.natCast_zero, List.cons_append, List.nil_append] at k1
      have hk := hC.keep
      have hb : acode (run1 code ext (n + 1)) (n + 1) A51.code ([.agg s.e] ++ List.replicate (A51.nt - [AV.agg s.e].length) .top, ⟨[], [], nx⟩) = acode (run1 code ext (n + 1)) (n + 1) A51.code ([.agg s.e] ++ List.replicate (A51.nt - [AV.agg s.e].length) .top, ⟨[], [], nx⟩) := rfl
      conv at hb => rhs; simp [acode, runOps, step1, aop, wantedA, ev, put, opened, binV, binInt, binStr, app_v, Pr.run, Pr.map, Pr.bind, Pr.mapP, loadA, storeA, cellsVal, Pr.ofOption, cells, fillA, splice, nz, dr, cln, flat, one, bnd, slA, items, appA, Hp.get, Hp.app, Hp.set, eqAll, eq1, lookA, resA, rvA, fin, AV.i, AV.b, AV.s, beq_int, bne_int, emp_is, emp_iff, runD, step2, clash, apartFP, Pr.log, A51, Sto.e, h1, h2, h3, A51M0_eq, A51M2_eq, k0, k1, hvn]
      exact ⟨_, _, _, _, hb, .inr rfl, by simp [A51, resA, rvA, loadA, Pr.run, Hp.get, cellsVal, Pr.ofOption], uC, _, _, rfl, (hk 0 (by omega)).trans rfl, .inl ⟨rfl, hvn⟩, .inr ⟨_, uo, cs', rfl, by omega, by omega, fun h => by rw [hvn] at h; simp at h, ⟨hC.row, hC.len, hC.todo, hC.done, fun _ _ => rfl, hC.dis⟩⟩⟩
  · obtain ⟨e0, st0, k0, nx3, rfl, rfl⟩ := loop51a (n + 1) (by omega) s.vers (fun v hm => by have := hs.vv v hm; omega) (by omega) (.ptr 0 nx 0) (.ptr 1 (nx + 1) 0) (.box nx [.own 0 uC 0 s.cols.length, .ro (s.vers.map Ver.e), .i s.last, .i s.nextRow, .i s.nextTrans, .i s.swept, .ro (s.opn.map Tr.e)]) (.box (nx + 1) [.nils, .nils, .i 0, .i 0, .i 0, .i 0, .nils]) 1 uV [.row uC 2 (s.cols.map Col.e), .row uV 4 (s.vers.map Ver.e)] rfl (n + 1) 0 (nx2 + 3) (Nat.zero_le _) (by omega)
    simp only [Int.natCast_zero] at k0
    simp only [List.cons_append, List.nil_append] at h2
    obtain ⟨v3, tl3, nx4, h3, h3'⟩ := cloneE_ro 3 40 [.v (.int .i64 0), .v (.int .i64 0), .nils] 92 (s.opn.map Tr.e) (one_tr s.opn) ⟨by simp; unfold roomMax; omega, by simp; unfold roomMax; omega⟩ [.row uC 2 (s.cols.map Col.e), .row uV 4 (s.vers.map Ver.e)] (nx3 + 4)
    rw [← c92r n] at h3
    simp only [List.length_map, List.length_cons, List.length_nil, List.cons_append, List.nil_append] at h3 h3'
    rcases h3' with ⟨hon, rfl, rfl⟩ | ⟨ho0, uo, rfl, rfl⟩
    · rw [List.map_eq_nil_iff] at hon
      rw [hon] at h3 k0
      simp only [List.map_nil, List.append_nil] at h3 k0
      have k1 := iter_zero51c n (.ptr 0 nx 0) (.ptr 1 (nx + 1) 0) (.own 1 uV 0 s.vers.length) (.box nx [.own 0 uC 0 s.cols.length, .ro (s.vers.map Ver.e), .i s.last, .i s.nextRow, .i s.nextTrans, .i s.swept, .ro []]) (.box (nx + 1) [.nils, .nils, .i 0, .i 0, .i 0, .i 0, .nils]) [.row uC 2 (s.cols.map Col.e), .row uV 4 (s.vers.map Ver.e)] (nx4 + 3)
      have hb : acode (run1 code ext (n + 1)) (n + 1) A51.code ([.agg s.e] ++ List.replicate (A51.nt - [AV.agg s.e].length) .top, ⟨[], [], nx⟩) = acode (run1 code ext (n + 1)) (n + 1) A51.code ([.agg s.e] ++ List.replicate (A51.nt - [AV.agg s.e].length) .top, ⟨[], [], nx⟩) := rfl
      conv at hb => rhs; simp [acode, runOps, step1, aop, wantedA, ev, put, opened, binV, binInt, binStr, app_v, Pr.run, Pr.map, Pr.bind, Pr.mapP, loadA, storeA, cellsVal, Pr.ofOption, cells, fillA, splice, nz, dr, cln, flat, one, bnd, slA, items, appA, Hp.get, Hp.app, Hp.set, eqAll, eq1, lookA, resA, rvA, fin, AV.i, AV.b, AV.s, beq_int, bne_int, emp_is, emp_iff, runD, step2, clash, apartFP, Pr.log, A51, Sto.e, h1, h2, h3, A51M0_eq, A51M2_eq, k0, k1, hon]
      exact ⟨_, _, _, _, hb, .inr rfl, by simp [A51, resA, rvA, loadA, Pr.run, Hp.get, cellsVal, Pr.ofOption], uC, _, _, rfl, rfl, .inr ⟨uV, rfl, hv0, rfl⟩, .inl ⟨rfl, hon⟩⟩
    · obtain ⟨e1, st1, k1, nx5, rs', cs', rfl, rfl, hC⟩ := loop51c (n + 1) (by omega) s.opn (fun t hm => ⟨(hs.tw t hm).1, fun w hw => by have := (hs.tw t hm).2 w hw; omega⟩) (by omega) (.ptr 0 nx 0) (.ptr 1 (nx + 1) 0) (.own 1 uV 0 s.vers.length) (.box nx [.own 0 uC 0 s.cols.length, .ro (s.vers.map Ver.e), .i s.last, .i s.nextRow, .i s.nextTrans, .i s.swept, .ro (s.opn.map Tr.e)]) (.box (nx + 1) [.nils, .nils, .i 0, .i 0, .i 0, .i 0, .nils]) 2 uo ([.row uC 2 (s.cols.map Col.e), .row uV 4 (s.vers.map Ver.e)] ++ [.row uo 3 (s.opn.map Tr.e)]) ([.row uC 2 (s.cols.map Col.e), .row uV 4 (s.vers.map Ver.e)] ++ [.row uo 3 (s.opn.map Tr.e)]) (s.opn.map Tr.e) (n + 1) 0 (nx4 + 3) (opn_start _ _ _ _ rfl) (Nat.zero_le _) (by omega)
      simp only [Int.natCast_zero, List.cons_append, List.nil_append] at k1
      have hk := hC.keep
      have hb : acode (run1 code ext (n + 1)) (n + 1) A51.code ([.agg s.e] ++ List.replicate (A51.nt - [AV.agg s.e].length) .top, ⟨[], [], nx⟩) = acode (run1 code ext (n + 1)) (n + 1) A51.code ([.agg s.e] ++ List.replicate (A51.nt - [AV.agg s.e].length) .top, ⟨[], [], nx⟩) := rfl
      conv at hb => rhs; simp [acode, runOps, step1, aop, wantedA, ev, put, opened, binV, binInt, binStr, app_v, Pr.run, Pr.map, Pr.bind, Pr.mapP, loadA, storeA, cellsVal, Pr.ofOption, cells, fillA, splice, nz, dr, cln, flat, one, bnd, slA, items, appA, Hp.get, Hp.app, Hp.set, eqAll, eq1, lookA, resA, rvA, fin, AV.i, AV.b, AV.s, beq_int, bne_int, emp_is, emp_iff, runD, step2, clash, apartFP, Pr.log, A51, Sto.e, h1, h2, h3, A51M0_eq, A51M2_eq, k0, k1]
      exact ⟨_, _, _, _, hb, .inr rfl, by simp [A51, resA, rvA, loadA, Pr.run, Hp.get, cellsVal, Pr.ofOption], uC, _, _, rfl, (hk 0 (by omega)).trans rfl, .inr ⟨uV, rfl, hv0, (hk 1 (by omega)).trans rfl⟩, .inr ⟨_, uo, cs', rfl, by omega, by omega, fun _ => by omega, ⟨hC.row, hC.len, hC.todo, hC.done, fun _ _ => rfl, hC.dis⟩⟩⟩
end Go.Pv
