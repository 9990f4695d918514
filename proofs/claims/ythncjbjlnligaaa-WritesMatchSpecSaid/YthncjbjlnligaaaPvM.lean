/-
  What functions come to: writes. Conditions: none.
-/
import Derived.Test.YthncjbjlnligaaaPvL
set_option linter.unusedVariables false
set_option linter.unusedSimpArgs false
namespace Go.Pv
open Go
set_option maxRecDepth 100000
set_option maxHeartbeats 8000000

theorem afterS_eq (l : List Sn) (w : Wr) : afterS l w = aftL w l ++ if w.kind = 1 then [w.sn] else [] := rfl

theorem e90 (l : List Sn) (w : Wr) (hs : l.length < 2 ^ 30) : Is code ext 1 90 [roS l, .agg w.e] (roS (afterS l w)) := by
  refine Is.step code ext c90 fun n hn => ?_
  obtain ⟨e, st, q2, q3⟩ := loop90 (run1 code ext n) n l w hs n 0 4 0 [] (Nat.le_refl _) (Nat.zero_le _) (by omega)
  simp only [List.drop_zero, List.nil_append] at q3
  simp only [Int.natCast_zero, Wr.e, eVals, List.length_nil, List.map_nil, aV, aR, if_pos] at q2
  obtain ⟨F, rs⟩ := st
  obtain ⟨bs, rs, nx⟩ := rs
  obtain ⟨⟨rfl, hl, u, h1, h2⟩, h3, bs', h4⟩ := q3
  simp only [List.nil_append] at h1 h2 h3 h4 hl
  subst h2
  subst h4
  obtain ⟨_, h1⟩ := List.getElem?_eq_some_iff.1 h1
  obtain ⟨_, h3⟩ := List.getElem?_eq_some_iff.1 h3
  have hlen := aftL_len w l
  obtain ⟨hr1, hr2, _⟩ := room32 (k := (aftL w l).length) (by omega)
  have hr3 : 1 ≤ roomMax := by unfold roomMax; omega
  have hr4 : 32 ≤ roomMax := by unfold roomMax; omega
  have htk := take_all Sn.e (aftL w l)
  have hno : ¬ ((aftL w l).length + 1 ≤ (aftL w l).length) := by omega
  rw [afterS_eq]
  by_cases k : w.kind = 1
  · have kx : (w.kind = 1) = True := eq_true k
    rw [if_pos k]
    rcases Nat.eq_zero_or_pos (aftL w l).length with h0 | h0
    · have he := List.length_eq_zero_iff.1 h0
      rw [he] at h1 q2 ⊢
      simp only [List.map_nil, List.length_nil, aV, aR, if_pos] at h1 q2
      simp [A90, acode, runOps, step1, aop, wantedA, ev, put, opened, binV, binInt, binStr, app_v, Pr.run, Pr.map, Pr.bind, Pr.mapP, loadA, storeA, cellsVal, Pr.ofOption, cells, fillA, splice, nz, dr, cln, flat, one, bnd, slA, items, appA, Hp.get, Hp.app, Hp.set, eqAll, eq1, lookA, resA, rvA, fin, AV.i, AV.b, AV.s, beq_int, bne_int, emp_is, emp_iff, runD, step2, clash, apartFP, Pr.log, Wr.e, eVals, A90M0_eq, q2, h1, h3, hl, kx, hr3, hr4, aR, List.getElem?_set, List.getElem_set, Wr.sn, Sn.e]
    · rw [aV_pos h0] at h1
      rw [aR_pos (by simpa using h0)] at q2
      simp [A90, acode, runOps, step1, aop, wantedA, ev, put, opened, binV, binInt, binStr, app_v, Pr.run, Pr.map, Pr.bind, Pr.mapP, loadA, storeA, cellsVal, Pr.ofOption, cells, fillA, splice, nz, dr, cln, flat, one, bnd, slA, items, appA, Hp.get, Hp.app, Hp.set, eqAll, eq1, lookA, resA, rvA, fin, AV.i, AV.b, AV.s, beq_int, bne_int, emp_is, emp_iff, runD, step2, clash, apartFP, Pr.log, Wr.e, eVals, A90M0_eq, q2, h1, h3, hl, kx, hr1, hr2, htk, hno, List.getElem?_set, List.getElem_set]
      rw [show (List.map Sn.e (aftL w l) ++ [[AV.v (.int .i64 w.row), .ro (List.map Val.e w.vals)]]) = (aftL w l ++ [w.sn]).map Sn.e by simp [Wr.sn, Sn.e, eVals], show (aftL w l).length + 1 = (aftL w l ++ [w.sn]).length by simp, take_all, mapP_plain plain_sn 4]
      rfl
  · rw [if_neg k, List.append_nil]
    simp [A90, acode, runOps, step1, aop, wantedA, ev, put, opened, binV, binInt, binStr, app_v, Pr.run, Pr.map, Pr.bind, Pr.mapP, loadA, storeA, cellsVal, Pr.ofOption, cells, fillA, splice, nz, dr, cln, flat, one, bnd, slA, items, appA, Hp.get, Hp.app, Hp.set, eqAll, eq1, lookA, resA, rvA, fin, AV.i, AV.b, AV.s, beq_int, bne_int, emp_is, emp_iff, runD, step2, clash, apartFP, Pr.log, Wr.e, eVals, A90M0_eq, q2, h1, h3, hl, k, List.getElem?_set, List.getElem_set]
    refine dr_aV plain_sn 4 0 u 2 (aftL w l) _ fun h0 => ?_
    simp [Hp.get, aR_pos, h0]

theorem set_last {α : Type} (l : List α) (x y : α) : (l ++ [x]).set l.length y = l ++ [y] := by
  rw [List.set_append_right _ _ (Nat.le_refl _)]; simp

theorem loop74 (n : Nat) (hn : 2 ^ 64 + 1 ≤ n) (s : Sto) (c : Int) (rs0 : List Ob) (u0 : Nat) (hs : s.vers.length < 2 ^ 30) (m i nx u : Nat) (a : List Sn) (ha : a.length ≤ i) (hi : i ≤ s.vers.length) (hm : s.vers.length - i < m) :
    ∃ e st, iter (acode (run1 code ext n) n A74L0) 1 A74M0 m (A74H0 (.i c) (aV rs0.length u a.length) (roV s.vers) (.i s.vers.length) (.i i), ⟨[.box u0 s.e], rs0 ++ aR u 2 (a.map Sn.e), nx⟩) = some (e, st) ∧ LB Sn.e 0 5 28 rs0.length 2 rs0 (a ++ baseS (s.vers.drop i) c) e st := by
  refine loop_list (f := acode (run1 code ext n) n A74L0) (k := 1) (M := A74M0) s.vers (fun i (x : List Sn × Nat) nx => (A74H0 (.i c) (aV rs0.length x.2 x.1.length) (roV s.vers) (.i s.vers.length) (.i i), ⟨[.box u0 s.e], rs0 ++ aR x.2 2 (x.1.map Sn.e), nx⟩)) (fun i x => x.1.length ≤ i) (fun i r x e st => LB Sn.e 0 5 28 rs0.length 2 rs0 (x.1 ++ baseS r c) e st) ?_ ?_ m i (a, u) nx hi hm ha
  · intro x nx _
    have hb : acode (run1 code ext n) n A74L0 (A74H0 (.i c) (aV rs0.length x.2 x.1.length) (roV s.vers) (.i s.vers.length) (.i s.vers.length), ⟨[.box u0 s.e], rs0 ++ aR x.2 2 (x.1.map Sn.e), nx⟩) = acode (run1 code ext n) n A74L0 (A74H0 (.i c) (aV rs0.length x.2 x.1.length) (roV s.vers) (.i s.vers.length) (.i s.vers.length), ⟨[.box u0 s.e], rs0 ++ aR x.2 2 (x.1.map Sn.e), nx⟩) := rfl
    conv at hb => rhs; simp [acode, runOps, step1, aop, wantedA, ev, put, opened, binV, binInt, binStr, app_v, Pr.run, Pr.map, Pr.bind, Pr.mapP, loadA, storeA, cellsVal, Pr.ofOption, cells, fillA, splice, nz, dr, cln, flat, one, bnd, slA, items, appA, Hp.get, Hp.app, Hp.set, eqAll, eq1, lookA, resA, rvA, fin, AV.i, AV.b, AV.s, beq_int, bne_int, emp_is, emp_iff, runD, step2, clash, apartFP, Pr.log, A74L0]
    exact ⟨_, _, by simp, hb, by simp [LB, baseS]; exact ⟨_, rfl, rfl⟩⟩
  · intro i hi v x nx hg hI
    obtain ⟨a, u⟩ := x
    simp only at hI ⊢
    have hw := wrap_nat i (by omega)
    obtain ⟨hr1, hr2, _⟩ := room32 (k := a.length) (by omega)
    have hr3 : 1 ≤ roomMax := by unfold roomMax; omega
    have hr4 : 32 ≤ roomMax := by unfold roomMax; omega
    have htk := take_all Sn.e a
    have hno : ¬ (a.length + 1 ≤ a.length) := by omega
    have h1 := e75 v c n (by omega)
    simp only [Ver.e, eVals] at h1
    simp only [baseS_step]
    rcases Nat.eq_zero_or_pos a.length with h0 | h0
    · obtain rfl := List.length_eq_zero_iff.1 h0
      cases q : atB v c with
      | true =>
        rw [q] at h1
        have hb : acode (run1 code ext n) n A74L0 (A74H0 (.i c) (aV rs0.length u 0) (roV s.vers) (.i s.vers.length) (.i i), ⟨[.box u0 s.e], rs0 ++ aR u 2 [], nx⟩) = acode (run1 code ext n) n A74L0 (A74H0 (.i c) (aV rs0.length u 0) (roV s.vers) (.i s.vers.length) (.i i), ⟨[.box u0 s.e], rs0 ++ aR u 2 [], nx⟩) := rfl
        conv at hb => rhs; simp [acode, runOps, step1, aop, wantedA, ev, put, opened, binV, binInt, binStr, app_v, Pr.run, Pr.map, Pr.bind, Pr.mapP, loadA, storeA, cellsVal, Pr.ofOption, cells, fillA, splice, nz, dr, cln, flat, one, bnd, slA, items, appA, Hp.get, Hp.app, Hp.set, eqAll, eq1, lookA, resA, rvA, fin, AV.i, AV.b, AV.s, beq_int, bne_int, emp_is, emp_iff, runD, step2, clash, apartFP, Pr.log, A74L0, Sto.e, Ver.e, eVals, hi, hg, hw, h1, aV, aR, hr3, hr4]
        exact .inl ⟨_, ([v.sn], _), _, hb, by simp [trunc, mask, A74M0, Sto.e, aV, aR, Ver.sn, Sn.e, eVals]; exact ⟨rfl, rfl⟩, by simp, fun e st h => h⟩
      | false =>
        rw [q] at h1
        have hb : acode (run1 code ext n) n A74L0 (A74H0 (.i c) (aV rs0.length u 0) (roV s.vers) (.i s.vers.length) (.i i), ⟨[.box u0 s.e], rs0 ++ aR u 2 [], nx⟩) = acode (run1 code ext n) n A74L0 (A74H0 (.i c) (aV rs0.length u 0) (roV s.vers) (.i s.vers.length) (.i i), ⟨[.box u0 s.e], rs0 ++ aR u 2 [], nx⟩) := rfl
        conv at hb => rhs; simp [acode, runOps, step1, aop, wantedA, ev, put, opened, binV, binInt, binStr, app_v, Pr.run, Pr.map, Pr.bind, Pr.mapP, loadA, storeA, cellsVal, Pr.ofOption, cells, fillA, splice, nz, dr, cln, flat, one, bnd, slA, items, appA, Hp.get, Hp.app, Hp.set, eqAll, eq1, lookA, resA, rvA, fin, AV.i, AV.b, AV.s, beq_int, bne_int, emp_is, emp_iff, runD, step2, clash, apartFP, Pr.log, A74L0, Sto.e, Ver.e, eVals, hi, hg, hw, h1, aV, aR]
        exact .inl ⟨_, ([], u), _, hb, by simp [trunc, mask, A74M0, Sto.e, aV, aR]; rfl, by simp, fun e st h => h⟩
    · have hV := aV_pos (r := rs0.length) (u := u) h0
      have hR : aR u 2 (a.map Sn.e) = [.row u 2 (a.map Sn.e)] := aR_pos (by simpa using h0)
      cases q : atB v c with
      | true =>
        rw [q] at h1
        have hb : acode (run1 code ext n) n A74L0 (A74H0 (.i c) (aV rs0.length u a.length) (roV s.vers) (.i s.vers.length) (.i i), ⟨[.box u0 s.e], rs0 ++ aR u 2 (a.map Sn.e), nx⟩) = acode (run1 code ext n) n A74L0 (A74H0 (.i c) (aV rs0.length u a.length) (roV s.vers) (.i s.vers.length) (.i i), ⟨[.box u0 s.e], rs0 ++ aR u 2 (a.map Sn.e), nx⟩) := rfl
        conv at hb => rhs; simp [acode, runOps, step1, aop, wantedA, ev, put, opened, binV, binInt, binStr, app_v, Pr.run, Pr.map, Pr.bind, Pr.mapP, loadA, storeA, cellsVal, Pr.ofOption, cells, fillA, splice, nz, dr, cln, flat, one, bnd, slA, items, appA, Hp.get, Hp.app, Hp.set, eqAll, eq1, lookA, resA, rvA, fin, AV.i, AV.b, AV.s, beq_int, bne_int, emp_is, emp_iff, runD, step2, clash, apartFP, Pr.log, A74L0, Sto.e, Ver.e, eVals, hi, hg, hw, h1, hV, hR, hr1, hr2, htk, hno, set_last]
        exact .inl ⟨_, (a ++ [v.sn], _), _, hb, by simp [trunc, mask, A74M0, Sto.e, aV, aR, Ver.sn, Sn.e, eVals]; exact ⟨rfl, rfl⟩, by simp; omega, fun e st h => by simpa using h⟩
      | false =>
        rw [q] at h1
        have hb : acode (run1 code ext n) n A74L0 (A74H0 (.i c) (aV rs0.length u a.length) (roV s.vers) (.i s.vers.length) (.i i), ⟨[.box u0 s.e], rs0 ++ aR u 2 (a.map Sn.e), nx⟩) = acode (run1 code ext n) n A74L0 (A74H0 (.i c) (aV rs0.length u a.length) (roV s.vers) (.i s.vers.length) (.i i), ⟨[.box u0 s.e], rs0 ++ aR u 2 (a.map Sn.e), nx⟩) := rfl
        conv at hb => rhs; simp [acode, runOps, step1, aop, wantedA, ev, put, opened, binV, binInt, binStr, app_v, Pr.run, Pr.map, Pr.bind, Pr.mapP, loadA, storeA, cellsVal, Pr.ofOption, cells, fillA, splice, nz, dr, cln, flat, one, bnd, slA, items, appA, Hp.get, Hp.app, Hp.set, eqAll, eq1, lookA, resA, rvA, fin, AV.i, AV.b, AV.s, beq_int, bne_int, emp_is, emp_iff, runD, step2, clash, apartFP, Pr.log, A74L0, Sto.e, Ver.e, eVals, hi, hg, hw, h1, hV, hR]
        exact .inl ⟨_, (a, u), _, hb, by simp [trunc, mask, A74M0, Sto.e, hV, hR]; rfl, by simp; omega, fun e st h => h⟩

/-- A slice of the call's own of plain elements: nil, or in the row r. -/
def Sl {α : Type} (enc : α → List AV) (sz : Nat) (rs : List Ob) (r : Nat) (v : AV) (l : List α) : Prop :=
  (v = .nils ∧ l = []) ∨ ∃ u xs, v = .own r u 0 l.length ∧ rs[r]? = some (.row u sz xs) ∧ xs.take l.length = l.map enc

theorem e74 (s : Sto) (c : Int) (rs0 : List Ob) (hs : s.vers.length < 2 ^ 30) : Own code ext 2 74 [.agg s.e, .i c] rs0 fun v rs => (∃ t, rs = rs0 ++ t ∧ (v = .nils → t = [])) ∧ Sl Sn.e 2 rs rs0.length v (baseS s.vers c) := by
  refine Own.mk code ext c74 fun n hn nx => ?_
  obtain ⟨e, st, q2, q3⟩ := loop74 n hn s c rs0 nx hs n 0 (nx + 2 + 1 + 4) 0 [] (Nat.le_refl _) (Nat.zero_le _) (by omega)
  simp only [List.drop_zero, List.nil_append] at q3
  simp only [Int.natCast_zero, Sto.e, roV, List.length_nil, List.map_nil, aV, aR, if_pos, List.append_nil] at q2
  obtain ⟨F, rs⟩ := st
  obtain ⟨bs, rs, nx'⟩ := rs
  obtain ⟨rfl, hl, u, h1, h2⟩ := q3
  simp only [List.nil_append] at h1 h2 hl
  subst h2
  obtain ⟨_, h1⟩ := List.getElem?_eq_some_iff.1 h1
  have hb : acode (run1 code ext n) n A74.code ([.agg s.e, .i c] ++ List.replicate (A74.nt - [AV.agg s.e, .i c].length) .top, ⟨[], rs0, nx⟩) = acode (run1 code ext n) n A74.code ([.agg s.e, .i c] ++ List.replicate (A74.nt - [AV.agg s.e, .i c].length) .top, ⟨[], rs0, nx⟩) := rfl
  conv at hb => rhs; simp [acode, runOps, step1, aop, wantedA, ev, put, opened, binV, binInt, binStr, app_v, Pr.run, Pr.map, Pr.bind, Pr.mapP, loadA, storeA, cellsVal, Pr.ofOption, cells, fillA, splice, nz, dr, cln, flat, one, bnd, slA, items, appA, Hp.get, Hp.app, Hp.set, eqAll, eq1, lookA, resA, rvA, fin, AV.i, AV.b, AV.s, beq_int, bne_int, emp_is, emp_iff, runD, step2, clash, apartFP, Pr.log, A74, Sto.e, A74M0_eq, q2, h1, hl]
  refine ⟨_, _, _, _, hb, .inr rfl, by simp [A74, resA, rvA, hl]; rfl, ⟨_, rfl, fun h => ?_⟩, ?_⟩
  · rcases Nat.eq_zero_or_pos (baseS s.vers c).length with h0 | h0
    · simp [aR, List.length_eq_zero_iff.1 h0]
    · rw [aV_pos h0] at h; cases h
  rcases Nat.eq_zero_or_pos (baseS s.vers c).length with h0 | h0
  · have he := List.length_eq_zero_iff.1 h0
    exact .inl ⟨by rw [he]; rfl, he⟩
  · refine .inr ⟨u, _, aV_pos h0, ?_, take_all _ _⟩
    simp [aR_pos, h0]
end Go.Pv

namespace Go.Pv
open Go
set_option maxRecDepth 100000
set_option maxHeartbeats 8000000

theorem e103 (l : List Sn) (j : Nat) (hj : j < l.length) (hl : l.length < 2 ^ 30) (r u : Nat) (xs : List (List AV)) (rs : List Ob) (hr : rs[r]? = some (.row u 2 xs)) (hx : xs.take l.length = l.map Sn.e) :
    Own code ext 1 103 [.own r u 0 l.length, .i j, .i ((j : Int) + 1)] rs fun v rs' => v = .own r u 0 (l.length - 1) ∧ ∃ xs', rs' = rs.set r (.row u 2 xs') ∧ xs'.take (l.length - 1) = (l.eraseIdx j).map Sn.e := by
  refine Own.mk code ext c103 fun n hn nx => ?_
  have hlen : l.length ≤ xs.length := by
    have := congrArg List.length hx
    rw [List.length_take, List.length_map] at this
    omega
  obtain ⟨hrl, hr'⟩ := List.getElem?_eq_some_iff.1 hr
  have hT : ((j : Int) + 1).toNat = j + 1 := by omega
  have hne : ¬ ((j : Int) = (j : Int) + 1) := by omega
  have h0 : (0 : Int) ≤ (j : Int) + 1 := by omega
  have g1 : j + 1 ≤ l.length := by omega
  have g2 : j ≤ l.length := by omega
  have g3 : j + 1 ≤ xs.length := by omega
  have g4 : j ≤ xs.length := by omega
  have g5 : j + (l.length - (j + 1)) = l.length - 1 := by omega
  have g6 : l.length - 1 ≤ xs.length := by omega
  have g7 : j + 1 + (l.length - (j + 1)) = l.length := by omega
  have g8 : min (l.length - (j + 1)) (xs.length - (j + 1)) = l.length - (j + 1) := by omega
  have g9 : l.length - 1 ≤ l.length := by omega
  have g10 : l.length - (l.length - 1) = 1 := by omega
  have g11 : l.length - 1 + 1 = l.length := by omega
  have hd : (xs.drop (j + 1)).take (l.length - (j + 1)) = (l.drop (j + 1)).map Sn.e := by
    rw [← List.drop_take, hx, List.map_drop]
  obtain ⟨d, hdd⟩ : ∃ d, l.drop (j + 1) = d := ⟨_, rfl⟩
  have hdl : d.length = l.length - (j + 1) := by rw [← hdd, List.length_drop]
  rw [hdd] at hd
  have g13 : l.length ≤ j + (l.length - (j + 1) + (xs.length - (l.length - 1))) := by omega
  have g12 : l.length ≤ xs.length + 1 := by omega
  have hb : acode (run1 code ext n) n A103.code ([.own r u 0 l.length, .i j, .i ((j : Int) + 1)] ++ List.replicate (A103.nt - [AV.own r u 0 l.length, .i j, .i ((j : Int) + 1)].length) .top, ⟨[], rs, nx⟩) = acode (run1 code ext n) n A103.code ([.own r u 0 l.length, .i j, .i ((j : Int) + 1)] ++ List.replicate (A103.nt - [AV.own r u 0 l.length, .i j, .i ((j : Int) + 1)].length) .top, ⟨[], rs, nx⟩) := rfl
  conv at hb => rhs; simp [acode, runOps, step1, aop, wantedA, ev, put, opened, binV, binInt, binStr, app_v, Pr.run, Pr.map, Pr.bind, Pr.mapP, loadA, storeA, cellsVal, Pr.ofOption, cells, fillA, splice, nz, dr, cln, flat, one, bnd, slA, items, appA, Hp.get, Hp.app, Hp.set, eqAll, eq1, lookA, resA, rvA, fin, AV.i, AV.b, AV.s, beq_int, bne_int, emp_is, emp_iff, runD, step2, clash, apartFP, Pr.log, A103, hr', hrl, hT, hne, h0, hlen, g1, g2, g3, g4, g5, g6, g7, g8, g9, g10, g11, hd, hdl, g12, g13, Sn.e, eVals]
  refine ⟨_, _, _, _, hb, .inr rfl, by simp [A103, resA, rvA], rfl, _, rfl, ?_⟩
  have hA : xs.take j = (l.take j).map Sn.e := by rw [List.map_take, ← hx, List.take_take, Nat.min_eq_left g2]
  have hAD : (xs.take j ++ d.map Sn.e).length = l.length - 1 := by rw [List.length_append, List.length_take, List.length_map, hdl]; omega
  have e1 : List.take (l.length - 1) (xs.take j ++ (d.map Sn.e ++ List.drop (l.length - 1) xs)) = xs.take j ++ d.map Sn.e := by
    rw [← List.append_assoc, List.take_append_of_le_length (by omega), List.take_of_length_le (by omega)]
  rw [e1, List.take_append_of_le_length (Nat.le_of_eq hAD.symm), List.take_of_length_le (Nat.le_of_eq hAD), List.eraseIdx_eq_take_drop_succ, hdd, List.map_append, ← hA]

/-- What a slice of the call's own is, where it lies, and what else is as it was. -/
def SlQ {α : Type} (enc : α → List AV) (sz : Nat) (rs0 : List Ob) (r : Nat) (l : List α) (v : AV) (rs : List Ob) : Prop :=
  Sl enc sz rs r v l ∧ ∀ k, k < r → rs[k]? = rs0[k]?

theorem e88 (l : List Sn) (w : Wr) (hk : 1 ≤ w.kind ∧ w.kind ≤ 3) (hp : w.kind ≠ 1 → placeS l w.row ≠ none) (hl : l.length < 2 ^ 29) (r : Nat) (v : AV) (rs : List Ob) (hv : Sl Sn.e 2 rs r v l) (hr : v = .nils → rs.length = r) :
    Own code ext 5 88 [v, .agg w.e] rs fun v' rs' => Sl Sn.e 2 rs' r v' (wroteS l w) ∧ (v' = .nils → rs'.length = r) ∧ ∀ k, k < r → rs'[k]? = rs[k]? := by
  refine Own.mk code ext c88 fun n hn nx => ?_
  have hr3 : 1 ≤ roomMax := by unfold roomMax; omega
  have hr4 : 32 ≤ roomMax := by unfold roomMax; omega
  obtain ⟨hr1, hr2, _⟩ := room32 (k := l.length) (by omega)
  by_cases k1 : w.kind = 1
  · have kx : (w.kind = 1) = True := eq_true k1
    unfold wroteS
    rw [if_pos k1]
    rcases hv with ⟨rfl, rfl⟩ | ⟨u, xs, rfl, h2, h3⟩
    · have hr := hr rfl
      subst hr
      have hb : acode (run1 code ext n) n A88.code ([.nils, .agg w.e] ++ List.replicate (A88.nt - [AV.nils, .agg w.e].length) .top, ⟨[], rs, nx⟩) = acode (run1 code ext n) n A88.code ([.nils, .agg w.e] ++ List.replicate (A88.nt - [AV.nils, .agg w.e].length) .top, ⟨[], rs, nx⟩) := rfl
      conv at hb => rhs; simp [acode, runOps, step1, aop, wantedA, ev, put, opened, binV, binInt, binStr, app_v, Pr.run, Pr.map, Pr.bind, Pr.mapP, loadA, storeA, cellsVal, Pr.ofOption, cells, fillA, splice, nz, dr, cln, flat, one, bnd, slA, items, appA, Hp.get, Hp.app, Hp.set, eqAll, eq1, lookA, resA, rvA, fin, AV.i, AV.b, AV.s, beq_int, bne_int, emp_is, emp_iff, runD, step2, clash, apartFP, Pr.log, A88, Wr.e, eVals, kx, hr3, hr4]
      refine ⟨_, _, _, _, hb, .inr rfl, by simp [A88, resA, rvA]; rfl, .inr ⟨_, [w.sn.e], rfl, by simp [Wr.sn, Sn.e, eVals], by simp⟩, fun h => (by cases h), fun k hk => ?_⟩
      simp [List.getElem?_append_left hk]
    · have hlen : l.length ≤ xs.length := by
        have := congrArg List.length h3
        rw [List.length_take, List.length_map] at this
        omega
      obtain ⟨hrl, h2'⟩ := List.getElem?_eq_some_iff.1 h2
      by_cases hroom : l.length + 1 ≤ xs.length
      · have hb : acode (run1 code ext n) n A88.code ([.own r u 0 l.length, .agg w.e] ++ List.replicate (A88.nt - [AV.own r u 0 l.length, .agg w.e].length) .top, ⟨[], rs, nx⟩) = acode (run1 code ext n) n A88.code ([.own r u 0 l.length, .agg w.e] ++ List.replicate (A88.nt - [AV.own r u 0 l.length, .agg w.e].length) .top, ⟨[], rs, nx⟩) := rfl
        conv at hb => rhs; simp [acode, runOps, step1, aop, wantedA, ev, put, opened, binV, binInt, binStr, app_v, Pr.run, Pr.map, Pr.bind, Pr.mapP, loadA, storeA, cellsVal, Pr.ofOption, cells, fillA, splice, nz, dr, cln, flat, one, bnd, slA, items, appA, Hp.get, Hp.app, Hp.set, eqAll, eq1, lookA, resA, rvA, fin, AV.i, AV.b, AV.s, beq_int, bne_int, emp_is, emp_iff, runD, step2, clash, apartFP, Pr.log, A88, Wr.e, eVals, kx, hrl, h2', hlen, hroom]
        refine ⟨_, _, _, _, hb, .inr rfl, by simp [A88, resA, rvA]; rfl, .inr ⟨u, _, by simp, by simp [hrl]; rfl, ?_⟩, fun h => by simp at h, fun k hk => by simp; rw [List.getElem?_set_ne (by omega)]⟩
        rw [h3]
        simp [List.take_append, Wr.sn, Sn.e, eVals]
        exact List.take_of_length_le (by simp)
      · have hb : acode (run1 code ext n) n A88.code ([.own r u 0 l.length, .agg w.e] ++ List.replicate (A88.nt - [AV.own r u 0 l.length, .agg w.e].length) .top, ⟨[], rs, nx⟩) = acode (run1 code ext n) n A88.code ([.own r u 0 l.length, .agg w.e] ++ List.replicate (A88.nt - [AV.own r u 0 l.length, .agg w.e].length) .top, ⟨[], rs, nx⟩) := rfl
        conv at hb => rhs; simp [acode, runOps, step1, aop, wantedA, ev, put, opened, binV, binInt, binStr, app_v, Pr.run, Pr.map, Pr.bind, Pr.mapP, loadA, storeA, cellsVal, Pr.ofOption, cells, fillA, splice, nz, dr, cln, flat, one, bnd, slA, items, appA, Hp.get, Hp.app, Hp.set, eqAll, eq1, lookA, resA, rvA, fin, AV.i, AV.b, AV.s, beq_int, bne_int, emp_is, emp_iff, runD, step2, clash, apartFP, Pr.log, A88, Wr.e, eVals, kx, hrl, h2', hlen, hroom, hr1, hr2]
        refine ⟨_, _, _, _, hb, .inr rfl, by simp [A88, resA, rvA]; rfl, .inr ⟨_, _, by simp; rfl, by simp [hrl]; rfl, ?_⟩, fun h => by simp at h, fun k hk => by simp; rw [List.getElem?_set_ne (by omega)]⟩
        rw [h3]
        simp [List.take_append, Wr.sn, Sn.e, eVals]
        exact List.take_of_length_le (by simp)
  · obtain ⟨j, hj1, hj2, hjl, hjr⟩ : ∃ j, placeI l w.row = (j : Nat) ∧ placeS l w.row = some j ∧ ∃ h : j < l.length, l[j].row = w.row := by
      rcases placeFrom_zero l w.row with ⟨_, _, h⟩ | ⟨j, _, h1, h2⟩
      · exact absurd h (hp k1)
      · refine ⟨j, h1, h2, ?_⟩
        unfold placeS at h2
        obtain ⟨q1, q2, _⟩ := List.findIdx?_eq_some_iff_getElem.1 h2
        exact ⟨q1, by simpa using q2⟩
    have h97 := e97 l w.row (by omega) n (by omega)
    rw [hj1] at h97
    simp only [roS] at h97
    have mp := mapP_plain plain_sn 4 l
    rcases hv with ⟨rfl, rfl⟩ | ⟨u, xs, rfl, h2, h3⟩
    · simp at hjl
    have hlen : l.length ≤ xs.length := by
      have := congrArg List.length h3
      rw [List.length_take, List.length_map] at this
      omega
    obtain ⟨hrl, h2'⟩ := List.getElem?_eq_some_iff.1 h2
    have hwj := wrap_in ((j : Int) + 1) (by omega)
    unfold wroteS
    rw [if_neg k1, hj2]
    simp only
    by_cases k2 : w.kind = 2
    · have k2x : (w.kind = 2) = True := eq_true k2
      rw [if_pos k2]
      obtain ⟨v', rs', nx', hc, hv', xs', rfl, hx'⟩ := e103 l j hjl (by omega) r u xs rs h2 h3 n (by omega) (nx + 2 + 2 + 2 + 2 + 5 + 6)
      have hb : acode (run1 code ext n) n A88.code ([.own r u 0 l.length, .agg w.e] ++ List.replicate (A88.nt - [AV.own r u 0 l.length, .agg w.e].length) .top, ⟨[], rs, nx⟩) = acode (run1 code ext n) n A88.code ([.own r u 0 l.length, .agg w.e] ++ List.replicate (A88.nt - [AV.own r u 0 l.length, .agg w.e].length) .top, ⟨[], rs, nx⟩) := rfl
      conv at hb => rhs; simp [acode, runOps, step1, aop, wantedA, ev, put, opened, binV, binInt, binStr, app_v, Pr.run, Pr.map, Pr.bind, Pr.mapP, loadA, storeA, cellsVal, Pr.ofOption, cells, fillA, splice, nz, dr, cln, flat, one, bnd, slA, items, appA, Hp.get, Hp.app, Hp.set, eqAll, eq1, lookA, resA, rvA, fin, AV.i, AV.b, AV.s, beq_int, bne_int, emp_is, emp_iff, runD, step2, clash, apartFP, Pr.log, A88, Wr.e, eVals, k1, k2x, hrl, h2', hlen, h3, mp, h97, hwj, hc]
      have he : (l.eraseIdx j).length = l.length - 1 := List.length_eraseIdx_of_lt hjl
      subst hv'
      refine ⟨_, _, _, .own r u 0 (l.length - 1), hb, .inr rfl, by simp [A88, resA, rvA], .inr ⟨u, xs', by rw [he], by simp [hrl], by rw [he]; exact hx'⟩, (by intro h; cases h), (by intro k hk; exact List.getElem?_set_ne (by omega))⟩
    · have k3 : w.kind = 3 := by omega
      have k3x : (w.kind = 3) = True := eq_true k3
      rw [if_neg k2]
      have hjx : j < xs.length := by omega
      have hxj : xs[j] = [.i w.row, eVals l[j].vals] := by
        have : xs[j]? = (l.map Sn.e)[j]? := by rw [← h3, List.getElem?_take_of_lt hjl]
        rw [List.getElem?_map, List.getElem?_eq_getElem hjl, List.getElem?_eq_getElem hjx, Option.map_some, Option.some.injEq] at this
        rw [this, Sn.e, hjr]
      have hb : acode (run1 code ext n) n A88.code ([.own r u 0 l.length, .agg w.e] ++ List.replicate (A88.nt - [AV.own r u 0 l.length, .agg w.e].length) .top, ⟨[], rs, nx⟩) = acode (run1 code ext n) n A88.code ([.own r u 0 l.length, .agg w.e] ++ List.replicate (A88.nt - [AV.own r u 0 l.length, .agg w.e].length) .top, ⟨[], rs, nx⟩) := rfl
      conv at hb => rhs; simp [acode, runOps, step1, aop, wantedA, ev, put, opened, binV, binInt, binStr, app_v, Pr.run, Pr.map, Pr.bind, Pr.mapP, loadA, storeA, cellsVal, Pr.ofOption, cells, fillA, splice, nz, dr, cln, flat, one, bnd, slA, items, appA, Hp.get, Hp.app, Hp.set, eqAll, eq1, lookA, resA, rvA, fin, AV.i, AV.b, AV.s, beq_int, bne_int, emp_is, emp_iff, runD, step2, clash, apartFP, Pr.log, A88, Wr.e, eVals, k1, k2, hrl, h2', hlen, h3, mp, h97, hjl, hjx, hxj]
      refine ⟨_, _, _, .own r u 0 l.length, hb, .inr rfl, by simp [A88, resA, rvA], .inr ⟨u, _, by simp, by simp [hrl]; rfl, ?_⟩, (by intro h; cases h), (by intro k hk; exact List.getElem?_set_ne (by omega))⟩
      rw [List.length_set, List.take_set, h3, List.map_set]
      rfl

/-- The ways a write is asked. -/
theorem wr_cases (s : Sto) (l : List Sn) (th : Int → Bool) (w : Wr) (p : Prop) (h1 : inB w.kind 1 3 = false → ckWr s l th w = 4 → p)
    (h2 : inB w.kind 1 3 = true → (w.kind = 1) = True → inB w.row 1 (s.nextRow - 1) = false → ckWr s l th w = 1 → p)
    (h3 : inB w.kind 1 3 = true → (w.kind = 1) = True → inB w.row 1 (s.nextRow - 1) = true → th w.row = true → ckWr s l th w = 7 → p)
    (h4 : inB w.kind 1 3 = true → (w.kind = 1) = True → (w.kind = 2) = False → inB w.row 1 (s.nextRow - 1) = true → th w.row = false → ckWr s l th w = ckRow s.cols w.vals → p)
    (h5 : inB w.kind 1 3 = true → (w.kind = 1) = False → placeI l w.row < 0 → ckWr s l th w = 6 → p)
    (h6 : inB w.kind 1 3 = true → (w.kind = 1) = False → (w.kind = 2) = True → ¬ placeI l w.row < 0 → 0 < w.vals.length → ckWr s l th w = 3 → p)
    (h7 : inB w.kind 1 3 = true → (w.kind = 1) = False → (w.kind = 2) = True → ¬ placeI l w.row < 0 → ¬ 0 < w.vals.length → ckWr s l th w = 0 → p)
    (h8 : inB w.kind 1 3 = true → (w.kind = 1) = False → (w.kind = 2) = False → ¬ placeI l w.row < 0 → ckWr s l th w = ckRow s.cols w.vals → p) : p := by
  cases q1 : inB w.kind 1 3 with
  | false => exact h1 q1 (by simp [ckWr, q1])
  | true =>
    by_cases k1 : w.kind = 1
    · have k2 : (w.kind = 2) = False := eq_false (by omega)
      have k1x : (w.kind = 1) = True := eq_true k1
      cases q2 : inB w.row 1 (s.nextRow - 1) with
      | false => exact h2 q1 k1x q2 (by simp [ckWr, q1, k1x, q2])
      | true =>
        cases q3 : th w.row with
        | true => exact h3 q1 k1x q2 q3 (by simp [ckWr, q1, k1x, q2, q3])
        | false => exact h4 q1 k1x k2 q2 q3 (by simp [ckWr, q1, k1x, k2, q2, q3])
    · have k1x : (w.kind = 1) = False := eq_false k1
      rcases placeFrom_zero l w.row with ⟨_, p1, p2⟩ | ⟨j, _, p1, p2⟩
      · exact h5 q1 k1x (by omega) (by simp [ckWr, q1, k1x, p2])
      · by_cases k2 : w.kind = 2
        · have k2x : (w.kind = 2) = True := eq_true k2
          by_cases q4 : 0 < w.vals.length
          · exact h6 q1 k1x k2x (by omega) (by omega) (by simp [ckWr, q1, k1x, k2x, p2, q4])
          · have q4x : w.vals.length = 0 := by omega
            exact h7 q1 k1x k2x (by omega) (by omega) (by simp [ckWr, q1, k1x, k2x, p2, q4x])
        · exact h8 q1 k1x (eq_false k2) (by omega) (by simp [ckWr, q1, k1x, k2, p2])

theorem e87 (s : Sto) (hs : Bd s) (l : List Sn) (hl : l.length < 2 ^ 29) (w : Wr) (th : Int → Bool) (r r0 um : Nat) (es : List (Int × AV)) (v : AV) (rs : List Ob) (hv : Sl Sn.e 2 rs r v l) (hm : rs[r0]? = some (.map um es)) (hth : ∀ r, (lookA (.b false) es r).1 = .b (th r)) :
    Own code ext 6 87 [.agg s.e, v, .agg w.e, .mp r0 um] rs fun v' rs' => v' = .i (ckWr s l th w) ∧ rs' = rs := by
  refine Own.mk code ext c87 fun n hn nx => ?_
  have w1 : IntKind.i64.wrap (s.nextRow - 1) = s.nextRow - 1 := wrap_in _ (by have := hs.nr; omega)
  have h1 := e44 w.kind 1 3 n (by omega)
  have h2 := e44 w.row 1 (s.nextRow - 1) n (by omega)
  have h3 := e56 s.cols w.vals hs.c n (by omega)
  have h4 := e97 l w.row (by omega) n (by omega)
  have hl0 := hth w.row
  obtain ⟨hrm, hm⟩ := List.getElem?_eq_some_iff.1 hm
  simp only [roC, eVals, roS] at h3 h4
  have mp := mapP_plain plain_sn 4 l
  have hx : ∃ e F h' x, acode (run1 code ext n) n A87.code ([.agg s.e, v, .agg w.e, .mp r0 um] ++ List.replicate (A87.nt - [AV.agg s.e, v, .agg w.e, .mp r0 um].length) .top, ⟨[], rs, nx⟩) = some (e, (F, h')) ∧ (e = .nrm ∨ e = .ret) ∧ F[8]? = some x ∧ x = .i (ckWr s l th w) ∧ h'.rs = rs := by
    rcases hv with ⟨rfl, rfl⟩ | ⟨u, xs, rfl, g2, g3⟩
    · simp only [List.map_nil] at h4
      refine wr_cases s [] th w _ ?_ ?_ ?_ ?_ ?_ ?_ ?_ ?_
      all_goals intros
      all_goals rename_i qq
      all_goals rw [qq]
      all_goals simp only [*] at h1 h2 hl0
      all_goals
        have hb : acode (run1 code ext n) n A87.code ([.agg s.e, .nils, .agg w.e, .mp r0 um] ++ List.replicate (A87.nt - [AV.agg s.e, .nils, .agg w.e, .mp r0 um].length) .top, ⟨[], rs, nx⟩) = acode (run1 code ext n) n A87.code ([.agg s.e, .nils, .agg w.e, .mp r0 um] ++ List.replicate (A87.nt - [AV.agg s.e, .nils, .agg w.e, .mp r0 um].length) .top, ⟨[], rs, nx⟩) := rfl
        conv at hb => rhs; simp [acode, runOps, step1, aop, wantedA, ev, put, opened, binV, binInt, binStr, app_v, Pr.run, Pr.map, Pr.bind, Pr.mapP, loadA, storeA, cellsVal, Pr.ofOption, cells, fillA, splice, nz, dr, cln, flat, one, bnd, slA, items, appA, Hp.get, Hp.app, Hp.set, eqAll, eq1, lookA, resA, rvA, fin, AV.i, AV.b, AV.s, beq_int, bne_int, emp_is, emp_iff, runD, step2, clash, apartFP, Pr.log, A87, Sto.e, Wr.e, eVals, *]
      all_goals exact ⟨_, _, _, _, hb, .inr rfl, rfl, rfl, rfl⟩
    · have hlen : l.length ≤ xs.length := by
        have := congrArg List.length g3
        rw [List.length_take, List.length_map] at this
        omega
      obtain ⟨hrl, g2⟩ := List.getElem?_eq_some_iff.1 g2
      refine wr_cases s l th w _ ?_ ?_ ?_ ?_ ?_ ?_ ?_ ?_
      all_goals intros
      all_goals rename_i qq
      all_goals rw [qq]
      all_goals simp only [*] at h1 h2 hl0
      all_goals
        have hb : acode (run1 code ext n) n A87.code ([.agg s.e, .own r u 0 l.length, .agg w.e, .mp r0 um] ++ List.replicate (A87.nt - [AV.agg s.e, .own r u 0 l.length, .agg w.e, .mp r0 um].length) .top, ⟨[], rs, nx⟩) = acode (run1 code ext n) n A87.code ([.agg s.e, .own r u 0 l.length, .agg w.e, .mp r0 um] ++ List.replicate (A87.nt - [AV.agg s.e, .own r u 0 l.length, .agg w.e, .mp r0 um].length) .top, ⟨[], rs, nx⟩) := rfl
        conv at hb => rhs; simp [acode, runOps, step1, aop, wantedA, ev, put, opened, binV, binInt, binStr, app_v, Pr.run, Pr.map, Pr.bind, Pr.mapP, loadA, storeA, cellsVal, Pr.ofOption, cells, fillA, splice, nz, dr, cln, flat, one, bnd, slA, items, appA, Hp.get, Hp.app, Hp.set, eqAll, eq1, lookA, resA, rvA, fin, AV.i, AV.b, AV.s, beq_int, bne_int, emp_is, emp_iff, runD, step2, clash, apartFP, Pr.log, A87, Sto.e, Wr.e, eVals, *]
      all_goals exact ⟨_, _, _, _, hb, .inr rfl, rfl, rfl, rfl⟩
  obtain ⟨e, F, h', x, a1, a2, a3, a4, a5⟩ := hx
  exact ⟨e, F, h', x, a1, a2, by simp [A87, resA, rvA, a3], a4, a5⟩
end Go.Pv
