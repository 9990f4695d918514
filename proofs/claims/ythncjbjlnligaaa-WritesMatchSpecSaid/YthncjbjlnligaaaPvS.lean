/-
  What functions come to: what a transaction sees, writes put behind others. Conditions: none.
-/
import Derived.Test.YthncjbjlnligaaaPvR
set_option linter.unusedVariables false
set_option linter.unusedSimpArgs false
namespace Go.Pv
open Go
set_option maxRecDepth 100000
set_option maxHeartbeats 8000000

structure X70 where
  rs : List Ob
  v : AV
  l : List Sn

theorem loop70 (n : Nat) (hn : 2 ^ 64 + 5 ≤ n) (s : Sto) (t : Tr) (hwl : t.writes.length ≤ 200) (N : Nat) (hN : N < 2 ^ 28) (m i nx : Nat) (x : X70) (hI : Sl Sn.e 2 x.rs 0 x.v x.l ∧ (x.v = .nils → x.rs.length = 0) ∧ WOk x.l (t.writes.drop i) ∧ x.l.length ≤ N + i) (hi : i ≤ t.writes.length) (hm : t.writes.length - i < m) :
    ∃ e st, iter (acode (run1 code ext n) n A70L0) 2 A70M0 m (A70H0 x.v (roW t.writes) (.i t.writes.length) (.i i), ⟨[.box 0 s.e, .box 1 t.e], x.rs, nx⟩) = some (e, st) ∧
      ∃ v rs nx', e = .ex 0 ∧ st = ((A70H0 v (roW t.writes) (.i t.writes.length) (.i t.writes.length)).set 16 (.b false), ⟨[.box 0 s.e, .box 1 t.e], rs, nx'⟩) ∧ Sl Sn.e 2 rs 0 v ((t.writes.drop i).foldl wroteS x.l) := by
  refine loop_list (f := acode (run1 code ext n) n A70L0) (k := 2) (M := A70M0) t.writes (fun i (x : X70) nx => (A70H0 x.v (roW t.writes) (.i t.writes.length) (.i i), ⟨[.box 0 s.e, .box 1 t.e], x.rs, nx⟩)) (fun i x => Sl Sn.e 2 x.rs 0 x.v x.l ∧ (x.v = .nils → x.rs.length = 0) ∧ WOk x.l (t.writes.drop i) ∧ x.l.length ≤ N + i) (fun i r x e st => ∃ v rs nx', e = .ex 0 ∧ st = ((A70H0 v (roW t.writes) (.i t.writes.length) (.i t.writes.length)).set 16 (.b false), ⟨[.box 0 s.e, .box 1 t.e], rs, nx'⟩) ∧ Sl Sn.e 2 rs 0 v (r.foldl wroteS x.l)) ?_ ?_ m i x nx hi hm hI
  · intro x nx hI
    have hb : acode (run1 code ext n) n A70L0 (A70H0 x.v (roW t.writes) (.i t.writes.length) (.i t.writes.length), ⟨[.box 0 s.e, .box 1 t.e], x.rs, nx⟩) = acode (run1 code ext n) n A70L0 (A70H0 x.v (roW t.writes) (.i t.writes.length) (.i t.writes.length), ⟨[.box 0 s.e, .box 1 t.e], x.rs, nx⟩) := rfl
    conv at hb => rhs; simp [acode, runOps, step1, aop, wantedA, ev, put, opened, binV, binInt, binStr, app_v, Pr.run, Pr.map, Pr.bind, Pr.mapP, loadA, storeA, cellsVal, Pr.ofOption, cells, fillA, splice, nz, dr, cln, flat, one, bnd, slA, items, appA, Hp.get, Hp.app, Hp.set, eqAll, eq1, lookA, resA, rvA, fin, AV.i, AV.b, AV.s, beq_int, bne_int, emp_is, emp_iff, runD, step2, clash, apartFP, Pr.log, A70L0]
    exact ⟨_, _, by simp, hb, x.v, x.rs, _, rfl, by simp; rfl, hI.1⟩
  · intro i hi w x nx hg hI
    obtain ⟨rs, v, l⟩ := x
    simp only at hI ⊢
    obtain ⟨h1, h2, h3, h4⟩ := hI
    rw [List.drop_eq_getElem_cons hi, hg] at h3
    obtain ⟨⟨z1, z2⟩, z3⟩ := h3
    have hw := wrap_nat i (by omega)
    obtain ⟨v2, rs2, nx2, g1, g2, g3, g4⟩ := e88 l w z1 z2 (by omega) 0 v rs h1 h2 n (by omega) (nx + 1 + 4 + 4)
    simp only [Wr.e, eVals] at g1
    have hb : acode (run1 code ext n) n A70L0 (A70H0 v (roW t.writes) (.i t.writes.length) (.i i), ⟨[.box 0 s.e, .box 1 t.e], rs, nx⟩) = acode (run1 code ext n) n A70L0 (A70H0 v (roW t.writes) (.i t.writes.length) (.i i), ⟨[.box 0 s.e, .box 1 t.e], rs, nx⟩) := rfl
    conv at hb => rhs; simp [acode, runOps, step1, aop, wantedA, ev, put, opened, binV, binInt, binStr, app_v, Pr.run, Pr.map, Pr.bind, Pr.mapP, loadA, storeA, cellsVal, Pr.ofOption, cells, fillA, splice, nz, dr, cln, flat, one, bnd, slA, items, appA, Hp.get, Hp.app, Hp.set, eqAll, eq1, lookA, resA, rvA, fin, AV.i, AV.b, AV.s, beq_int, bne_int, emp_is, emp_iff, runD, step2, clash, apartFP, Pr.log, A70L0, Sto.e, Tr.e, Wr.e, eVals, roW, hi, hg, hw, g1]
    refine .inl ⟨_, ⟨rs2, v2, wroteS l w⟩, _, hb, by simp [trunc, mask, A70M0, Sto.e, Tr.e, roW]; rfl, ⟨g2, g3, z3, ?_⟩, fun e st h => h⟩
    have := wrote_len l w
    simp only; omega

theorem iter_zero70 (n : Nat) (b0 b1 : Ob) (v : AV) (rs : List Ob) (nx : Nat) : iter (acode (run1 code ext (n + 1)) (n + 1) A70L0) 2 A70M0 (n + 1) (A70H0 v (.ro []) (.i 0) (.i 0), ⟨[b0, b1], rs, nx⟩) = some (.ex 0, ((A70H0 v (.ro []) (.i 0) (.i 0)).set 16 (.b false), ⟨[b0, b1], rs, nx + 1⟩)) := by
  have hb : acode (run1 code ext (n + 1)) (n + 1) A70L0 (A70H0 v (.ro []) (.i 0) (.i 0), ⟨[b0, b1], rs, nx⟩) = acode (run1 code ext (n + 1)) (n + 1) A70L0 (A70H0 v (.ro []) (.i 0) (.i 0), ⟨[b0, b1], rs, nx⟩) := rfl
  conv at hb => rhs; simp [acode, runOps, step1, aop, wantedA, ev, put, opened, binV, binInt, binStr, app_v, Pr.run, Pr.map, Pr.bind, Pr.mapP, loadA, storeA, cellsVal, Pr.ofOption, cells, fillA, splice, nz, dr, cln, flat, one, bnd, slA, items, appA, Hp.get, Hp.app, Hp.set, eqAll, eq1, lookA, resA, rvA, fin, AV.i, AV.b, AV.s, beq_int, bne_int, emp_is, emp_iff, runD, step2, clash, apartFP, Pr.log, A70L0]
  unfold iter
  rw [hb]
  simp

theorem e70 (s : Sto) (t : Tr) (hv : s.vers.length < 2 ^ 28) (hwl : t.writes.length ≤ 200) (hok : WOk (baseS s.vers t.sees) t.writes) : Is code ext 7 70 [.agg s.e, .agg t.e] (roS (seesS s t)) := by
  refine Is.step code ext c70 fun n hn => ?_
  obtain ⟨v, rs, nx', h1, ⟨tl, h2, h3⟩, h4⟩ := e74 s t.sees [] (by omega) n (by omega) 8
  simp only [Sto.e] at h1
  have hbl := base_len s.vers t.sees
  obtain ⟨e, st, k1, v', rs', nx2, rfl, rfl, k2⟩ := loop70 n (by omega) s t hwl s.vers.length hv n 0 (nx' + 4) ⟨rs, v, baseS s.vers t.sees⟩ ⟨h4, fun h => by rw [h2, h3 h]; rfl, by simpa using hok, by simp only; omega⟩ (Nat.zero_le _) (by omega)
  simp only [Int.natCast_zero, Sto.e, Tr.e, roW] at k1
  rw [List.drop_zero] at k2
  have hb : acode (run1 code ext n) n A70.code ([.agg s.e, .agg t.e] ++ List.replicate (A70.nt - [AV.agg s.e, .agg t.e].length) .top, ⟨[], [], 0⟩) = acode (run1 code ext n) n A70.code ([.agg s.e, .agg t.e] ++ List.replicate (A70.nt - [AV.agg s.e, .agg t.e].length) .top, ⟨[], [], 0⟩) := rfl
  conv at hb => rhs; simp [acode, runOps, step1, aop, wantedA, ev, put, opened, binV, binInt, binStr, app_v, Pr.run, Pr.map, Pr.bind, Pr.mapP, loadA, storeA, cellsVal, Pr.ofOption, cells, fillA, splice, nz, dr, cln, flat, one, bnd, slA, items, appA, Hp.get, Hp.app, Hp.set, eqAll, eq1, lookA, resA, rvA, fin, AV.i, AV.b, AV.s, beq_int, bne_int, emp_is, emp_iff, runD, step2, clash, apartFP, Pr.log, A70, Sto.e, Tr.e, h1, A70M0_eq, k1]
  rw [hb]
  simp [fin, A70, resA, rvA, loadA, Pr.run, Hp.get, cellsVal, Pr.ofOption]
  rcases k2 with ⟨rfl, k2⟩ | ⟨u, xs, rfl, k3, k4⟩
  · have k2' : seesS s t = [] := k2
    rw [k2']
    rfl
  · exact dr_own plain_sn 4 0 u 2 (seesS s t) xs k4 _ (by simp [Hp.get, List.getD_eq_getElem?_getD, k3])

theorem loop99 (n : Nat) (hn : 2 ^ 64 + 2 ≤ n) (s : Sto) (t : Tr) (hwl : t.writes.length ≤ 200) (N : Nat) (hN : N < 2 ^ 28) (m i nx : Nat) (x : List Sn) (hI : x.length ≤ N + i) (hi : i ≤ t.writes.length) (hm : t.writes.length - i < m) :
    ∃ e st, iter (acode (run1 code ext n) n A99L0) 2 A99M0 m (A99H0 (.ptr 1 1 0) (roS x) (.i i), ⟨[.box 0 s.e, .box 1 t.e], [], nx⟩) = some (e, st) ∧ LQ 0 4 26 [(5, roS ((t.writes.drop i).foldl afterS x))] [.box 0 s.e, .box 1 t.e] [] none e st := by
  refine loop_list (f := acode (run1 code ext n) n A99L0) (k := 2) (M := A99M0) t.writes (fun i (x : List Sn) nx => (A99H0 (.ptr 1 1 0) (roS x) (.i i), ⟨[.box 0 s.e, .box 1 t.e], [], nx⟩)) (fun i x => x.length ≤ N + i) (fun i r x e st => LQ 0 4 26 [(5, roS (r.foldl afterS x))] [.box 0 s.e, .box 1 t.e] [] none e st) ?_ ?_ m i x nx hi hm hI
  · intro x nx hI
    have hb : acode (run1 code ext n) n A99L0 (A99H0 (.ptr 1 1 0) (roS x) (.i t.writes.length), ⟨[.box 0 s.e, .box 1 t.e], [], nx⟩) = acode (run1 code ext n) n A99L0 (A99H0 (.ptr 1 1 0) (roS x) (.i t.writes.length), ⟨[.box 0 s.e, .box 1 t.e], [], nx⟩) := rfl
    conv at hb => rhs; simp [acode, runOps, step1, aop, wantedA, ev, put, opened, binV, binInt, binStr, app_v, Pr.run, Pr.map, Pr.bind, Pr.mapP, loadA, storeA, cellsVal, Pr.ofOption, cells, fillA, splice, nz, dr, cln, flat, one, bnd, slA, items, appA, Hp.get, Hp.app, Hp.set, eqAll, eq1, lookA, resA, rvA, fin, AV.i, AV.b, AV.s, beq_int, bne_int, emp_is, emp_iff, runD, step2, clash, apartFP, Pr.log, A99L0, Tr.e]
    exact ⟨_, _, by simp, hb, by simp [LQ, Tr.e]⟩
  · intro i hi w x nx hg hI
    have hw := wrap_nat i (by omega)
    have h90 := e90 x w (by omega) n (by omega)
    simp only [Wr.e, eVals, roS] at h90
    have hb : acode (run1 code ext n) n A99L0 (A99H0 (.ptr 1 1 0) (roS x) (.i i), ⟨[.box 0 s.e, .box 1 t.e], [], nx⟩) = acode (run1 code ext n) n A99L0 (A99H0 (.ptr 1 1 0) (roS x) (.i i), ⟨[.box 0 s.e, .box 1 t.e], [], nx⟩) := rfl
    conv at hb => rhs; simp [acode, runOps, step1, aop, wantedA, ev, put, opened, binV, binInt, binStr, app_v, Pr.run, Pr.map, Pr.bind, Pr.mapP, loadA, storeA, cellsVal, Pr.ofOption, cells, fillA, splice, nz, dr, cln, flat, one, bnd, slA, items, appA, Hp.get, Hp.app, Hp.set, eqAll, eq1, lookA, resA, rvA, fin, AV.i, AV.b, AV.s, beq_int, bne_int, emp_is, emp_iff, runD, step2, clash, apartFP, Pr.log, A99L0, Tr.e, Wr.e, eVals, hi, hg, hw, h90]
    refine .inl ⟨_, afterS x w, _, hb, by simp [trunc, mask, A99M0, Tr.e]; rfl, ?_, fun e st h => h⟩
    have := after_len x w
    omega

theorem e99 (s : Sto) (t : Tr) (hv : s.vers.length < 2 ^ 28) (hwl : t.writes.length ≤ 200) : Is code ext 3 99 [.agg s.e, .agg t.e] (roS (seesA s t)) := by
  refine Is.step code ext c99 fun n hn => ?_
  have h1 := e79 s t.sees (by omega) n (by omega)
  simp only [Sto.e, roS] at h1
  have hbl := base_len s.vers t.sees
  obtain ⟨e, st, k1, k2⟩ := loop99 n (by omega) s t hwl s.vers.length hv n 0 (3 + 5 + 1) (baseS s.vers t.sees) (by omega) (Nat.zero_le _) (by omega)
  simp only [Int.natCast_zero, Sto.e, Tr.e, roS] at k1
  rw [List.drop_zero] at k2
  obtain ⟨F, nx, rfl, rfl, hF, hk⟩ := k2.exit
  have h5 : F[5]? = some (roS (seesA s t)) := hk _ (List.mem_singleton.2 rfl)
  simp only [roS] at h5
  obtain ⟨_, h5'⟩ := List.getElem?_eq_some_iff.1 h5
  simp [A99, acode, runOps, step1, aop, wantedA, ev, put, opened, binV, binInt, binStr, app_v, Pr.run, Pr.map, Pr.bind, Pr.mapP, loadA, storeA, cellsVal, Pr.ofOption, cells, fillA, splice, nz, dr, cln, flat, one, bnd, slA, items, appA, Hp.get, Hp.app, Hp.set, eqAll, eq1, lookA, resA, rvA, fin, AV.i, AV.b, AV.s, beq_int, bne_int, emp_is, emp_iff, runD, step2, clash, apartFP, Pr.log, Sto.e, Tr.e, h1, A99M0_eq, k1, hF]
  rw [h5']
  rfl

theorem oc_setk {h : Hp} {cs : List (List AV)} {ts : List Tr} (hc : OCr h cs ts) (k : Nat) {c : List AV} {t : Tr} (hct : (Pr.mapP (dr 3) c).run h = some t.e) : OCr h (cs.set k c) (ts.set k t) := by
  refine ⟨by simp [hc.1], fun j c' hj => ?_⟩
  by_cases hjk : k = j
  · subst hjk
    have hl : k < cs.length := by
      have := (List.getElem?_eq_some_iff.1 hj).1
      simpa using this
    rw [List.getElem?_set_self hl] at hj
    cases hj
    exact ⟨t, List.getElem?_set_self (by rw [← hc.1]; exact hl), hct⟩
  · rw [List.getElem?_set_ne hjk] at hj
    obtain ⟨t', h1, h2⟩ := hc.2 j c' hj
    exact ⟨t', by rw [List.getElem?_set_ne hjk]; exact h1, h2⟩

theorem mapP_up {α β : Type} {f g : α → Pr β} {h : Hp} (hfg : ∀ a b, (f a).run h = some b → (g a).run h = some b) : ∀ (l : List α) (r : List β), (Pr.mapP f l).run h = some r → (Pr.mapP g l).run h = some r
  | [], _, e => e
  | a :: l, r, e => by
    unfold Pr.mapP at e ⊢
    rw [run_pbind] at e ⊢
    cases ha : (f a).run h with
    | none => rw [ha] at e; cases e
    | some b =>
      rw [ha, Option.bind_some, run_pbind] at e
      rw [hfg a b ha, Option.bind_some, run_pbind]
      cases hl : (Pr.mapP f l).run h with
      | none => rw [hl] at e; cases e
      | some bs => rw [hl] at e; rw [mapP_up hfg l bs hl]; exact e

/-- What is read to the bottom is read so by who goes deeper, too. -/
theorem dr_up : ∀ (k : Nat) {a b : AV} {h : Hp}, (dr k a).run h = some b → (dr (k + 1) a).run h = some b
  | 0, _, _, _, e => by cases e
  | k + 1, a, b, h, e => by
    cases a with
    | own r u s n =>
      unfold dr at e ⊢
      simp only [Pr.run] at e ⊢
      cases hr : h.get (.r r) with
      | row u' sz xs =>
        rw [hr] at e
        simp only at e ⊢
        split at e
        · rename_i q
          rw [if_pos q]
          rw [run_pbind] at e ⊢
          cases hl : (Pr.mapP (Pr.mapP (dr k)) ((xs.drop s).take n)).run h with
          | none => rw [hl] at e; cases e
          | some bs => rw [hl] at e; rw [mapP_up (mapP_up fun _ _ => dr_up k) _ bs hl]; exact e
        · cases e
      | _ => rw [hr] at e; cases e
    | agg cs =>
      unfold dr at e ⊢
      rw [run_pbind] at e ⊢
      cases hl : (Pr.mapP (dr k) cs).run h with
      | none => rw [hl] at e; cases e
      | some bs => rw [hl] at e; rw [mapP_up (fun _ _ => dr_up k) _ bs hl]; exact e
    | tup cs =>
      unfold dr at e ⊢
      rw [run_pbind] at e ⊢
      cases hl : (Pr.mapP (dr k) cs).run h with
      | none => rw [hl] at e; cases e
      | some bs => rw [hl] at e; rw [mapP_up (fun _ _ => dr_up k) _ bs hl]; exact e
    | _ => exact e

/-- A store with one more write of a transaction. -/
def putW (s : Sto) (k : Nat) (t : Tr) (w : Wr) : Sto := { s with opn := s.opn.set k { t with writes := t.writes ++ [w] } }

theorem e59 (s : Sto) (k : Nat) (hk : k < s.opn.length) (hs : s.opn.length ≤ 20) (t : Tr) (ht : s.opn[k] = t) (hwl : t.writes.length ≤ 200) (w : Wr) : Is code ext 1 59 [.agg s.e, .i k, .agg w.e] (.agg (putW s k t w).e) := by
  refine Is.step code ext c59 fun n hn => ?_
  have oa := fun E X => appA_all (E := E) (bytes := 40) (x := X) (one_tr s.opn)
  have ob := fun E X => appA_all (E := E) (bytes := 40) (x := X) (one_wr t.writes)
  have oc := fun E X => appA_all (E := E) (bytes := 40) (x := X) (one_wr [w])
  simp only [List.map_cons, List.map_nil, Wr.e, eVals] at oc
  have oz := fun E X => appA_all (E := E) (sz := 3) (bytes := 40) (x := X) (ys := []) rfl
  have tka := tk_all Tr.e s.opn
  have tkb := tk_all Wr.e t.writes
  have hr3 : 1 ≤ roomMax := by unfold roomMax; omega
  have hr4 : 40 ≤ roomMax := by unfold roomMax; omega
  have r1 : s.opn.length ≤ roomMax := by unfold roomMax; omega
  have r2 : s.opn.length * 40 ≤ roomMax := by unfold roomMax; omega
  have r3 : t.writes.length ≤ roomMax := by unfold roomMax; omega
  have r4 : t.writes.length * 40 ≤ roomMax := by unfold roomMax; omega
  have r5 : t.writes.length + 1 ≤ roomMax := by unfold roomMax; omega
  have r6 : (t.writes.length + 1) * 40 ≤ roomMax := by unfold roomMax; omega
  have hno : ¬ (t.writes.length + 1 ≤ t.writes.length) := by omega
  have h0' : ¬ s.opn = [] := fun h => by rw [h] at hk; simp at hk
  have fin59 : ∀ (h : Hp) (u u' : Nat), h.get (.r 0) = .row u 3 ((s.opn.map Tr.e).set k [.i t.id, .i t.sees, .own 1 u' 0 (t.writes.length + 1)]) → h.rs[1]? = some (.row u' 3 ((t.writes ++ [w]).map Wr.e)) →
      (dr 5 (.agg [roC s.cols, roV' s.vers, .i s.last, .i s.nextRow, .i s.nextTrans, .i s.swept, .own 0 u 0 s.opn.length])).run h = some (.agg (putW s k t w).e) := fun h u u' a1 a2 => by
    refine dr_sto (s := putW s k t w) rfl rfl ?_
    have hl : (putW s k t w).opn.length = s.opn.length := by simp [putW]
    rw [← hl]
    obtain ⟨bs, rs, nx⟩ := h
    exact dr_oc (oc_setk (oc_plain _ s.opn) k (cell_wa (t := { t with writes := t.writes ++ [w] }) (ro := 0) (.inr ⟨1, u', by omega, by simp, by simp, a2⟩))) a1 (List.take_of_length_le (by simp [hl]))
  rcases Nat.eq_zero_or_pos t.writes.length with h1 | h1
  · have g3 := List.length_eq_zero_iff.1 h1
    have hb : acode (run1 code ext n) n A59.code ([.agg s.e, .i k, .agg w.e] ++ List.replicate (A59.nt - [AV.agg s.e, .i k, .agg w.e].length) .top, ⟨[], [], 0⟩) = acode (run1 code ext n) n A59.code ([.agg s.e, .i k, .agg w.e] ++ List.replicate (A59.nt - [AV.agg s.e, .i k, .agg w.e].length) .top, ⟨[], [], 0⟩) := rfl
    conv at hb => rhs; simp [acode, runOps, step1, aop, wantedA, ev, put, opened, binV, binInt, binStr, app_v, Pr.run, Pr.map, Pr.bind, Pr.mapP, loadA, storeA, cellsVal, Pr.ofOption, cells, fillA, splice, nz, dr, cln, flat, one, bnd, slA, items, Hp.get, Hp.app, Hp.set, eqAll, eq1, lookA, resA, rvA, fin, AV.i, AV.b, AV.s, beq_int, bne_int, emp_is, emp_iff, runD, step2, clash, apartFP, Pr.log, A59, Sto.e, Tr.e, Wr.e, eVals, oa, oz, oc, tka, tkb, hr3, hr4, r1, r2, h0', hk, ht, g3]
    rw [hb]
    simp [fin, A59, resA, rvA, loadA, Pr.run, Hp.get, cellsVal, Pr.ofOption]
    exact dr_up 5 (fin59 _ 7 23 (by simp [Hp.get, h1]) (by simp [g3, Wr.e, eVals]))
  · have h1' : ¬ t.writes = [] := fun h => by rw [h] at h1; simp at h1
    have hb : acode (run1 code ext n) n A59.code ([.agg s.e, .i k, .agg w.e] ++ List.replicate (A59.nt - [AV.agg s.e, .i k, .agg w.e].length) .top, ⟨[], [], 0⟩) = acode (run1 code ext n) n A59.code ([.agg s.e, .i k, .agg w.e] ++ List.replicate (A59.nt - [AV.agg s.e, .i k, .agg w.e].length) .top, ⟨[], [], 0⟩) := rfl
    conv at hb => rhs; simp [acode, runOps, step1, aop, wantedA, ev, put, opened, binV, binInt, binStr, app_v, Pr.run, Pr.map, Pr.bind, Pr.mapP, loadA, storeA, cellsVal, Pr.ofOption, cells, fillA, splice, nz, dr, cln, flat, one, bnd, slA, items, Hp.get, Hp.app, Hp.set, eqAll, eq1, lookA, resA, rvA, fin, AV.i, AV.b, AV.s, beq_int, bne_int, emp_is, emp_iff, runD, step2, clash, apartFP, Pr.log, A59, Sto.e, Tr.e, Wr.e, eVals, oa, ob, oc, tka, tkb, r1, r2, r3, r4, r5, r6, hno, h0', h1', hk, ht]
    rw [hb]
    simp [fin, A59, resA, rvA, loadA, Pr.run, Hp.get, cellsVal, Pr.ofOption]
    exact dr_up 5 (fin59 _ 7 23 (by simp [Hp.get]) (by simp [Wr.e, eVals]))
end Go.Pv

namespace Go.Pv
open Go
set_option maxRecDepth 100000
set_option maxHeartbeats 8000000

theorem WA.low {rs : List Ob} {ro : Nat} {a : AV} {l : List Wr} (h : WA rs ro a l) {r' : Nat} {o : Ob} (hne : ∀ u k, a ≠ .own r' u 0 k) : WA (rs.set r' o) ro a l := by
  rcases h with h | ⟨r, u, h1, rfl, h3, h4⟩
  · exact .inl h
  · have : r' ≠ r := fun e => hne u l.length (by rw [e])
    exact .inr ⟨r, u, h1, rfl, h3, by rw [List.getElem?_set_ne this]; exact h4⟩

/-- A write behind none. -/
theorem oc_write_nil {ts : List Tr} {ro uo : Nat} {rs0 rs bs : List Ob} {cs : List (List AV)} (hC : CI ts ro uo rs0 rs cs ts.length) (k : Nat) (t : Tr) (hk : ts[k]? = some t) (h0 : t.writes = []) (w : Wr) (u' nx : Nat) (o : Ob) :
    OCr ⟨bs, rs.set ro o ++ [.row u' 3 [w.e]], nx⟩ (cs.set k [.i t.id, .i t.sees, .own rs.length u' 0 1]) (ts.set k { t with writes := t.writes ++ [w] }) := by
  have hro : ro < rs.length := (List.getElem?_eq_some_iff.1 hC.row).1
  refine oc_setk ⟨hC.len, fun j c hj => ?_⟩ k (cell_wa (t := { t with writes := t.writes ++ [w] }) (ro := ro) (.inr ⟨rs.length, u', hro, by simp [h0], by simp, ?_⟩))
  · have hjl : j < ts.length := by rw [← hC.len]; exact (List.getElem?_eq_some_iff.1 hj).1
    obtain ⟨a, h1, h2⟩ := hC.done j ts[j] hjl (List.getElem?_eq_getElem hjl)
    rw [hj] at h1
    cases h1
    exact ⟨ts[j], List.getElem?_eq_getElem hjl, cell_wa h2.set.grow⟩
  · rw [List.getElem?_append_right (by simp)]
    simp [h0]

/-- A write behind others. -/
theorem oc_write_own {ts : List Tr} {ro uo : Nat} {rs0 rs bs : List Ob} {cs : List (List AV)} (hC : CI ts ro uo rs0 rs cs ts.length) (k : Nat) (t : Tr) (hk : ts[k]? = some t) (r u : Nat) (ha : cs[k]? = some [.i t.id, .i t.sees, .own r u 0 t.writes.length]) (hr : ro < r) (hrl : r < rs.length) (w : Wr) (u' nx : Nat) (o : Ob) :
    OCr ⟨bs, (rs.set r (.row u' 3 (t.writes.map Wr.e ++ [w.e]))).set ro o, nx⟩ (cs.set k [.i t.id, .i t.sees, .own r u' 0 (t.writes.length + 1)]) (ts.set k { t with writes := t.writes ++ [w] }) := by
  refine ⟨by simp [hC.len], fun j c hj => ?_⟩
  by_cases hjk : k = j
  · subst hjk
    have hl : k < cs.length := (List.getElem?_eq_some_iff.1 ha).1
    rw [List.getElem?_set_self hl] at hj
    cases hj
    refine ⟨_, List.getElem?_set_self (by rw [← hC.len]; exact hl), cell_wa (t := { t with writes := t.writes ++ [w] }) (ro := ro) (.inr ⟨r, u', hr, by simp, by simp, ?_⟩)⟩
    rw [List.getElem?_set_ne (by omega), List.getElem?_set_self hrl]
    simp
  · rw [List.getElem?_set_ne hjk] at hj
    have hjl : j < ts.length := by rw [← hC.len]; exact (List.getElem?_eq_some_iff.1 hj).1
    obtain ⟨a, h1, h2⟩ := hC.done j ts[j] hjl (List.getElem?_eq_getElem hjl)
    rw [hj] at h1
    cases h1
    refine ⟨ts[j], by rw [List.getElem?_set_ne hjk]; exact List.getElem?_eq_getElem hjl, cell_wa (WA.set (h2.low fun u2 k2 e => ?_))⟩
    subst e
    have hkl : k < ts.length := (List.getElem?_eq_some_iff.1 hk).1
    rcases Nat.lt_or_gt_of_ne hjk with h | h
    · exact hC.dis k j r u _ u2 _ _ _ _ _ h hjl ha hj
    · exact hC.dis j k r u2 _ u _ _ _ _ _ h hkl hj ha

/-- A delete or an update, in plain words. -/
def wrR (s : Sto) (k : Nat) (t : Tr) (w : Wr) : Sto × Int := if placeI (seesS s t) w.row < 0 then (emptySto, 6) else if t.writes.length = 200 then (emptySto, 2) else (putW s k t w, 0)

theorem eq200 (t : Tr) : ((t.writes.length : Int) = 200) = (t.writes.length = 200) := by rw [eq_iff_iff]; omega

theorem e60 (s : Sto) (hw : Wf s) (q0 : ckStore s = 0) (k : Nat) (hk : k < s.opn.length) (t : Tr) (ht : s.opn[k] = t) (w : Wr) : Is code ext 10 60 [.agg s.e, .i k, .agg w.e] (.tup [.agg (wrR s k t w).1.e, .i (wrR s k t w).2]) := by
  refine Is.step code ext c60 fun n hn => ?_
  have hrt := rt_of hw q0
  have hmem : t ∈ s.opn := by rw [← ht]; exact List.getElem_mem _
  obtain ⟨t1, t2, t3, t4, t5⟩ := tr_ok q0 hmem
  have hvl := hrt.v
  have h1 := e70 s t (by omega) t5 t1 n (by omega)
  have hsl : (seesS s t).length < 2 ^ 62 := by
    have := base_len s.vers t.sees
    have h : ∀ (ws : List Wr) (l : List Sn), (ws.foldl wroteS l).length ≤ l.length + ws.length := fun ws => by
      induction ws with
      | nil => intro l; simp
      | cons w ws ih =>
        intro l
        have h1 := ih (wroteS l w)
        have h2 := wrote_len l w
        rw [List.foldl_cons, List.length_cons]
        omega
    have := h t.writes (baseS s.vers t.sees)
    unfold seesS
    omega
  have h2 := e97 (seesS s t) w.row hsl n (by omega)
  simp only [Sto.e, Tr.e, roS] at h1 h2
  unfold wrR
  by_cases q1 : placeI (seesS s t) w.row < 0
  · rw [if_pos q1]
    simp [A60, acode, runOps, step1, aop, wantedA, ev, put, opened, binV, binInt, binStr, app_v, Pr.run, Pr.map, Pr.bind, Pr.mapP, loadA, storeA, cellsVal, Pr.ofOption, cells, fillA, splice, nz, dr, cln, flat, one, bnd, slA, items, appA, Hp.get, Hp.app, Hp.set, eqAll, eq1, lookA, resA, rvA, fin, AV.i, AV.b, AV.s, beq_int, bne_int, emp_is, emp_iff, runD, step2, clash, apartFP, Pr.log, Sto.e, Tr.e, Wr.e, eVals, hk, ht, h1, h2, q1, emptySto]
  · rw [if_neg q1]
    by_cases q2 : t.writes.length = 200
    · rw [if_pos q2]
      have q2' := eq_true q2
      simp [A60, acode, runOps, step1, aop, wantedA, ev, put, opened, binV, binInt, binStr, app_v, Pr.run, Pr.map, Pr.bind, Pr.mapP, loadA, storeA, cellsVal, Pr.ofOption, cells, fillA, splice, nz, dr, cln, flat, one, bnd, slA, items, appA, Hp.get, Hp.app, Hp.set, eqAll, eq1, lookA, resA, rvA, fin, AV.i, AV.b, AV.s, beq_int, bne_int, emp_is, emp_iff, runD, step2, clash, apartFP, Pr.log, Sto.e, Tr.e, Wr.e, eVals, hk, ht, h1, h2, q1, emptySto, eq200, q2']
    · rw [if_neg q2]
      obtain ⟨v, rs, nx', h3, uC, vV, oV, rfl, g1, g2, g3⟩ := e51 s hrt n (by omega) 26
      simp only [Sto.e] at h3
      have ho := hrt.bd.o
      rcases g3 with ⟨rfl, g3⟩ | ⟨ro, uo, cs, rfl, g0, gr, gr1, hC⟩
      · rw [g3] at hk; simp at hk
      have hlen := hC.len
      obtain ⟨hrl, hr'⟩ := List.getElem?_eq_some_iff.1 hC.row
      have hkc : k < cs.length := by omega
      have htk : s.opn[k]? = some t := by rw [List.getElem?_eq_getElem hk, ht]
      obtain ⟨a, ha, hA⟩ := hC.done k t hk htk
      have ha' : cs[k] = [.i t.id, .i t.sees, a] := by rw [List.getElem?_eq_getElem hkc] at ha; exact Option.some.inj ha
      have hle : s.opn.length ≤ cs.length := by omega
      have hr3 : 1 ≤ roomMax := by unfold roomMax; omega
      have hr4 : 40 ≤ roomMax := by unfold roomMax; omega
      have r5 : t.writes.length + 1 ≤ roomMax := by unfold roomMax; omega
      have r6 : (t.writes.length + 1) * 40 ≤ roomMax := by unfold roomMax; omega
      have hno : ¬ (t.writes.length + 1 ≤ t.writes.length) := by omega
      have hap : ∀ o, (rs ++ [o])[ro]? = some (.row uo 3 cs) := fun o => by rw [List.getElem?_append_left hrl]; exact hC.row
      have hsa : ∀ o x, (rs ++ [o]).set ro x = rs.set ro x ++ [o] := fun o x => by simp [List.set_append, hrl]
      have hvd : one vV = true ∧ ∀ (rs' : List Ob) (nx : Nat), (0 < s.vers.length → rs'[1]? = rs[1]?) → (dr 4 vV).run ⟨[], rs', nx⟩ = some (roV' s.vers) := by
        rcases g2 with ⟨rfl, h⟩ | ⟨uV, rfl, hp, h⟩
        · exact ⟨rfl, fun rs' nx _ => by rw [h]; rfl⟩
        · exact ⟨rfl, fun rs' nx he => dr_pl plain_ver 1 uV 4 s.vers ((he hp).trans h)⟩
      have fin60 : ∀ (rs' : List Ob) (nx uo' : Nat) (cs' : List (List AV)), rs'[0]? = rs[0]? → (0 < s.vers.length → rs'[1]? = rs[1]?) → (Hp.get ⟨[], rs', nx⟩ (.r ro)) = .row uo' 3 cs' → OCr ⟨[], rs', nx⟩ cs' (s.opn.set k { t with writes := t.writes ++ [w] }) →
          (dr 6 (.tup [.agg [.own 0 uC 0 s.cols.length, vV, .i s.last, .i s.nextRow, .i s.nextTrans, .i s.swept, .own ro uo' 0 s.opn.length], .i 0])).run ⟨[], rs', nx⟩ = some (.tup [.agg (putW s k t w).e, .i 0]) := fun rs' nx uo' cs' a1 a2 a3 a4 => by
        refine dr_tup2 (dr_sto (s := putW s k t w) (dr_pl plain_col 0 uC 2 s.cols (a1.trans g1)) (hvd.2 rs' nx a2) ?_)
        have hl : (putW s k t w).opn.length = s.opn.length := by simp [putW]
        rw [← hl]
        exact dr_oc a4 a3 (List.take_of_length_le (by rw [hl, a4.1]; simp))
      rcases g2 with ⟨rfl, g2⟩ | ⟨uV, rfl, gp, g2⟩
      · rcases hA with ⟨rfl, hA⟩ | ⟨r, u, hA1, rfl, hA2, hA3⟩
        · have hb : acode (run1 code ext n) n A60.code ([.agg s.e, .i k, .agg w.e] ++ List.replicate (A60.nt - [AV.agg s.e, .i k, .agg w.e].length) .top, ⟨[], [], 0⟩) = acode (run1 code ext n) n A60.code ([.agg s.e, .i k, .agg w.e] ++ List.replicate (A60.nt - [AV.agg s.e, .i k, .agg w.e].length) .top, ⟨[], [], 0⟩) := rfl
          conv at hb => rhs; simp [acode, runOps, step1, aop, wantedA, ev, put, opened, binV, binInt, binStr, app_v, Pr.run, Pr.map, Pr.bind, Pr.mapP, loadA, storeA, cellsVal, Pr.ofOption, cells, fillA, splice, nz, dr, cln, flat, one, bnd, slA, items, appA, Hp.get, Hp.app, Hp.set, eqAll, eq1, lookA, resA, rvA, fin, AV.i, AV.b, AV.s, beq_int, bne_int, emp_is, emp_iff, runD, step2, clash, apartFP, Pr.log, A60, Sto.e, Tr.e, Wr.e, eVals, hk, ht, h1, h2, h3, q1, eq200, q2, hrl, hr', hkc, ha', hle, hr3, hr4, hap, hsa]
          rw [hb]
          simp [fin, A60, resA, rvA, loadA, Pr.run, Hp.get, cellsVal, Pr.ofOption]
          exact fin60 _ _ uo _ ((List.getElem?_append_left (by simp; omega)).trans (List.getElem?_set_ne (by omega))) (fun h => (List.getElem?_append_left (by have := gr1 h; simp; omega)).trans (List.getElem?_set_ne (gr1 h))) (by simp [Hp.get, List.getElem?_append, hrl]) (oc_write_nil hC k t htk hA w _ _ _)
        · obtain ⟨hA4, hA5⟩ := List.getElem?_eq_some_iff.1 hA3
          have hrr : ¬ r = ro := by omega
          have tkw := tk_all Wr.e t.writes
          have hb : acode (run1 code ext n) n A60.code ([.agg s.e, .i k, .agg w.e] ++ List.replicate (A60.nt - [AV.agg s.e, .i k, .agg w.e].length) .top, ⟨[], [], 0⟩) = acode (run1 code ext n) n A60.code ([.agg s.e, .i k, .agg w.e] ++ List.replicate (A60.nt - [AV.agg s.e, .i k, .agg w.e].length) .top, ⟨[], [], 0⟩) := rfl
          conv at hb => rhs; simp [acode, runOps, step1, aop, wantedA, ev, put, opened, binV, binInt, binStr, app_v, Pr.run, Pr.map, Pr.bind, Pr.mapP, loadA, storeA, cellsVal, Pr.ofOption, cells, fillA, splice, nz, dr, cln, flat, one, bnd, slA, items, appA, Hp.get, Hp.app, Hp.set, eqAll, eq1, lookA, resA, rvA, fin, AV.i, AV.b, AV.s, beq_int, bne_int, emp_is, emp_iff, runD, step2, clash, apartFP, Pr.log, A60, Sto.e, Tr.e, Wr.e, eVals, hk, ht, h1, h2, h3, q1, eq200, q2, hrl, hr', hkc, ha', hle, hr3, hr4, hA4, hA5, hrr, r5, r6, hno, tkw, h3]
          rw [hb]
          simp [fin, A60, resA, rvA, loadA, Pr.run, Hp.get, cellsVal, Pr.ofOption]
          exact fin60 _ _ uo _ ((List.getElem?_set_ne (by omega)).trans (List.getElem?_set_ne (by omega))) (fun h => (List.getElem?_set_ne (gr1 h)).trans (List.getElem?_set_ne (by have := gr1 h; omega))) (by simp [Hp.get, hrl]) (oc_write_own hC k t htk r u ha hA1 hA4 w _ _ _)
      · rcases hA with ⟨rfl, hA⟩ | ⟨r, u, hA1, rfl, hA2, hA3⟩
        · have hb : acode (run1 code ext n) n A60.code ([.agg s.e, .i k, .agg w.e] ++ List.replicate (A60.nt - [AV.agg s.e, .i k, .agg w.e].length) .top, ⟨[], [], 0⟩) = acode (run1 code ext n) n A60.code ([.agg s.e, .i k, .agg w.e] ++ List.replicate (A60.nt - [AV.agg s.e, .i k, .agg w.e].length) .top, ⟨[], [], 0⟩) := rfl
          conv at hb => rhs; simp [acode, runOps, step1, aop, wantedA, ev, put, opened, binV, binInt, binStr, app_v, Pr.run, Pr.map, Pr.bind, Pr.mapP, loadA, storeA, cellsVal, Pr.ofOption, cells, fillA, splice, nz, dr, cln, flat, one, bnd, slA, items, appA, Hp.get, Hp.app, Hp.set, eqAll, eq1, lookA, resA, rvA, fin, AV.i, AV.b, AV.s, beq_int, bne_int, emp_is, emp_iff, runD, step2, clash, apartFP, Pr.log, A60, Sto.e, Tr.e, Wr.e, eVals, hk, ht, h1, h2, h3, q1, eq200, q2, hrl, hr', hkc, ha', hle, hr3, hr4, hap, hsa]
          rw [hb]
          simp [fin, A60, resA, rvA, loadA, Pr.run, Hp.get, cellsVal, Pr.ofOption]
          exact fin60 _ _ uo _ ((List.getElem?_append_left (by simp; omega)).trans (List.getElem?_set_ne (by omega))) (fun h => (List.getElem?_append_left (by have := gr1 h; simp; omega)).trans (List.getElem?_set_ne (gr1 h))) (by simp [Hp.get, List.getElem?_append, hrl]) (oc_write_nil hC k t htk hA w _ _ _)
        · obtain ⟨hA4, hA5⟩ := List.getElem?_eq_some_iff.1 hA3
          have hrr : ¬ r = ro := by omega
          have tkw := tk_all Wr.e t.writes
          have hb : acode (run1 code ext n) n A60.code ([.agg s.e, .i k, .agg w.e] ++ List.replicate (A60.nt - [AV.agg s.e, .i k, .agg w.e].length) .top, ⟨[], [], 0⟩) = acode (run1 code ext n) n A60.code ([.agg s.e, .i k, .agg w.e] ++ List.replicate (A60.nt - [AV.agg s.e, .i k, .agg w.e].length) .top, ⟨[], [], 0⟩) := rfl
          conv at hb => rhs; simp [acode, runOps, step1, aop, wantedA, ev, put, opened, binV, binInt, binStr, app_v, Pr.run, Pr.map, Pr.bind, Pr.mapP, loadA, storeA, cellsVal, Pr.ofOption, cells, fillA, splice, nz, dr, cln, flat, one, bnd, slA, items, appA, Hp.get, Hp.app, Hp.set, eqAll, eq1, lookA, resA, rvA, fin, AV.i, AV.b, AV.s, beq_int, bne_int, emp_is, emp_iff, runD, step2, clash, apartFP, Pr.log, A60, Sto.e, Tr.e, Wr.e, eVals, hk, ht, h1, h2, h3, q1, eq200, q2, hrl, hr', hkc, ha', hle, hr3, hr4, hA4, hA5, hrr, r5, r6, hno, tkw, h3]
          rw [hb]
          simp [fin, A60, resA, rvA, loadA, Pr.run, Hp.get, cellsVal, Pr.ofOption]
          exact fin60 _ _ uo _ ((List.getElem?_set_ne (by omega)).trans (List.getElem?_set_ne (by omega))) (fun h => (List.getElem?_set_ne (gr1 h)).trans (List.getElem?_set_ne (by have := gr1 h; omega))) (by simp [Hp.get, hrl]) (oc_write_own hC k t htk r u ha hA1 hA4 w _ _ _)
end Go.Pv
