/-
  What functions come to: Begin and Abort. Conditions: none.
-/
import Derived.Test.YthncjbjlnligaaaPvQ
set_option linter.unusedVariables false
set_option linter.unusedSimpArgs false
namespace Go.Pv
open Go
set_option maxRecDepth 100000
set_option maxHeartbeats 8000000

theorem mapP_run {α β : Type} {f : α → Pr β} {h : Hp} : ∀ (l : List α) (r : List β), l.length = r.length → (∀ (i : Nat) (a : α), l[i]? = some a → ∃ b : β, r[i]? = some b ∧ (f a).run h = some b) → (Pr.mapP f l).run h = some r
  | [], [], _, _ => rfl
  | [], b :: r, hl, _ => by simp at hl
  | a :: l, [], hl, _ => by simp at hl
  | a :: l, b :: r, hl, hp => by
    unfold Pr.mapP
    obtain ⟨b', h1, h2⟩ := hp 0 a rfl
    cases h1
    rw [run_pbind, h2, Option.bind_some, run_pbind, mapP_run l r (by simpa using hl) (fun i a ha => hp (i + 1) a ha)]
    rfl

/-- Cells of open transactions that read as these. -/
def OCr (h : Hp) (cs : List (List AV)) (ts : List Tr) : Prop := cs.length = ts.length ∧ ∀ (j : Nat) (c : List AV), cs[j]? = some c → ∃ t : Tr, ts[j]? = some t ∧ (Pr.mapP (dr 3) c).run h = some t.e

theorem dr_oc {h : Hp} {cs xs : List (List AV)} {ts : List Tr} {ro uo : Nat} (hc : OCr h cs ts) (hr : h.get (.r ro) = .row uo 3 xs) (hx : xs.take ts.length = cs) : (dr 4 (.own ro uo 0 ts.length)).run h = some (roTr ts) := by
  have hl : ts.length ≤ xs.length := by
    have := congrArg List.length hx
    rw [List.length_take, hc.1] at this
    omega
  unfold dr
  simp only [Pr.run, hr, true_and, Nat.zero_add, if_pos hl, List.drop_zero, hx]
  rw [run_pbind, mapP_run cs (ts.map Tr.e) (by rw [List.length_map]; exact hc.1) (fun i c hi => by
    obtain ⟨t, h1, h2⟩ := hc.2 i c hi
    exact ⟨t.e, by rw [List.getElem?_map, h1]; rfl, h2⟩)]
  rfl

theorem cell_wa {rs : List Ob} {bs : List Ob} {nx ro : Nat} {a : AV} {t : Tr} (h : WA rs ro a t.writes) : (Pr.mapP (dr 3) [.i t.id, .i t.sees, a]).run ⟨bs, rs, nx⟩ = some t.e := by
  rcases h with ⟨rfl, h⟩ | ⟨r, u, _, rfl, h0, h1⟩
  · simp [Pr.mapP, dr, Pr.bind, Pr.run, Tr.e, h]
  · have hd : (dr 3 (.own r u 0 t.writes.length)).run ⟨bs, rs, nx⟩ = some (.ro (t.writes.map Wr.e)) := dr_own plain_wr 1 r u 3 t.writes _ (take_all _ _) ⟨bs, rs, nx⟩ (by simp [Hp.get, List.getD_eq_getElem?_getD, h1])
    unfold Pr.mapP
    simp only [dr, Pr.bind]
    unfold Pr.mapP
    simp only [dr, Pr.bind]
    unfold Pr.mapP
    rw [run_pbind, run_pbind, run_pbind, hd]
    rfl

theorem oc_ci {ts : List Tr} {ro uo : Nat} {rs0 rs bs : List Ob} {cs : List (List AV)} {nx : Nat} (hC : CI ts ro uo rs0 rs cs ts.length) : OCr ⟨bs, rs, nx⟩ cs ts :=
  ⟨hC.len, fun j c hj => by
    have hjl : j < ts.length := by rw [← hC.len]; exact (List.getElem?_eq_some_iff.1 hj).1
    obtain ⟨a, h1, h2⟩ := hC.done j ts[j] hjl (List.getElem?_eq_getElem hjl)
    rw [hj] at h1
    cases h1
    exact ⟨ts[j], List.getElem?_eq_getElem hjl, cell_wa h2⟩⟩

theorem dr_sto {h : Hp} {cV vV oV : AV} {s : Sto} (hc : (dr 4 cV).run h = some (roC s.cols)) (hv : (dr 4 vV).run h = some (roV' s.vers)) (ho : (dr 4 oV).run h = some (roTr s.opn)) :
    (dr 5 (.agg [cV, vV, .i s.last, .i s.nextRow, .i s.nextTrans, .i s.swept, oV])).run h = some (.agg s.e) := by
  unfold dr
  rw [run_pbind, mapP_run (f := dr 4) [cV, vV, .i s.last, .i s.nextRow, .i s.nextTrans, .i s.swept, oV] s.e rfl (fun i a hi => ?_)]
  · rfl
  · match i, hi with
    | 0, hi => cases hi; exact ⟨_, rfl, hc⟩
    | 1, hi => cases hi; exact ⟨_, rfl, hv⟩
    | 2, hi => cases hi; exact ⟨_, rfl, rfl⟩
    | 3, hi => cases hi; exact ⟨_, rfl, rfl⟩
    | 4, hi => cases hi; exact ⟨_, rfl, rfl⟩
    | 5, hi => cases hi; exact ⟨_, rfl, rfl⟩
    | 6, hi => cases hi; exact ⟨_, rfl, ho⟩

theorem dr_tup3 {h : Hp} {a b : AV} {x y : Int} (ha : (dr 5 a).run h = some b) : (dr 6 (.tup [a, .i x, .i y])).run h = some (.tup [b, .i x, .i y]) := by
  unfold dr
  rw [run_pbind, mapP_run (f := dr 5) [a, .i x, .i y] [b, .i x, .i y] rfl (fun i c hi => ?_)]
  · rfl
  · match i, hi with
    | 0, hi => cases hi; exact ⟨_, rfl, ha⟩
    | 1, hi => cases hi; exact ⟨_, rfl, rfl⟩
    | 2, hi => cases hi; exact ⟨_, rfl, rfl⟩
theorem dr_tup2 {h : Hp} {a b : AV} {x : Int} (ha : (dr 5 a).run h = some b) : (dr 6 (.tup [a, .i x])).run h = some (.tup [b, .i x]) := by
  unfold dr
  rw [run_pbind, mapP_run (f := dr 5) [a, .i x] [b, .i x] rfl (fun i c hi => ?_)]
  · rfl
  · match i, hi with
    | 0, hi => cases hi; exact ⟨_, rfl, ha⟩
    | 1, hi => cases hi; exact ⟨_, rfl, rfl⟩

theorem dr_pl {α : Type} {enc : α → List AV} (hp : Plain enc) (r u sz : Nat) (l : List α) {bs rs : List Ob} {nx : Nat} (hr : rs[r]? = some (.row u sz (l.map enc))) : (dr 4 (.own r u 0 l.length)).run ⟨bs, rs, nx⟩ = some (.ro (l.map enc)) :=
  dr_own hp 2 r u sz l _ (take_all _ _) _ (by simp [Hp.get, List.getD_eq_getElem?_getD, hr])

theorem e53 (cs : List (List AV)) (hall : cs.all (fun c => c.length == 3 && c.all one) = true) (j : Nat) (hj : j < cs.length) (hl : cs.length < 2 ^ 29) (r u : Nat) (rs : List Ob) (hr : rs[r]? = some (.row u 3 cs)) :
    Own code ext 1 53 [.own r u 0 cs.length, .i j, .i ((j : Int) + 1)] rs fun v rs' => v = .own r u 0 (cs.length - 1) ∧ ∃ xs', rs' = rs.set r (.row u 3 xs') ∧ xs'.take (cs.length - 1) = cs.eraseIdx j := by
  refine Own.mk code ext c53 fun n hn nx => ?_
  obtain ⟨hrl, hr'⟩ := List.getElem?_eq_some_iff.1 hr
  have hT : ((j : Int) + 1).toNat = j + 1 := by omega
  have hne : ¬ ((j : Int) = (j : Int) + 1) := by omega
  have h0 : (0 : Int) ≤ (j : Int) + 1 := by omega
  have g1 : j + 1 ≤ cs.length := by omega
  have g2 : j ≤ cs.length := by omega
  have g5 : j + (cs.length - (j + 1)) = cs.length - 1 := by omega
  have g7 : j + 1 + (cs.length - (j + 1)) = cs.length := by omega
  have g9 : cs.length - 1 ≤ cs.length := by omega
  have g10 : cs.length - (cs.length - 1) = 1 := by omega
  have g11 : cs.length - 1 + 1 = cs.length := by omega
  obtain ⟨d, hdd⟩ : ∃ d, cs.drop (j + 1) = d := ⟨_, rfl⟩
  have hdl : d.length = cs.length - (j + 1) := by rw [← hdd, List.length_drop]
  have hd : (cs.drop (j + 1)).take (cs.length - (j + 1)) = d := by rw [← hdl, hdd, List.take_length]
  have hdt : d.take (cs.length - (j + 1)) = d := by rw [← hdl, List.take_length]
  have hda : d.all (fun c => c.length == 3 && c.all one) = true := by
    rw [List.all_eq_true] at hall ⊢
    intro c hc
    exact hall c (List.mem_of_mem_drop (by rw [hdd]; exact hc))
  have od := fun E X => appA_all (E := E) (bytes := 40) (x := X) hda
  have g13 : cs.length ≤ j + (cs.length - (j + 1) + (cs.length - (cs.length - 1))) := by omega
  have g15 : cs.length ≤ j + (cs.length - (j + 1) + 1) := by omega
  have g14 : cs.length - 1 + (cs.length - (cs.length - 1)) = cs.length := by omega
  have hb : acode (run1 code ext n) n A53.code ([.own r u 0 cs.length, .i j, .i ((j : Int) + 1)] ++ List.replicate (A53.nt - [AV.own r u 0 cs.length, .i j, .i ((j : Int) + 1)].length) .top, ⟨[], rs, nx⟩) = acode (run1 code ext n) n A53.code ([.own r u 0 cs.length, .i j, .i ((j : Int) + 1)] ++ List.replicate (A53.nt - [AV.own r u 0 cs.length, .i j, .i ((j : Int) + 1)].length) .top, ⟨[], rs, nx⟩) := rfl
  conv at hb => rhs; simp [acode, runOps, step1, aop, wantedA, ev, put, opened, binV, binInt, binStr, app_v, Pr.run, Pr.map, Pr.bind, Pr.mapP, loadA, storeA, cellsVal, Pr.ofOption, cells, fillA, splice, nz, dr, cln, flat, one, bnd, slA, items, Hp.get, Hp.app, Hp.set, eqAll, eq1, lookA, resA, rvA, fin, AV.i, AV.b, AV.s, beq_int, bne_int, emp_is, emp_iff, runD, step2, clash, apartFP, Pr.log, A53, hr', hrl, hT, hne, h0, g1, g2, g5, g7, g9, g10, g11, g13, g14, g15, hd, hdd, hdl, hdt, od]
  refine ⟨_, _, _, _, hb, .inr rfl, by simp [A53, resA, rvA], rfl, _, rfl, ?_⟩
  have hAD : (cs.take j ++ d).length = cs.length - 1 := by rw [List.length_append, List.length_take, hdl]; omega
  have e1 : List.take (cs.length - 1) (cs.take j ++ (d ++ List.drop (cs.length - 1) cs)) = cs.take j ++ d := by
    rw [← List.append_assoc, List.take_append_of_le_length (by omega), List.take_of_length_le (by omega)]
  rw [e1, List.take_append_of_le_length (Nat.le_of_eq hAD.symm), List.take_of_length_le (Nat.le_of_eq hAD), List.eraseIdx_eq_take_drop_succ, hdd]

/-- A store that is right, from its check. -/
theorem rt_of {s : Sto} (hw : Wf s) (h : ckStore s = 0) : Rt s := by
  have h' := h
  rw [ckStore, ckStoreW_eq] at h'
  split at h'
  · rename_i q; exact absurd h' q
  rename_i q1
  split at h'
  · omega
  rename_i q2
  split at h'
  · omega
  rename_i q3
  split at h'
  · rename_i q; exact absurd h' q
  rename_i q4
  have q1 : ckCols s.cols = 0 := by simpa using q1
  have q4 : ckVers s = 0 := by simpa using q4
  obtain ⟨hc1, hc2⟩ := ckCols_len q1
  have hrow : ∀ v : List Val, ckRow s.cols v = 0 → v.length ≤ 20 := fun v hv => by
    unfold ckRow at hv
    split at hv
    · omega
    · rename_i q; have : v.length = s.cols.length := by simpa using q
      omega
  refine ⟨bd_of hw hc1 (by omega) (by omega) (by simpa using q3), ⟨hc2, hc1⟩, by omega, fun v hv => ?_, ?_⟩
  · unfold ckVers at q4
    split at q4
    · rename_i q; exact absurd q4 q
    rename_i q
    have hz := ckVersL_zero _ _ (by simpa using q) v hv
    unfold ckVer at hz
    split at hz
    · omega
    · split at hz
      · omega
      · exact hrow _ hz
  · have wr0 : ∀ l th (w : Wr), ckWr s l th w = 0 → w.vals.length ≤ 20 := fun l th w hz => by
      unfold ckWr at hz
      split at hz
      · omega
      split at hz
      · omega
      split at hz
      · omega
      split at hz
      · omega
      split at hz
      · split at hz <;> omega
      · exact hrow _ hz
    have wrs0 : ∀ (ws : List Wr) l th, (ckWrs wroteS s l th ws).1 = 0 → ∀ w ∈ ws, w.vals.length ≤ 20 := by
      intro ws
      induction ws with
      | nil => intro l th _ w hw; cases hw
      | cons w ws ih =>
        intro l th hz x hx
        rw [ckWrs_step] at hz
        split at hz
        · rename_i q; exact absurd hz q
        rename_i q
        rcases List.mem_cons.1 hx with rfl | hx
        · exact wr0 l th _ (by simpa using q)
        · exact ih _ _ hz x hx
    have ts0 : ∀ (ts : List Tr) th p, ckOpenL wroteS s th p ts = 0 → ∀ t ∈ ts, t.writes.length ≤ 200 ∧ ∀ w ∈ t.writes, w.vals.length ≤ 20 := by
      intro ts
      induction ts with
      | nil => intro th p _ t ht; cases ht
      | cons t ts ih =>
        intro th p hz x hx
        rw [ckOpenL_step] at hz
        split at hz
        · rename_i q; exact absurd hz q
        rename_i q
        split at hz
        · rename_i q5; exact absurd hz q5
        rename_i q5
        rcases List.mem_cons.1 hx with rfl | hx
        · refine ⟨?_, wrs0 _ _ _ (by simpa using q5)⟩
          have q : ckTr s p x = 0 := by simpa using q
          unfold ckTr at q
          split at q
          · omega
          split at q
          · omega
          split at q
          · omega
          split at q <;> omega
        · exact ih _ _ hz x hx
    exact ts0 _ _ _ h'
end Go.Pv

namespace Go.Pv
open Go
set_option maxRecDepth 100000
set_option maxHeartbeats 8000000

/-- Begin, in plain words. -/
def beginS (s : Sto) : Sto := if ckStore s ≠ 0 then emptySto else if s.opn.length = 20 then emptySto else if s.nextTrans = 1000000 then emptySto
  else { s with opn := s.opn ++ [⟨s.nextTrans, s.last, []⟩], nextTrans := s.nextTrans + 1 }
def beginN (s : Sto) : Int := if ckStore s ≠ 0 then 0 else if s.opn.length = 20 then 0 else if s.nextTrans = 1000000 then 0 else s.nextTrans
def beginF (s : Sto) : Int := if ckStore s ≠ 0 then ckStore s else if s.opn.length = 20 then 2 else if s.nextTrans = 1000000 then 14 else 0

theorem begin_cases (s : Sto) (p : Prop) (h1 : ckStore s ≠ 0 → beginS s = emptySto → beginN s = 0 → beginF s = ckStore s → p) (h2 : ckStore s = 0 → (s.opn.length = 20) = True → beginS s = emptySto → beginN s = 0 → beginF s = 2 → p)
    (h3 : ckStore s = 0 → (s.opn.length = 20) = False → (s.nextTrans = 1000000) = True → beginS s = emptySto → beginN s = 0 → beginF s = 14 → p)
    (h4 : ckStore s = 0 → (s.opn.length = 20) = False → (s.nextTrans = 1000000) = False → beginS s = { s with opn := s.opn ++ [⟨s.nextTrans, s.last, []⟩], nextTrans := s.nextTrans + 1 } → beginN s = s.nextTrans → beginF s = 0 → p) : p := by
  by_cases q1 : ckStore s = 0
  · by_cases q2 : s.opn.length = 20
    · exact h2 q1 (eq_true q2) (by simp [beginS, q1, q2]) (by simp [beginN, q1, q2]) (by simp [beginF, q1, q2])
    · by_cases q3 : s.nextTrans = 1000000
      · exact h3 q1 (eq_false q2) (eq_true q3) (by simp [beginS, q1, q2, q3]) (by simp [beginN, q1, q2, q3]) (by simp [beginF, q1, q2, q3])
      · exact h4 q1 (eq_false q2) (eq_false q3) (by simp [beginS, q1, q2, q3]) (by simp [beginN, q1, q2, q3]) (by simp [beginF, q1, q2, q3])
  · exact h1 q1 (by simp [beginS, q1]) (by simp [beginN, q1]) (by simp [beginF, q1])

theorem eq20 (s : Sto) : ((s.opn.length : Int) = 20) = (s.opn.length = 20) := by rw [eq_iff_iff]; omega

theorem oc_app {h : Hp} {cs : List (List AV)} {ts : List Tr} (hc : OCr h cs ts) (a b : Int) : OCr h (cs ++ [[.i a, .i b, .nils]]) (ts ++ [⟨a, b, []⟩]) := by
  refine ⟨by simp [hc.1], fun j c hj => ?_⟩
  by_cases hlt : j < cs.length
  · rw [List.getElem?_append_left hlt] at hj
    obtain ⟨t, h1, h2⟩ := hc.2 j c hj
    exact ⟨t, by rw [List.getElem?_append_left (by rw [← hc.1]; exact hlt)]; exact h1, h2⟩
  · rw [List.getElem?_append_right (by omega)] at hj
    have h0 : j - cs.length = 0 := by
      have := (List.getElem?_eq_some_iff.1 hj).1
      simp at this; omega
    rw [h0] at hj
    cases hj
    refine ⟨⟨a, b, []⟩, by rw [List.getElem?_append_right (by rw [← hc.1]; omega), ← hc.1, h0]; rfl, ?_⟩
    simp [Pr.mapP, dr, Pr.bind, Pr.run, Tr.e]

theorem oc_set {ts : List Tr} {ro uo : Nat} {rs0 rs bs : List Ob} {cs : List (List AV)} {nx : Nat} {o : Ob} (hC : CI ts ro uo rs0 rs cs ts.length) : OCr ⟨bs, rs.set ro o, nx⟩ cs ts :=
  ⟨hC.len, fun j c hj => by
    have hjl : j < ts.length := by rw [← hC.len]; exact (List.getElem?_eq_some_iff.1 hj).1
    obtain ⟨a, h1, h2⟩ := hC.done j ts[j] hjl (List.getElem?_eq_getElem hjl)
    rw [hj] at h1
    cases h1
    exact ⟨ts[j], List.getElem?_eq_getElem hjl, cell_wa h2.set⟩⟩

theorem e14 (s : Sto) (hw : Wf s) : Is code ext 9 14 [.agg s.e] (.tup [.agg (beginS s).e, .i (beginN s), .i (beginF s)]) := by
  refine Is.step code ext c14 fun n hn => ?_
  have h1 : isoOf (run1 code ext n) 11 [.agg s.e] = some (.i (ckStore s)) := e11 s hw n (by omega)
  simp only [Sto.e] at h1
  refine begin_cases s _ ?_ ?_ ?_ ?_
  · intro q1 r1 r2 r3
    rw [r1, r2, r3]
    simp [A14, acode, runOps, step1, aop, wantedA, ev, put, opened, binV, binInt, binStr, app_v, Pr.run, Pr.map, Pr.bind, Pr.mapP, loadA, storeA, cellsVal, Pr.ofOption, cells, fillA, splice, nz, dr, cln, flat, one, bnd, slA, items, appA, Hp.get, Hp.app, Hp.set, eqAll, eq1, lookA, resA, rvA, fin, AV.i, AV.b, AV.s, beq_int, bne_int, emp_is, emp_iff, runD, step2, clash, apartFP, Pr.log, Sto.e, h1, q1, emptySto]
  · intro q1 q2 r1 r2 r3
    rw [q1] at h1
    rw [r1, r2, r3]
    simp [A14, acode, runOps, step1, aop, wantedA, ev, put, opened, binV, binInt, binStr, app_v, Pr.run, Pr.map, Pr.bind, Pr.mapP, loadA, storeA, cellsVal, Pr.ofOption, cells, fillA, splice, nz, dr, cln, flat, one, bnd, slA, items, appA, Hp.get, Hp.app, Hp.set, eqAll, eq1, lookA, resA, rvA, fin, AV.i, AV.b, AV.s, beq_int, bne_int, emp_is, emp_iff, runD, step2, clash, apartFP, Pr.log, Sto.e, h1, eq20, q2, emptySto]
  · intro q1 q2 q3 r1 r2 r3
    rw [q1] at h1
    rw [r1, r2, r3]
    simp [A14, acode, runOps, step1, aop, wantedA, ev, put, opened, binV, binInt, binStr, app_v, Pr.run, Pr.map, Pr.bind, Pr.mapP, loadA, storeA, cellsVal, Pr.ofOption, cells, fillA, splice, nz, dr, cln, flat, one, bnd, slA, items, appA, Hp.get, Hp.app, Hp.set, eqAll, eq1, lookA, resA, rvA, fin, AV.i, AV.b, AV.s, beq_int, bne_int, emp_is, emp_iff, runD, step2, clash, apartFP, Pr.log, Sto.e, h1, eq20, q2, q3, emptySto]
  · intro q1 q2 q3 r1 r2 r3
    have hrt := rt_of hw q1
    rw [q1] at h1
    rw [r1, r2, r3]
    obtain ⟨v, rs, nx', h2, uC, vV, oV, rfl, g1, g2, g3⟩ := e51 s hrt n (by omega) 19
    simp only [Sto.e] at h2
    have w1 : IntKind.i64.wrap (s.nextTrans + 1) = s.nextTrans + 1 := wrap_in _ (by have := hrt.bd.nt; omega)
    have ho := hrt.bd.o
    have hr3 : 1 ≤ roomMax := by unfold roomMax; omega
    have hr4 : 40 ≤ roomMax := by unfold roomMax; omega
    have hvd : one vV = true ∧ ∀ (rs' : List Ob) (nx : Nat), (0 < s.vers.length → rs'[1]? = rs[1]?) → (dr 4 vV).run ⟨[], rs', nx⟩ = some (roV' s.vers) := by
      rcases g2 with ⟨rfl, h⟩ | ⟨uV, rfl, hp, h⟩
      · exact ⟨rfl, fun rs' nx _ => by rw [h]; rfl⟩
      · exact ⟨rfl, fun rs' nx he => dr_pl plain_ver 1 uV 4 s.vers ((he hp).trans h)⟩
    have fin14 : ∀ (rs' : List Ob) (nx : Nat) (oV : AV), rs'[0]? = rs[0]? → (0 < s.vers.length → rs'[1]? = rs[1]?) → (dr 4 oV).run ⟨[], rs', nx⟩ = some (roTr (s.opn ++ [⟨s.nextTrans, s.last, []⟩])) →
        (dr 6 (.tup [.agg [.own 0 uC 0 s.cols.length, vV, .i s.last, .i s.nextRow, .i (s.nextTrans + 1), .i s.swept, oV], .i s.nextTrans, .i 0])).run ⟨[], rs', nx⟩ = some (.tup [.agg ({ s with opn := s.opn ++ [⟨s.nextTrans, s.last, []⟩], nextTrans := s.nextTrans + 1 } : Sto).e, .i s.nextTrans, .i 0]) := fun rs' nx oV a1 a2 a3 =>
      dr_tup3 (dr_sto (s := { s with opn := s.opn ++ [⟨s.nextTrans, s.last, []⟩], nextTrans := s.nextTrans + 1 }) (dr_pl plain_col 0 uC 2 s.cols (a1.trans g1)) (hvd.2 rs' nx a2) a3)
    have hrs0 : 0 < rs.length := (List.getElem?_eq_some_iff.1 g1).1
    rcases g3 with ⟨rfl, g3⟩ | ⟨ro, uo, cs, rfl, g0, gr, gr1, hC⟩
    · have hlast : 0 < s.vers.length → 1 < rs.length := fun h => by
        rcases g2 with ⟨_, g2⟩ | ⟨uV, _, _, g2⟩
        · rw [g2] at h; simp at h
        · exact (List.getElem?_eq_some_iff.1 g2).1
      rcases g2 with ⟨rfl, g2⟩ | ⟨uV, rfl, gp, g2⟩
      · have hb : acode (run1 code ext n) n A14.code ([.agg s.e] ++ List.replicate (A14.nt - [AV.agg s.e].length) .top, ⟨[], [], 0⟩) = acode (run1 code ext n) n A14.code ([.agg s.e] ++ List.replicate (A14.nt - [AV.agg s.e].length) .top, ⟨[], [], 0⟩) := rfl
        conv at hb => rhs; simp [acode, runOps, step1, aop, wantedA, ev, put, opened, binV, binInt, binStr, app_v, Pr.run, Pr.map, Pr.bind, Pr.mapP, loadA, storeA, cellsVal, Pr.ofOption, cells, fillA, splice, nz, dr, cln, flat, one, bnd, slA, items, appA, Hp.get, Hp.app, Hp.set, eqAll, eq1, lookA, resA, rvA, fin, AV.i, AV.b, AV.s, beq_int, bne_int, emp_is, emp_iff, runD, step2, clash, apartFP, Pr.log, A14, Sto.e, h1, h2, eq20, q2, q3, w1, hr3, hr4]
        rw [hb]
        simp [fin, A14, resA, rvA, loadA, Pr.run, Hp.get, cellsVal, Pr.ofOption]
        refine fin14 _ _ _ (List.getElem?_append_left hrs0) (fun h => List.getElem?_append_left (hlast h)) ?_
        rw [g3]
        exact dr_oc (cs := [[.i s.nextTrans, .i s.last, .nils]]) (ts := [⟨s.nextTrans, s.last, []⟩]) (oc_app (cs := []) (ts := []) ⟨rfl, fun j c h => by simp at h⟩ _ _) (by simp [Hp.get]; rfl) rfl
      · have hb : acode (run1 code ext n) n A14.code ([.agg s.e] ++ List.replicate (A14.nt - [AV.agg s.e].length) .top, ⟨[], [], 0⟩) = acode (run1 code ext n) n A14.code ([.agg s.e] ++ List.replicate (A14.nt - [AV.agg s.e].length) .top, ⟨[], [], 0⟩) := rfl
        conv at hb => rhs; simp [acode, runOps, step1, aop, wantedA, ev, put, opened, binV, binInt, binStr, app_v, Pr.run, Pr.map, Pr.bind, Pr.mapP, loadA, storeA, cellsVal, Pr.ofOption, cells, fillA, splice, nz, dr, cln, flat, one, bnd, slA, items, appA, Hp.get, Hp.app, Hp.set, eqAll, eq1, lookA, resA, rvA, fin, AV.i, AV.b, AV.s, beq_int, bne_int, emp_is, emp_iff, runD, step2, clash, apartFP, Pr.log, A14, Sto.e, h1, h2, eq20, q2, q3, w1, hr3, hr4]
        rw [hb]
        simp [fin, A14, resA, rvA, loadA, Pr.run, Hp.get, cellsVal, Pr.ofOption]
        refine fin14 _ _ _ (List.getElem?_append_left hrs0) (fun h => List.getElem?_append_left (hlast h)) ?_
        rw [g3]
        exact dr_oc (cs := [[.i s.nextTrans, .i s.last, .nils]]) (ts := [⟨s.nextTrans, s.last, []⟩]) (oc_app (cs := []) (ts := []) ⟨rfl, fun j c h => by simp at h⟩ _ _) (by simp [Hp.get]; rfl) rfl
    · obtain ⟨hrl, hr'⟩ := List.getElem?_eq_some_iff.1 hC.row
      have hlen := hC.len
      have hno : ¬ (s.opn.length + 1 ≤ cs.length) := by omega
      have hle : s.opn.length ≤ cs.length := by omega
      have htk : cs.take s.opn.length = cs := by rw [← hlen, List.take_length]
      have r5 : s.opn.length + 1 ≤ roomMax := by unfold roomMax; omega
      have r6 : (s.opn.length + 1) * 40 ≤ roomMax := by unfold roomMax; omega
      rcases g2 with ⟨rfl, g2⟩ | ⟨uV, rfl, gp, g2⟩
      · have hb : acode (run1 code ext n) n A14.code ([.agg s.e] ++ List.replicate (A14.nt - [AV.agg s.e].length) .top, ⟨[], [], 0⟩) = acode (run1 code ext n) n A14.code ([.agg s.e] ++ List.replicate (A14.nt - [AV.agg s.e].length) .top, ⟨[], [], 0⟩) := rfl
        conv at hb => rhs; simp [acode, runOps, step1, aop, wantedA, ev, put, opened, binV, binInt, binStr, app_v, Pr.run, Pr.map, Pr.bind, Pr.mapP, loadA, storeA, cellsVal, Pr.ofOption, cells, fillA, splice, nz, dr, cln, flat, one, bnd, slA, items, appA, Hp.get, Hp.app, Hp.set, eqAll, eq1, lookA, resA, rvA, fin, AV.i, AV.b, AV.s, beq_int, bne_int, emp_is, emp_iff, runD, step2, clash, apartFP, Pr.log, A14, Sto.e, h1, h2, eq20, q2, q3, w1, hrl, hr', hno, hle, htk, r5, r6]
        rw [hb]
        simp [fin, A14, resA, rvA, loadA, Pr.run, Hp.get, cellsVal, Pr.ofOption]
        refine fin14 _ _ _ (List.getElem?_set_ne (by omega)) (fun h => List.getElem?_set_ne (fun e => gr1 h e)) ?_
        have hd := dr_oc (ts := s.opn ++ [⟨s.nextTrans, s.last, []⟩]) (xs := cs ++ [[.i s.nextTrans, .i s.last, .nils]]) (ro := ro) (uo := nx' + 3 + 7) (h := ⟨[], rs.set ro (.row (nx' + 3 + 7) 3 (cs ++ [[.i s.nextTrans, .i s.last, .nils]])), nx' + 3 + 10 + 5 + 5⟩) (oc_app (oc_set hC) s.nextTrans s.last) (by simp [Hp.get, hrl]) (List.take_of_length_le (by simp; omega))
        simpa using hd
      · have hb : acode (run1 code ext n) n A14.code ([.agg s.e] ++ List.replicate (A14.nt - [AV.agg s.e].length) .top, ⟨[], [], 0⟩) = acode (run1 code ext n) n A14.code ([.agg s.e] ++ List.replicate (A14.nt - [AV.agg s.e].length) .top, ⟨[], [], 0⟩) := rfl
        conv at hb => rhs; simp [acode, runOps, step1, aop, wantedA, ev, put, opened, binV, binInt, binStr, app_v, Pr.run, Pr.map, Pr.bind, Pr.mapP, loadA, storeA, cellsVal, Pr.ofOption, cells, fillA, splice, nz, dr, cln, flat, one, bnd, slA, items, appA, Hp.get, Hp.app, Hp.set, eqAll, eq1, lookA, resA, rvA, fin, AV.i, AV.b, AV.s, beq_int, bne_int, emp_is, emp_iff, runD, step2, clash, apartFP, Pr.log, A14, Sto.e, h1, h2, eq20, q2, q3, w1, hrl, hr', hno, hle, htk, r5, r6]
        rw [hb]
        simp [fin, A14, resA, rvA, loadA, Pr.run, Hp.get, cellsVal, Pr.ofOption]
        refine fin14 _ _ _ (List.getElem?_set_ne (by omega)) (fun h => List.getElem?_set_ne (fun e => gr1 h e)) ?_
        have hd := dr_oc (ts := s.opn ++ [⟨s.nextTrans, s.last, []⟩]) (xs := cs ++ [[.i s.nextTrans, .i s.last, .nils]]) (ro := ro) (uo := nx' + 3 + 7) (h := ⟨[], rs.set ro (.row (nx' + 3 + 7) 3 (cs ++ [[.i s.nextTrans, .i s.last, .nils]])), nx' + 3 + 10 + 5 + 5⟩) (oc_app (oc_set hC) s.nextTrans s.last) (by simp [Hp.get, hrl]) (List.take_of_length_le (by simp; omega))
        simpa using hd
end Go.Pv

namespace Go.Pv
open Go
set_option maxRecDepth 100000
set_option maxHeartbeats 8000000

theorem oc_plain (h : Hp) (ts : List Tr) : OCr h (ts.map Tr.e) ts :=
  ⟨by simp, fun j c hj => by
    rw [List.getElem?_map, Option.map_eq_some_iff] at hj
    obtain ⟨t, h1, rfl⟩ := hj
    exact ⟨t, h1, by rw [plain_tr 2 t]; rfl⟩⟩

theorem e15 (s : Sto) (hw : Wf s) : Is code ext 9 15 [.agg s.e] (.tup [.agg (beginS s).e, .i (beginN s), .i (beginF s)]) := by
  refine Is.step code ext c15 fun n hn => ?_
  have h1 : isoOf (run1 code ext n) 12 [.agg s.e] = some (.i (ckStore s)) := e12' s hw n (by omega)
  simp only [Sto.e] at h1
  refine begin_cases s _ ?_ ?_ ?_ ?_
  · intro q1 r1 r2 r3
    rw [r1, r2, r3]
    simp [A15, acode, runOps, step1, aop, wantedA, ev, put, opened, binV, binInt, binStr, app_v, Pr.run, Pr.map, Pr.bind, Pr.mapP, loadA, storeA, cellsVal, Pr.ofOption, cells, fillA, splice, nz, dr, cln, flat, one, bnd, slA, items, appA, Hp.get, Hp.app, Hp.set, eqAll, eq1, lookA, resA, rvA, fin, AV.i, AV.b, AV.s, beq_int, bne_int, emp_is, emp_iff, runD, step2, clash, apartFP, Pr.log, Sto.e, h1, q1, emptySto]
  · intro q1 q2 r1 r2 r3
    rw [q1] at h1
    rw [r1, r2, r3]
    simp [A15, acode, runOps, step1, aop, wantedA, ev, put, opened, binV, binInt, binStr, app_v, Pr.run, Pr.map, Pr.bind, Pr.mapP, loadA, storeA, cellsVal, Pr.ofOption, cells, fillA, splice, nz, dr, cln, flat, one, bnd, slA, items, appA, Hp.get, Hp.app, Hp.set, eqAll, eq1, lookA, resA, rvA, fin, AV.i, AV.b, AV.s, beq_int, bne_int, emp_is, emp_iff, runD, step2, clash, apartFP, Pr.log, Sto.e, h1, eq20, q2, emptySto]
  · intro q1 q2 q3 r1 r2 r3
    rw [q1] at h1
    rw [r1, r2, r3]
    simp [A15, acode, runOps, step1, aop, wantedA, ev, put, opened, binV, binInt, binStr, app_v, Pr.run, Pr.map, Pr.bind, Pr.mapP, loadA, storeA, cellsVal, Pr.ofOption, cells, fillA, splice, nz, dr, cln, flat, one, bnd, slA, items, appA, Hp.get, Hp.app, Hp.set, eqAll, eq1, lookA, resA, rvA, fin, AV.i, AV.b, AV.s, beq_int, bne_int, emp_is, emp_iff, runD, step2, clash, apartFP, Pr.log, Sto.e, h1, eq20, q2, q3, emptySto]
  · intro q1 q2 q3 r1 r2 r3
    have hrt := rt_of hw q1
    rw [q1] at h1
    rw [r1, r2, r3]
    have w1 : IntKind.i64.wrap (s.nextTrans + 1) = s.nextTrans + 1 := wrap_in _ (by have := hrt.bd.nt; omega)
    have w2 : IntKind.i64.wrap s.nextTrans = s.nextTrans := wrap_in _ (by have := hrt.bd.nt; omega)
    have ho := hrt.bd.o
    have hr3 : 1 ≤ roomMax := by unfold roomMax; omega
    have hr4 : 40 ≤ roomMax := by unfold roomMax; omega
    have r3 : s.opn.length ≤ roomMax := by unfold roomMax; omega
    have r4 : s.opn.length * 40 ≤ roomMax := by unfold roomMax; omega
    have r5 : s.opn.length + 1 ≤ roomMax := by unfold roomMax; omega
    have r6 : (s.opn.length + 1) * 40 ≤ roomMax := by unfold roomMax; omega
    have hno : ¬ (s.opn.length + 1 ≤ s.opn.length) := by omega
    have tk := tk_all Tr.e s.opn
    have fin15 : ∀ (h : Hp) (oV : AV), (dr 4 oV).run h = some (roTr (s.opn ++ [⟨s.nextTrans, s.last, []⟩])) →
        (dr 6 (.tup [.agg [roC s.cols, roV' s.vers, .i s.last, .i s.nextRow, .i (s.nextTrans + 1), .i s.swept, oV], .i s.nextTrans, .i 0])).run h = some (.tup [.agg ({ s with opn := s.opn ++ [⟨s.nextTrans, s.last, []⟩], nextTrans := s.nextTrans + 1 } : Sto).e, .i s.nextTrans, .i 0]) := fun h oV a3 =>
      dr_tup3 (dr_sto (s := { s with opn := s.opn ++ [⟨s.nextTrans, s.last, []⟩], nextTrans := s.nextTrans + 1 }) rfl rfl a3)
    rcases Nat.eq_zero_or_pos s.opn.length with h0 | h0
    · have g3 := List.length_eq_zero_iff.1 h0
      have g4 : (s.opn.map Tr.e).length = 0 := by rw [g3]; rfl
      have g5 : s.opn.map Tr.e = [] := by rw [g3]; rfl
      rw [g3] at h1 q2
      simp only [List.map_nil, List.length_nil] at h1 q2
      have q2' : ((0 : Int) = 20) = False := by simp
      have hb : acode (run1 code ext n) n A15.code ([.agg s.e] ++ List.replicate (A15.nt - [AV.agg s.e].length) .top, ⟨[], [], 0⟩) = acode (run1 code ext n) n A15.code ([.agg s.e] ++ List.replicate (A15.nt - [AV.agg s.e].length) .top, ⟨[], [], 0⟩) := rfl
      conv at hb => rhs; simp [acode, runOps, step1, aop, wantedA, ev, put, opened, binV, binInt, binStr, app_v, Pr.run, Pr.map, Pr.bind, Pr.mapP, loadA, storeA, cellsVal, Pr.ofOption, cells, fillA, splice, nz, dr, cln, flat, one, bnd, slA, items, appA, Hp.get, Hp.app, Hp.set, eqAll, eq1, lookA, resA, rvA, fin, AV.i, AV.b, AV.s, beq_int, bne_int, emp_is, emp_iff, runD, step2, clash, apartFP, Pr.log, A15, Sto.e, h1, g3, q3, w1, w2, hr3, hr4]
      rw [hb]
      simp [fin, A15, resA, rvA, loadA, Pr.run, Hp.get, cellsVal, Pr.ofOption]
      refine fin15 _ _ ?_
      rw [g3]
      exact dr_oc (cs := [[.i s.nextTrans, .i s.last, .nils]]) (ts := [⟨s.nextTrans, s.last, []⟩]) (oc_app (cs := []) (ts := []) ⟨rfl, fun j c h => by simp at h⟩ _ _) (by simp [Hp.get]; rfl) rfl
    · have h0' : ¬ s.opn = [] := fun h => by rw [h] at h0; simp at h0
      have hb : acode (run1 code ext n) n A15.code ([.agg s.e] ++ List.replicate (A15.nt - [AV.agg s.e].length) .top, ⟨[], [], 0⟩) = acode (run1 code ext n) n A15.code ([.agg s.e] ++ List.replicate (A15.nt - [AV.agg s.e].length) .top, ⟨[], [], 0⟩) := rfl
      conv at hb => rhs; simp [acode, runOps, step1, aop, wantedA, ev, put, opened, binV, binInt, binStr, app_v, Pr.run, Pr.map, Pr.bind, Pr.mapP, loadA, storeA, cellsVal, Pr.ofOption, cells, fillA, splice, nz, dr, cln, flat, one, bnd, slA, items, appA, Hp.get, Hp.app, Hp.set, eqAll, eq1, lookA, resA, rvA, fin, AV.i, AV.b, AV.s, beq_int, bne_int, emp_is, emp_iff, runD, step2, clash, apartFP, Pr.log, A15, Sto.e, h1, eq20, q2, q3, w1, w2, h0', r3, r4, r5, r6, hno, tk, Tr.e]
      rw [hb]
      simp [fin, A15, resA, rvA, loadA, Pr.run, Hp.get, cellsVal, Pr.ofOption]
      refine fin15 _ _ ?_
      have hd := dr_oc (ts := s.opn ++ [⟨s.nextTrans, s.last, []⟩]) (xs := s.opn.map Tr.e ++ [[.i s.nextTrans, .i s.last, .nils]]) (ro := 0) (uo := 29) (h := ⟨[], [.row 29 3 (s.opn.map Tr.e ++ [[.i s.nextTrans, .i s.last, .nils]])], 44⟩) (oc_app (oc_plain _ s.opn) s.nextTrans s.last) (by simp [Hp.get]) (List.take_of_length_le (by simp))
      simpa using hd

def abortS (s : Sto) (id : Int) : Sto := if ckStore s ≠ 0 then emptySto else match idxS s.opn id with
  | none => emptySto
  | some k => { s with opn := s.opn.eraseIdx k }
def abortF (s : Sto) (id : Int) : Int := if ckStore s ≠ 0 then ckStore s else match idxS s.opn id with
  | none => 6
  | some _ => 0
def foundK (s : Sto) (id : Int) : Int := if ckStore s ≠ 0 then 0 else match idxS s.opn id with
  | none => 0
  | some k => k

theorem abort_cases (s : Sto) (id : Int) (p : Prop) (h1 : ckStore s ≠ 0 → abortS s id = emptySto → abortF s id = ckStore s → foundK s id = 0 → p) (h2 : ckStore s = 0 → idxI s.opn id = -1 → abortS s id = emptySto → abortF s id = 6 → foundK s id = 0 → p)
    (h3 : ∀ k : Nat, ckStore s = 0 → idxI s.opn id = k → k < s.opn.length → abortS s id = { s with opn := s.opn.eraseIdx k } → abortF s id = 0 → foundK s id = k → p) : p := by
  by_cases q1 : ckStore s = 0
  · rcases idxFrom_zero s.opn id with ⟨_, p1, p2⟩ | ⟨k, _, p1, p2, p3⟩
    · exact h2 q1 p1 (by simp [abortS, q1, p2]) (by simp [abortF, q1, p2]) (by simp [foundK, q1, p2])
    · exact h3 k q1 p1 p3 (by simp [abortS, q1, p2]) (by simp [abortF, q1, p2]) (by simp [foundK, q1, p2])
  · exact h1 q1 (by simp [abortS, q1]) (by simp [abortF, q1]) (by simp [foundK, q1])

theorem e52 (s : Sto) (hw : Wf s) (id : Int) : Is code ext 9 52 [.agg s.e, .i id] (.tup [.i (foundK s id), .i (abortF s id)]) := by
  refine Is.step code ext c52 fun n hn => ?_
  have h1 : isoOf (run1 code ext n) 11 [.agg s.e] = some (.i (ckStore s)) := e11 s hw n (by omega)
  simp only [Sto.e] at h1
  refine abort_cases s id _ ?_ ?_ ?_
  · intro q1 r1 r2 r3
    rw [r2, r3]
    simp [A52, acode, runOps, step1, aop, wantedA, ev, put, opened, binV, binInt, binStr, app_v, Pr.run, Pr.map, Pr.bind, Pr.mapP, loadA, storeA, cellsVal, Pr.ofOption, cells, fillA, splice, nz, dr, cln, flat, one, bnd, slA, items, appA, Hp.get, Hp.app, Hp.set, eqAll, eq1, lookA, resA, rvA, fin, AV.i, AV.b, AV.s, beq_int, bne_int, emp_is, emp_iff, runD, step2, clash, apartFP, Pr.log, Sto.e, h1, q1]
  · intro q1 q2 r1 r2 r3
    have hrt := rt_of hw q1
    have h2 := e94 s id (by have := hrt.bd.o; omega) n (by omega)
    rw [q2] at h2
    rw [q1] at h1
    simp only [Sto.e] at h2
    rw [r2, r3]
    simp [A52, acode, runOps, step1, aop, wantedA, ev, put, opened, binV, binInt, binStr, app_v, Pr.run, Pr.map, Pr.bind, Pr.mapP, loadA, storeA, cellsVal, Pr.ofOption, cells, fillA, splice, nz, dr, cln, flat, one, bnd, slA, items, appA, Hp.get, Hp.app, Hp.set, eqAll, eq1, lookA, resA, rvA, fin, AV.i, AV.b, AV.s, beq_int, bne_int, emp_is, emp_iff, runD, step2, clash, apartFP, Pr.log, Sto.e, h1, h2]
  · intro k q1 q2 q3 r1 r2 r3
    have hrt := rt_of hw q1
    have h2 := e94 s id (by have := hrt.bd.o; omega) n (by omega)
    rw [q2] at h2
    rw [q1] at h1
    simp only [Sto.e] at h2
    rw [r2, r3]
    have hk : ¬ ((k : Int) < 0) := by omega
    simp [A52, acode, runOps, step1, aop, wantedA, ev, put, opened, binV, binInt, binStr, app_v, Pr.run, Pr.map, Pr.bind, Pr.mapP, loadA, storeA, cellsVal, Pr.ofOption, cells, fillA, splice, nz, dr, cln, flat, one, bnd, slA, items, appA, Hp.get, Hp.app, Hp.set, eqAll, eq1, lookA, resA, rvA, fin, AV.i, AV.b, AV.s, beq_int, bne_int, emp_is, emp_iff, runD, step2, clash, apartFP, Pr.log, Sto.e, h1, h2, hk]

theorem e17 (s : Sto) (hw : Wf s) (id : Int) : Is code ext 9 17 [.agg s.e, .i id] (.tup [.agg (abortS s id).e, .i (abortF s id)]) := by
  refine Is.step code ext c17 fun n hn => ?_
  have h1 : isoOf (run1 code ext n) 12 [.agg s.e] = some (.i (ckStore s)) := e12' s hw n (by omega)
  simp only [Sto.e] at h1
  refine abort_cases s id _ ?_ ?_ ?_
  · intro q1 r1 r2 r3
    rw [r1, r2]
    simp [A17, acode, runOps, step1, aop, wantedA, ev, put, opened, binV, binInt, binStr, app_v, Pr.run, Pr.map, Pr.bind, Pr.mapP, loadA, storeA, cellsVal, Pr.ofOption, cells, fillA, splice, nz, dr, cln, flat, one, bnd, slA, items, appA, Hp.get, Hp.app, Hp.set, eqAll, eq1, lookA, resA, rvA, fin, AV.i, AV.b, AV.s, beq_int, bne_int, emp_is, emp_iff, runD, step2, clash, apartFP, Pr.log, Sto.e, h1, q1, emptySto]
  · intro q1 q2 r1 r2 r3
    have hrt := rt_of hw q1
    have h2 := e54 s id (by have := hrt.bd.o; omega) n (by omega)
    rw [q2] at h2
    rw [q1] at h1
    simp only [Sto.e] at h2
    rw [r1, r2]
    simp [A17, acode, runOps, step1, aop, wantedA, ev, put, opened, binV, binInt, binStr, app_v, Pr.run, Pr.map, Pr.bind, Pr.mapP, loadA, storeA, cellsVal, Pr.ofOption, cells, fillA, splice, nz, dr, cln, flat, one, bnd, slA, items, appA, Hp.get, Hp.app, Hp.set, eqAll, eq1, lookA, resA, rvA, fin, AV.i, AV.b, AV.s, beq_int, bne_int, emp_is, emp_iff, runD, step2, clash, apartFP, Pr.log, Sto.e, h1, h2, emptySto]
  · intro k q1 q2 q3 r1 r2 r3
    have hrt := rt_of hw q1
    have h2 := e54 s id (by have := hrt.bd.o; omega) n (by omega)
    have h3 := e55 s k q3 hrt.bd.o n (by omega)
    rw [q2] at h2
    rw [q1] at h1
    simp only [Sto.e] at h2 h3
    rw [r1, r2]
    have hk : ¬ ((k : Int) < 0) := by omega
    simp [A17, acode, runOps, step1, aop, wantedA, ev, put, opened, binV, binInt, binStr, app_v, Pr.run, Pr.map, Pr.bind, Pr.mapP, loadA, storeA, cellsVal, Pr.ofOption, cells, fillA, splice, nz, dr, cln, flat, one, bnd, slA, items, appA, Hp.get, Hp.app, Hp.set, eqAll, eq1, lookA, resA, rvA, fin, AV.i, AV.b, AV.s, beq_int, bne_int, emp_is, emp_iff, runD, step2, clash, apartFP, Pr.log, Sto.e, h1, h2, h3, hk]

theorem oc_erase {h : Hp} {cs : List (List AV)} {ts : List Tr} (hc : OCr h cs ts) (k : Nat) : OCr h (cs.eraseIdx k) (ts.eraseIdx k) := by
  refine ⟨by rw [List.length_eraseIdx, List.length_eraseIdx, hc.1], fun j c hj => ?_⟩
  rw [List.getElem?_eraseIdx] at hj
  split at hj
  · obtain ⟨t, h1, h2⟩ := hc.2 j c hj
    exact ⟨t, by rw [List.getElem?_eraseIdx, if_pos (by assumption)]; exact h1, h2⟩
  · obtain ⟨t, h1, h2⟩ := hc.2 (j + 1) c hj
    exact ⟨t, by rw [List.getElem?_eraseIdx, if_neg (by assumption)]; exact h1, h2⟩

theorem ci_all {ts : List Tr} {ro uo : Nat} {rs0 rs : List Ob} {cs : List (List AV)} (hC : CI ts ro uo rs0 rs cs ts.length) : cs.all (fun c => c.length == 3 && c.all one) = true := by
  rw [List.all_eq_true]
  intro c hc
  obtain ⟨j, hj, rfl⟩ := List.mem_iff_getElem.1 hc
  have hjl : j < ts.length := by rw [← hC.len]; exact hj
  obtain ⟨a, h1, h2⟩ := hC.done j ts[j] hjl (List.getElem?_eq_getElem hjl)
  rw [List.getElem?_eq_getElem hj] at h1
  have h1 := Option.some.inj h1
  rw [h1]
  rcases h2 with ⟨rfl, _⟩ | ⟨r, u, _, rfl, _⟩ <;> simp [one]

theorem e16 (s : Sto) (hw : Wf s) (id : Int) : Is code ext 10 16 [.agg s.e, .i id] (.tup [.agg (abortS s id).e, .i (abortF s id)]) := by
  refine Is.step code ext c16 fun n hn => ?_
  have h1 := e52 s hw id n (by omega)
  simp only [Sto.e] at h1
  refine abort_cases s id _ ?_ ?_ ?_
  · intro q1 r1 r2 r3
    rw [r2, r3] at h1
    rw [r1, r2]
    simp [A16, acode, runOps, step1, aop, wantedA, ev, put, opened, binV, binInt, binStr, app_v, Pr.run, Pr.map, Pr.bind, Pr.mapP, loadA, storeA, cellsVal, Pr.ofOption, cells, fillA, splice, nz, dr, cln, flat, one, bnd, slA, items, appA, Hp.get, Hp.app, Hp.set, eqAll, eq1, lookA, resA, rvA, fin, AV.i, AV.b, AV.s, beq_int, bne_int, emp_is, emp_iff, runD, step2, clash, apartFP, Pr.log, Sto.e, h1, q1, emptySto]
  · intro q1 q2 r1 r2 r3
    rw [r2, r3] at h1
    rw [r1, r2]
    simp [A16, acode, runOps, step1, aop, wantedA, ev, put, opened, binV, binInt, binStr, app_v, Pr.run, Pr.map, Pr.bind, Pr.mapP, loadA, storeA, cellsVal, Pr.ofOption, cells, fillA, splice, nz, dr, cln, flat, one, bnd, slA, items, appA, Hp.get, Hp.app, Hp.set, eqAll, eq1, lookA, resA, rvA, fin, AV.i, AV.b, AV.s, beq_int, bne_int, emp_is, emp_iff, runD, step2, clash, apartFP, Pr.log, Sto.e, h1, emptySto]
  · intro k q1 q2 q3 r1 r2 r3
    have hrt := rt_of hw q1
    rw [r2, r3] at h1
    rw [r1, r2]
    obtain ⟨v, rs, nx', h2, uC, vV, oV, rfl, g1, g2, g3⟩ := e51 s hrt n (by omega) 16
    simp only [Sto.e] at h2
    have ho := hrt.bd.o
    have w1 : IntKind.i64.wrap ((k : Int) + 1) = (k : Int) + 1 := wrap_in _ (by omega)
    have hvd : one vV = true ∧ ∀ (rs' : List Ob) (nx : Nat), (0 < s.vers.length → rs'[1]? = rs[1]?) → (dr 4 vV).run ⟨[], rs', nx⟩ = some (roV' s.vers) := by
      rcases g2 with ⟨rfl, h⟩ | ⟨uV, rfl, hp, h⟩
      · exact ⟨rfl, fun rs' nx _ => by rw [h]; rfl⟩
      · exact ⟨rfl, fun rs' nx he => dr_pl plain_ver 1 uV 4 s.vers ((he hp).trans h)⟩
    rcases g3 with ⟨rfl, g3⟩ | ⟨ro, uo, cs, rfl, g0, gr, gr1, hC⟩
    · rw [g3] at q3; simp at q3
    have hlen := hC.len
    obtain ⟨v3, rs3, nx3, h3, rfl, xs', rfl, hx⟩ := e53 cs (ci_all hC) k (by omega) (by omega) ro uo rs hC.row n (by omega) (nx' + 8)
    rw [hlen] at h3 hx
    obtain ⟨hrl, _⟩ := List.getElem?_eq_some_iff.1 hC.row
    have he : (s.opn.eraseIdx k).length = s.opn.length - 1 := List.length_eraseIdx_of_lt q3
    have fin16 : ∀ (nx : Nat), (dr 6 (.tup [.agg [.own 0 uC 0 s.cols.length, vV, .i s.last, .i s.nextRow, .i s.nextTrans, .i s.swept, .own ro uo 0 (s.opn.length - 1)], .i 0])).run ⟨[], rs.set ro (.row uo 3 xs'), nx⟩ = some (.tup [.agg ({ s with opn := s.opn.eraseIdx k } : Sto).e, .i 0]) := fun nx => by
      refine dr_tup2 (dr_sto (s := { s with opn := s.opn.eraseIdx k }) (dr_pl plain_col 0 uC 2 s.cols ((List.getElem?_set_ne (by omega)).trans g1)) (hvd.2 _ nx (fun h => List.getElem?_set_ne (fun e => gr1 h e))) ?_)
      rw [← he]
      exact dr_oc (oc_erase (oc_set hC) k) (by simp [Hp.get, hrl]; rfl) (by rw [he]; exact hx)
    rcases g2 with ⟨rfl, g2⟩ | ⟨uV, rfl, gp, g2⟩
    · have hb : acode (run1 code ext n) n A16.code ([.agg s.e, .i id] ++ List.replicate (A16.nt - [AV.agg s.e, .i id].length) .top, ⟨[], [], 0⟩) = acode (run1 code ext n) n A16.code ([.agg s.e, .i id] ++ List.replicate (A16.nt - [AV.agg s.e, .i id].length) .top, ⟨[], [], 0⟩) := rfl
      conv at hb => rhs; simp [acode, runOps, step1, aop, wantedA, ev, put, opened, binV, binInt, binStr, app_v, Pr.run, Pr.map, Pr.bind, Pr.mapP, loadA, storeA, cellsVal, Pr.ofOption, cells, fillA, splice, nz, dr, cln, flat, one, bnd, slA, items, appA, Hp.get, Hp.app, Hp.set, eqAll, eq1, lookA, resA, rvA, fin, AV.i, AV.b, AV.s, beq_int, bne_int, emp_is, emp_iff, runD, step2, clash, apartFP, Pr.log, A16, Sto.e, h1, h2, h3, w1, hlen]
      rw [hb]
      simp [fin, A16, resA, rvA, loadA, Pr.run, Hp.get, cellsVal, Pr.ofOption]
      exact fin16 _
    · have hb : acode (run1 code ext n) n A16.code ([.agg s.e, .i id] ++ List.replicate (A16.nt - [AV.agg s.e, .i id].length) .top, ⟨[], [], 0⟩) = acode (run1 code ext n) n A16.code ([.agg s.e, .i id] ++ List.replicate (A16.nt - [AV.agg s.e, .i id].length) .top, ⟨[], [], 0⟩) := rfl
      conv at hb => rhs; simp [acode, runOps, step1, aop, wantedA, ev, put, opened, binV, binInt, binStr, app_v, Pr.run, Pr.map, Pr.bind, Pr.mapP, loadA, storeA, cellsVal, Pr.ofOption, cells, fillA, splice, nz, dr, cln, flat, one, bnd, slA, items, appA, Hp.get, Hp.app, Hp.set, eqAll, eq1, lookA, resA, rvA, fin, AV.i, AV.b, AV.s, beq_int, bne_int, emp_is, emp_iff, runD, step2, clash, apartFP, Pr.log, A16, Sto.e, h1, h2, h3, w1, hlen]
      rw [hb]
      simp [fin, A16, resA, rvA, loadA, Pr.run, Hp.get, cellsVal, Pr.ofOption]
      exact fin16 _
end Go.Pv
