/-
  What functions come to: names, values, rows, columns. Conditions: none.
-/
import Derived.Test.YthncjbjlnligaaaPvH
set_option linter.unusedVariables false
set_option linter.unusedSimpArgs false
namespace Go.Pv
open Go
set_option maxRecDepth 100000
set_option maxHeartbeats 4000000

theorem e44 (a b c : Int) : Is code ext 1 44 [.i a, .i b, .i c] (.b (inB a b c)) := by
  refine Is.step code ext c44 fun n hn => ?_
  by_cases h : b ≤ a <;> simp [A44, acode, runOps, step1, aop, wantedA, ev, put, opened, binV, binInt, binStr, app_v, Pr.run, Pr.map, Pr.bind, Pr.mapP, loadA, storeA, cellsVal, Pr.ofOption, cells, fillA, splice, nz, dr, cln, flat, one, bnd, slA, items, appA, Hp.get, Hp.app, Hp.set, eqAll, eq1, lookA, resA, rvA, fin, AV.i, AV.b, AV.s, beq_int, bne_int, emp_is, emp_iff, runD, step2, clash, apartFP, Pr.log, inB, h]
theorem e47 (a b c : Int) : Is code ext 1 47 [.i a, .i b, .i c] (.b (inB a b c)) := by
  refine Is.step code ext c47 fun n hn => ?_
  by_cases h : b ≤ a <;> simp [A47, acode, runOps, step1, aop, wantedA, ev, put, opened, binV, binInt, binStr, app_v, Pr.run, Pr.map, Pr.bind, Pr.mapP, loadA, storeA, cellsVal, Pr.ofOption, cells, fillA, splice, nz, dr, cln, flat, one, bnd, slA, items, appA, Hp.get, Hp.app, Hp.set, eqAll, eq1, lookA, resA, rvA, fin, AV.i, AV.b, AV.s, beq_int, bne_int, emp_is, emp_iff, runD, step2, clash, apartFP, Pr.log, inB, h]
theorem e85 (a b c : Int) : Is code ext 1 85 [.i a, .i b, .i c] (.b (inB a b c)) := by
  refine Is.step code ext c85 fun n hn => ?_
  by_cases h : b ≤ a <;> simp [A85, acode, runOps, step1, aop, wantedA, ev, put, opened, binV, binInt, binStr, app_v, Pr.run, Pr.map, Pr.bind, Pr.mapP, loadA, storeA, cellsVal, Pr.ofOption, cells, fillA, splice, nz, dr, cln, flat, one, bnd, slA, items, appA, Hp.get, Hp.app, Hp.set, eqAll, eq1, lookA, resA, rvA, fin, AV.i, AV.b, AV.s, beq_int, bne_int, emp_is, emp_iff, runD, step2, clash, apartFP, Pr.log, inB, h]
theorem e124 (a b c : Int) : Is code ext 2 124 [.i a, .i b, .i c] (.i (if inB a b c = true then 0 else 1)) := by
  refine Is.step code ext c124 fun n hn => ?_
  have h1 := e44 a b c n hn
  cases h : inB a b c <;> rw [h] at h1 <;> simp [A124, acode, runOps, step1, aop, wantedA, ev, put, opened, binV, binInt, binStr, app_v, Pr.run, Pr.map, Pr.bind, Pr.mapP, loadA, storeA, cellsVal, Pr.ofOption, cells, fillA, splice, nz, dr, cln, flat, one, bnd, slA, items, appA, Hp.get, Hp.app, Hp.set, eqAll, eq1, lookA, resA, rvA, fin, AV.i, AV.b, AV.s, beq_int, bne_int, emp_is, emp_iff, runD, step2, clash, apartFP, Pr.log, h1]
theorem e109 (v : Val) : Is code ext 1 109 [.agg v.e] (.b (v.kind == 0)) := by
  refine Is.step code ext c109 fun n hn => ?_
  simp [A109, acode, runOps, step1, aop, wantedA, ev, put, opened, binV, binInt, binStr, app_v, Pr.run, Pr.map, Pr.bind, Pr.mapP, loadA, storeA, cellsVal, Pr.ofOption, cells, fillA, splice, nz, dr, cln, flat, one, bnd, slA, items, appA, Hp.get, Hp.app, Hp.set, eqAll, eq1, lookA, resA, rvA, fin, AV.i, AV.b, AV.s, beq_int, bne_int, emp_is, emp_iff, runD, step2, clash, apartFP, Pr.log, Val.e]
end Go.Pv

namespace Go.Pv
open Go
set_option maxRecDepth 100000
set_option maxHeartbeats 4000000

/-- The ways a byte of a name may lie. -/
theorem nameB_cases (i : Nat) (b : UInt8) (p : Prop) (c : Int) (hc : (b.toNat : Int) = c)
    (h1 : c < 97 → (97 ≤ c) = False → (i = 0) = True → nameB i b = false → p) (h2 : c < 97 → (97 ≤ c) = False → i ≠ 0 → c = 95 → nameB i b = true → p) (h3 : c < 97 → (97 ≤ c) = False → i ≠ 0 → c ≠ 95 → c < 48 → nameB i b = false → p) (h4 : c < 97 → (97 ≤ c) = False → i ≠ 0 → c ≠ 95 → ¬ c < 48 → c > 57 → nameB i b = false → p) (h5 : c < 97 → (97 ≤ c) = False → i ≠ 0 → c ≠ 95 → ¬ c < 48 → ¬ c > 57 → nameB i b = true → p)
    (h6 : ¬ c < 97 → (97 ≤ c) = True → c > 122 → (c ≤ 122) = False → (i = 0) = True → nameB i b = false → p) (h7 : ¬ c < 97 → (97 ≤ c) = True → c > 122 → (c ≤ 122) = False → i ≠ 0 → c ≠ 95 → ¬ c < 48 → c > 57 → nameB i b = false → p) (h8 : ¬ c < 97 → (97 ≤ c) = True → ¬ c > 122 → (c ≤ 122) = True → nameB i b = true → p) : p := by
  subst hc
  unfold nameB at *
  by_cases a1 : (b.toNat : Int) < 97
  · have a1' : (97 ≤ (b.toNat : Int)) = False := eq_false (by omega)
    by_cases a2 : i = 0
    · exact h1 a1 a1' (eq_true a2) (by simp [a2]; omega)
    · by_cases a3 : (b.toNat : Int) = 95
      · exact h2 a1 a1' a2 a3 (by simp [a2]; omega)
      · by_cases a4 : (b.toNat : Int) < 48
        · exact h3 a1 a1' a2 a3 a4 (by simp [a2]; omega)
        · by_cases a5 : (b.toNat : Int) > 57
          · exact h4 a1 a1' a2 a3 a4 a5 (by simp [a2]; omega)
          · exact h5 a1 a1' a2 a3 a4 a5 (by simp [a2]; omega)
  · have a1' : (97 ≤ (b.toNat : Int)) = True := eq_true (by omega)
    by_cases a2 : (b.toNat : Int) > 122
    · have a2' : ((b.toNat : Int) ≤ 122) = False := eq_false (by omega)
      by_cases a3 : i = 0
      · exact h6 a1 a1' a2 a2' (eq_true a3) (by simp [a3]; omega)
      · exact h7 a1 a1' a2 a2' a3 (by omega) (by omega) (by omega) (by simp [a3]; omega)
    · have a2' : ((b.toNat : Int) ≤ 122) = True := eq_true (by omega)
      exact h8 a1 a1' a2 a2' (by simp; omega)

theorem body83 (call : Nat → List AV → Hp → Option (AV × Hp)) (n : Nat) (s : ByteArray) (bs rs : List Ob) (i nx : Nat) (b : UInt8) (hlt : i < s.size) (hg : s[i] = b) (hw : IntKind.i64.wrap ((i : Int) + 1) = ((i + 1 : Nat) : Int)) :
    ∃ F nx', (nameB i b = true ∧ acode call n A83L0 (A83H0 (.s s) (.i s.size) (.i i), ⟨bs, rs, nx⟩) = some (.nrm, (F, ⟨bs, rs, nx'⟩)) ∧ mask A83M0 F = A83H0 (.s s) (.i s.size) (.i ((i + 1 : Nat) : Int))) ∨
      (nameB i b = false ∧ acode call n A83L0 (A83H0 (.s s) (.i s.size) (.i i), ⟨bs, rs, nx⟩) = some (.ret, (F, ⟨bs, rs, nx'⟩)) ∧ F[2]? = some (.b false)) := by
  obtain ⟨c, hc⟩ : ∃ c, (b.toNat : Int) = c := ⟨_, rfl⟩
  refine nameB_cases i b _ c hc ?_ ?_ ?_ ?_ ?_ ?_ ?_ ?_
  all_goals intros
  all_goals
    have hb : acode call n A83L0 (A83H0 (.s s) (.i s.size) (.i i), ⟨bs, rs, nx⟩) = acode call n A83L0 (A83H0 (.s s) (.i s.size) (.i i), ⟨bs, rs, nx⟩) := rfl
    conv at hb => rhs; simp [acode, runOps, step1, aop, wantedA, ev, put, opened, binV, binInt, binStr, app_v, Pr.run, Pr.map, Pr.bind, Pr.mapP, loadA, storeA, cellsVal, Pr.ofOption, cells, fillA, splice, nz, dr, cln, flat, one, bnd, slA, items, appA, Hp.get, Hp.app, Hp.set, eqAll, eq1, lookA, resA, rvA, fin, AV.i, AV.b, AV.s, beq_int, bne_int, emp_is, emp_iff, runD, step2, clash, apartFP, Pr.log, A83L0, *]
  all_goals first
    | exact ⟨_, _, .inr ⟨by assumption, hb, by simp⟩⟩
    | exact ⟨_, _, .inl ⟨by assumption, hb, rfl⟩⟩

theorem loop83 (call : Nat → List AV → Hp → Option (AV × Hp)) (n : Nat) (s : ByteArray) (hs : s.size < 2 ^ 63) (bs rs : List Ob) (m i nx : Nat) (hi : i ≤ s.data.toList.length) (hm : s.data.toList.length - i < m) :
    ∃ e st, iter (acode call n A83L0) bs.length A83M0 m (A83H0 (.s s) (.i s.size) (.i i), ⟨bs, rs, nx⟩) = some (e, st) ∧ LQ 0 2 43 [] bs rs (if nameL i (s.data.toList.drop i) then none else some (.b false)) e st := by
  have hl := ba_len s
  refine loop_list (f := acode call n A83L0) (k := bs.length) (M := A83M0) s.data.toList (fun i (_ : Unit) nx => (A83H0 (.s s) (.i s.size) (.i i), ⟨bs, rs, nx⟩)) (fun _ _ => True) (fun i r _ e st => LQ 0 2 43 [] bs rs (if nameL i r then none else some (.b false)) e st) ?_ ?_ m i () nx hi hm trivial
  · intro _ nx _
    rw [hl]
    have hb : acode call n A83L0 (A83H0 (.s s) (.i s.size) (.i s.size), ⟨bs, rs, nx⟩) = acode call n A83L0 (A83H0 (.s s) (.i s.size) (.i s.size), ⟨bs, rs, nx⟩) := rfl
    conv at hb => rhs; simp [acode, runOps, step1, aop, wantedA, ev, put, opened, binV, binInt, binStr, app_v, Pr.run, Pr.map, Pr.bind, Pr.mapP, loadA, storeA, cellsVal, Pr.ofOption, cells, fillA, splice, nz, dr, cln, flat, one, bnd, slA, items, appA, Hp.get, Hp.app, Hp.set, eqAll, eq1, lookA, resA, rvA, fin, AV.i, AV.b, AV.s, beq_int, bne_int, emp_is, emp_iff, runD, step2, clash, apartFP, Pr.log, A83L0]
    exact ⟨_, _, by simp, hb, by simp [LQ, nameL]⟩
  · intro i hi b _ nx hb0 _
    have hlt : i < s.size := by omega
    obtain ⟨F, nx', ⟨h1, h2, h3⟩ | ⟨h1, h2, h3⟩⟩ := body83 call n s bs rs i nx b hlt hb0 (wrap_nat i (by omega))
    · exact .inl ⟨_, (), nx', h2, by simp [trunc, h3], trivial, fun e st h => by simpa [nameL, h1] using h⟩
    · exact .inr ⟨.ret, _, by simp, h2, by simp [LQ, nameL, h1, h3]⟩

theorem e83 (s : ByteArray) : Is code ext 1 83 [.s s] (.b (isName s)) := by
  refine Is.step code ext c83 fun n hn => ?_
  by_cases h0 : s.size = 0
  · have h0' : (s.size = 0) = True := eq_true h0
    simp [A83, acode, runOps, step1, aop, wantedA, ev, put, opened, binV, binInt, binStr, app_v, Pr.run, Pr.map, Pr.bind, Pr.mapP, loadA, storeA, cellsVal, Pr.ofOption, cells, fillA, splice, nz, dr, cln, flat, one, bnd, slA, items, appA, Hp.get, Hp.app, Hp.set, eqAll, eq1, lookA, resA, rvA, fin, AV.i, AV.b, AV.s, beq_int, bne_int, emp_is, emp_iff, runD, step2, clash, apartFP, Pr.log, h0', isName]
  · by_cases h1 : s.size ≤ 32
    · obtain ⟨e, st, h2, h3⟩ := loop83 (run1 code ext n) n s (by omega) [] [] n 0 11 (Nat.zero_le _) (by have := ba_len s; omega)
      simp only [List.drop_zero] at h3
      simp only [List.length_nil, Int.natCast_zero] at h2
      have h1' : ¬ ((32 : Int) < s.size) := by omega
      cases hq : nameL 0 s.data.toList with
      | true =>
        rw [hq] at h3
        obtain ⟨F, nx, rfl, rfl, hl, _⟩ := h3.exit
        simp [A83, acode, runOps, step1, aop, wantedA, ev, put, opened, binV, binInt, binStr, app_v, Pr.run, Pr.map, Pr.bind, Pr.mapP, loadA, storeA, cellsVal, Pr.ofOption, cells, fillA, splice, nz, dr, cln, flat, one, bnd, slA, items, appA, Hp.get, Hp.app, Hp.set, eqAll, eq1, lookA, resA, rvA, fin, AV.i, AV.b, AV.s, beq_int, bne_int, emp_is, emp_iff, runD, step2, clash, apartFP, Pr.log, h0, h1', isName, A83M0_eq, h2, hq, h1, hl]
      | false =>
        rw [hq] at h3
        obtain ⟨F, nx, rfl, rfl, hl⟩ := h3.back
        simp [A83, acode, runOps, step1, aop, wantedA, ev, put, opened, binV, binInt, binStr, app_v, Pr.run, Pr.map, Pr.bind, Pr.mapP, loadA, storeA, cellsVal, Pr.ofOption, cells, fillA, splice, nz, dr, cln, flat, one, bnd, slA, items, appA, Hp.get, Hp.app, Hp.set, eqAll, eq1, lookA, resA, rvA, fin, AV.i, AV.b, AV.s, beq_int, bne_int, emp_is, emp_iff, runD, step2, clash, apartFP, Pr.log, h0, h1', isName, A83M0_eq, h2, hq, h1, hl]
    · have h1' : (32 : Int) < s.size := by omega
      simp [A83, acode, runOps, step1, aop, wantedA, ev, put, opened, binV, binInt, binStr, app_v, Pr.run, Pr.map, Pr.bind, Pr.mapP, loadA, storeA, cellsVal, Pr.ofOption, cells, fillA, splice, nz, dr, cln, flat, one, bnd, slA, items, appA, Hp.get, Hp.app, Hp.set, eqAll, eq1, lookA, resA, rvA, fin, AV.i, AV.b, AV.s, beq_int, bne_int, emp_is, emp_iff, runD, step2, clash, apartFP, Pr.log, h0, h1', isName, h1]
theorem body84 (call : Nat → List AV → Hp → Option (AV × Hp)) (n : Nat) (s : ByteArray) (bs rs : List Ob) (i nx : Nat) (b : UInt8) (hlt : i < s.size) (hg : s[i] = b) (hw : IntKind.i64.wrap ((i : Int) + 1) = ((i + 1 : Nat) : Int)) :
    ∃ F nx', (nameB i b = true ∧ acode call n A84L0 (A84H0 (.s s) (.i i), ⟨bs, rs, nx⟩) = some (.nrm, (F, ⟨bs, rs, nx'⟩)) ∧ mask A84M0 F = A84H0 (.s s) (.i ((i + 1 : Nat) : Int))) ∨
      (nameB i b = false ∧ acode call n A84L0 (A84H0 (.s s) (.i i), ⟨bs, rs, nx⟩) = some (.ret, (F, ⟨bs, rs, nx'⟩)) ∧ F[2]? = some (.b false)) := by
  obtain ⟨c, hc⟩ : ∃ c, (b.toNat : Int) = c := ⟨_, rfl⟩
  refine nameB_cases i b _ c hc ?_ ?_ ?_ ?_ ?_ ?_ ?_ ?_
  all_goals intros
  all_goals
    have hb : acode call n A84L0 (A84H0 (.s s) (.i i), ⟨bs, rs, nx⟩) = acode call n A84L0 (A84H0 (.s s) (.i i), ⟨bs, rs, nx⟩) := rfl
    conv at hb => rhs; simp [acode, runOps, step1, aop, wantedA, ev, put, opened, binV, binInt, binStr, app_v, Pr.run, Pr.map, Pr.bind, Pr.mapP, loadA, storeA, cellsVal, Pr.ofOption, cells, fillA, splice, nz, dr, cln, flat, one, bnd, slA, items, appA, Hp.get, Hp.app, Hp.set, eqAll, eq1, lookA, resA, rvA, fin, AV.i, AV.b, AV.s, beq_int, bne_int, emp_is, emp_iff, runD, step2, clash, apartFP, Pr.log, A84L0, *]
  all_goals first
    | exact ⟨_, _, .inr ⟨by assumption, hb, by simp⟩⟩
    | exact ⟨_, _, .inl ⟨by assumption, hb, rfl⟩⟩

theorem loop84 (call : Nat → List AV → Hp → Option (AV × Hp)) (n : Nat) (s : ByteArray) (hs : s.size < 2 ^ 63) (bs rs : List Ob) (m i nx : Nat) (hi : i ≤ s.data.toList.length) (hm : s.data.toList.length - i < m) :
    ∃ e st, iter (acode call n A84L0) bs.length A84M0 m (A84H0 (.s s) (.i i), ⟨bs, rs, nx⟩) = some (e, st) ∧ LQ 0 2 52 [(0, .s s)] bs rs (if nameL i (s.data.toList.drop i) then none else some (.b false)) e st := by
  have hl := ba_len s
  refine loop_list (f := acode call n A84L0) (k := bs.length) (M := A84M0) s.data.toList (fun i (_ : Unit) nx => (A84H0 (.s s) (.i i), ⟨bs, rs, nx⟩)) (fun _ _ => True) (fun i r _ e st => LQ 0 2 52 [(0, .s s)] bs rs (if nameL i r then none else some (.b false)) e st) ?_ ?_ m i () nx hi hm trivial
  · intro _ nx _
    rw [hl]
    have hb : acode call n A84L0 (A84H0 (.s s) (.i s.size), ⟨bs, rs, nx⟩) = acode call n A84L0 (A84H0 (.s s) (.i s.size), ⟨bs, rs, nx⟩) := rfl
    conv at hb => rhs; simp [acode, runOps, step1, aop, wantedA, ev, put, opened, binV, binInt, binStr, app_v, Pr.run, Pr.map, Pr.bind, Pr.mapP, loadA, storeA, cellsVal, Pr.ofOption, cells, fillA, splice, nz, dr, cln, flat, one, bnd, slA, items, appA, Hp.get, Hp.app, Hp.set, eqAll, eq1, lookA, resA, rvA, fin, AV.i, AV.b, AV.s, beq_int, bne_int, emp_is, emp_iff, runD, step2, clash, apartFP, Pr.log, A84L0]
    exact ⟨_, _, by simp, hb, by simp [LQ, nameL]⟩
  · intro i hi b _ nx hb0 _
    have hlt : i < s.size := by omega
    obtain ⟨F, nx', ⟨h1, h2, h3⟩ | ⟨h1, h2, h3⟩⟩ := body84 call n s bs rs i nx b hlt hb0 (wrap_nat i (by omega))
    · exact .inl ⟨_, (), nx', h2, by simp [trunc, h3], trivial, fun e st h => by simpa [nameL, h1] using h⟩
    · exact .inr ⟨.ret, _, by simp, h2, by simp [LQ, nameL, h1, h3]⟩

theorem e84 (s : ByteArray) (hs : s.size < 2 ^ 63) : Is code ext 1 84 [.s s] (.b (isName s)) := by
  refine Is.step code ext c84 fun n hn => ?_
  obtain ⟨e, st, h2, h3⟩ := loop84 (run1 code ext n) n s hs [] [] n 0 2 (Nat.zero_le _) (by have := ba_len s; omega)
  simp only [List.drop_zero] at h3
  simp only [List.length_nil, Int.natCast_zero] at h2
  cases hq : nameL 0 s.data.toList with
  | true =>
    rw [hq] at h3
    obtain ⟨F, nx, rfl, rfl, hl, hk⟩ := h3.exit
    obtain ⟨_, hk0⟩ := List.getElem?_eq_some_iff.1 (hk (0, .s s) (by simp))
    simp only at hk0
    by_cases h0 : s.size = 0
    · have h0' : (s.size = 0) = True := eq_true h0
      simp [A84, acode, runOps, step1, aop, wantedA, ev, put, opened, binV, binInt, binStr, app_v, Pr.run, Pr.map, Pr.bind, Pr.mapP, loadA, storeA, cellsVal, Pr.ofOption, cells, fillA, splice, nz, dr, cln, flat, one, bnd, slA, items, appA, Hp.get, Hp.app, Hp.set, eqAll, eq1, lookA, resA, rvA, fin, AV.i, AV.b, AV.s, beq_int, bne_int, emp_is, emp_iff, runD, step2, clash, apartFP, Pr.log, h0', isName, A84M0_eq, h2, hq, hl, hk0, List.getElem?_set]
    · by_cases h1 : s.size ≤ 32
      · have h1' : ((s.size : Int) ≤ 32) = True := eq_true (by omega)
        simp [A84, acode, runOps, step1, aop, wantedA, ev, put, opened, binV, binInt, binStr, app_v, Pr.run, Pr.map, Pr.bind, Pr.mapP, loadA, storeA, cellsVal, Pr.ofOption, cells, fillA, splice, nz, dr, cln, flat, one, bnd, slA, items, appA, Hp.get, Hp.app, Hp.set, eqAll, eq1, lookA, resA, rvA, fin, AV.i, AV.b, AV.s, beq_int, bne_int, emp_is, emp_iff, runD, step2, clash, apartFP, Pr.log, h0, h1', h1, isName, A84M0_eq, h2, hq, hl, hk0, List.getElem?_set]
      · have h1' : ((s.size : Int) ≤ 32) = False := eq_false (by omega)
        simp [A84, acode, runOps, step1, aop, wantedA, ev, put, opened, binV, binInt, binStr, app_v, Pr.run, Pr.map, Pr.bind, Pr.mapP, loadA, storeA, cellsVal, Pr.ofOption, cells, fillA, splice, nz, dr, cln, flat, one, bnd, slA, items, appA, Hp.get, Hp.app, Hp.set, eqAll, eq1, lookA, resA, rvA, fin, AV.i, AV.b, AV.s, beq_int, bne_int, emp_is, emp_iff, runD, step2, clash, apartFP, Pr.log, h0, h1', h1, isName, A84M0_eq, h2, hq, hl, hk0, List.getElem?_set]
  | false =>
    rw [hq] at h3
    obtain ⟨F, nx, rfl, rfl, hl⟩ := h3.back
    simp [A84, acode, runOps, step1, aop, wantedA, ev, put, opened, binV, binInt, binStr, app_v, Pr.run, Pr.map, Pr.bind, Pr.mapP, loadA, storeA, cellsVal, Pr.ofOption, cells, fillA, splice, nz, dr, cln, flat, one, bnd, slA, items, appA, Hp.get, Hp.app, Hp.set, eqAll, eq1, lookA, resA, rvA, fin, AV.i, AV.b, AV.s, beq_int, bne_int, emp_is, emp_iff, runD, step2, clash, apartFP, Pr.log, isName, A84M0_eq, h2, hq, hl]
end Go.Pv

namespace Go.Pv
open Go
set_option maxRecDepth 100000
set_option maxHeartbeats 4000000

theorem wrap_byte (b : UInt8) : IntKind.i64.wrap (b.toNat : Int) = b.toNat := by
  have := b.toNat_lt
  exact wrap_in _ (by omega)

theorem loop108 (n : Nat) (hn : 2 ^ 64 + 2 ≤ n) (v : Val) (hs : v.text.size < 2 ^ 63) (m i nx : Nat) (hi : i ≤ v.text.data.toList.length) (hm : v.text.data.toList.length - i < m) :
    ∃ e st, iter (acode (run1 code ext n) n A108L0) 1 A108M0 m (A108H0 (.ptr 0 0 0) (.i v.text.size) (.i i), ⟨[.box 0 v.e], [], nx⟩) = some (e, st) ∧ LQ 1 2 54 [] [.box 0 v.e] [] (if textOK (v.text.data.toList.drop i) then none else some (.i 3)) e st := by
  have hl := ba_len v.text
  refine loop_list (f := acode (run1 code ext n) n A108L0) (k := 1) (M := A108M0) v.text.data.toList (fun i (_ : Unit) nx => (A108H0 (.ptr 0 0 0) (.i v.text.size) (.i i), ⟨[.box 0 v.e], [], nx⟩)) (fun _ _ => True) (fun i r _ e st => LQ 1 2 54 [] [.box 0 v.e] [] (if textOK r then none else some (.i 3)) e st) ?_ ?_ m i () nx hi hm trivial
  · intro _ nx _
    rw [hl]
    have hb : acode (run1 code ext n) n A108L0 (A108H0 (.ptr 0 0 0) (.i v.text.size) (.i v.text.size), ⟨[.box 0 v.e], [], nx⟩) = acode (run1 code ext n) n A108L0 (A108H0 (.ptr 0 0 0) (.i v.text.size) (.i v.text.size), ⟨[.box 0 v.e], [], nx⟩) := rfl
    conv at hb => rhs; simp [acode, runOps, step1, aop, wantedA, ev, put, opened, binV, binInt, binStr, app_v, Pr.run, Pr.map, Pr.bind, Pr.mapP, loadA, storeA, cellsVal, Pr.ofOption, cells, fillA, splice, nz, dr, cln, flat, one, bnd, slA, items, appA, Hp.get, Hp.app, Hp.set, eqAll, eq1, lookA, resA, rvA, fin, AV.i, AV.b, AV.s, beq_int, bne_int, emp_is, emp_iff, runD, step2, clash, apartFP, Pr.log, A108L0]
    exact ⟨_, _, by simp, hb, by simp [LQ, textOK]⟩
  · intro i hi b _ nx hb0 _
    have hlt : i < v.text.size := by omega
    have hg : v.text[i] = b := hb0
    have hw := wrap_nat i (by omega)
    have hc := e44 b.toNat 32 126 n (by omega)
    have hwb := wrap_byte b
    by_cases hq : inB b.toNat 32 126 = true
    · rw [hq] at hc
      have hb : acode (run1 code ext n) n A108L0 (A108H0 (.ptr 0 0 0) (.i v.text.size) (.i i), ⟨[.box 0 v.e], [], nx⟩) = acode (run1 code ext n) n A108L0 (A108H0 (.ptr 0 0 0) (.i v.text.size) (.i i), ⟨[.box 0 v.e], [], nx⟩) := rfl
      conv at hb => rhs; simp [acode, runOps, step1, aop, wantedA, ev, put, opened, binV, binInt, binStr, app_v, Pr.run, Pr.map, Pr.bind, Pr.mapP, loadA, storeA, cellsVal, Pr.ofOption, cells, fillA, splice, nz, dr, cln, flat, one, bnd, slA, items, appA, Hp.get, Hp.app, Hp.set, eqAll, eq1, lookA, resA, rvA, fin, AV.i, AV.b, AV.s, beq_int, bne_int, emp_is, emp_iff, runD, step2, clash, apartFP, Pr.log, A108L0, hlt, hg, hw, hc, hwb, Val.e]
      refine .inl ⟨_, (), _, hb, by simp [trunc, mask, A108M0, Val.e]; rfl, trivial, fun e st h => ?_⟩
      have : (decide (32 ≤ b.toNat) && decide (b.toNat ≤ 126)) = true := by simp [inB] at hq ⊢; omega
      unfold textOK at h ⊢
      rw [List.all_cons, this, Bool.true_and]; exact h
    · have hq : inB b.toNat 32 126 = false := by simpa using hq
      rw [hq] at hc
      have hb : acode (run1 code ext n) n A108L0 (A108H0 (.ptr 0 0 0) (.i v.text.size) (.i i), ⟨[.box 0 v.e], [], nx⟩) = acode (run1 code ext n) n A108L0 (A108H0 (.ptr 0 0 0) (.i v.text.size) (.i i), ⟨[.box 0 v.e], [], nx⟩) := rfl
      conv at hb => rhs; simp [acode, runOps, step1, aop, wantedA, ev, put, opened, binV, binInt, binStr, app_v, Pr.run, Pr.map, Pr.bind, Pr.mapP, loadA, storeA, cellsVal, Pr.ofOption, cells, fillA, splice, nz, dr, cln, flat, one, bnd, slA, items, appA, Hp.get, Hp.app, Hp.set, eqAll, eq1, lookA, resA, rvA, fin, AV.i, AV.b, AV.s, beq_int, bne_int, emp_is, emp_iff, runD, step2, clash, apartFP, Pr.log, A108L0, hlt, hg, hw, hc, hwb, Val.e]
      refine .inr ⟨.ret, _, by simp, hb, ?_⟩
      have : (decide (32 ≤ b.toNat) && decide (b.toNat ≤ 126)) = false := by simp [inB] at hq ⊢; omega
      unfold textOK
      rw [List.all_cons, this, Bool.false_and]
      simp [LQ, Val.e]

theorem e108 (v : Val) : Is code ext 3 108 [.agg v.e] (.i (ckVal v)) := by
  refine Is.step code ext c108 fun n hn => ?_
  have r1 := e124 v.num 0 1 n (by omega)
  have r2 := e124 v.num (-1000000000000000) 1000000000000000 n (by omega)
  by_cases k0 : v.kind = 0
  · by_cases h1 : v.num = 0
    · by_cases h2 : v.text.size = 0
      · simp [A108, acode, runOps, step1, aop, wantedA, ev, put, opened, binV, binInt, binStr, app_v, Pr.run, Pr.map, Pr.bind, Pr.mapP, loadA, storeA, cellsVal, Pr.ofOption, cells, fillA, splice, nz, dr, cln, flat, one, bnd, slA, items, appA, Hp.get, Hp.app, Hp.set, eqAll, eq1, lookA, resA, rvA, fin, AV.i, AV.b, AV.s, beq_int, bne_int, emp_is, emp_iff, runD, step2, clash, apartFP, Pr.log, Val.e, ckVal, k0, h1, eq_true h2]
      · simp [A108, acode, runOps, step1, aop, wantedA, ev, put, opened, binV, binInt, binStr, app_v, Pr.run, Pr.map, Pr.bind, Pr.mapP, loadA, storeA, cellsVal, Pr.ofOption, cells, fillA, splice, nz, dr, cln, flat, one, bnd, slA, items, appA, Hp.get, Hp.app, Hp.set, eqAll, eq1, lookA, resA, rvA, fin, AV.i, AV.b, AV.s, beq_int, bne_int, emp_is, emp_iff, runD, step2, clash, apartFP, Pr.log, Val.e, ckVal, k0, h1, h2]
    · simp [A108, acode, runOps, step1, aop, wantedA, ev, put, opened, binV, binInt, binStr, app_v, Pr.run, Pr.map, Pr.bind, Pr.mapP, loadA, storeA, cellsVal, Pr.ofOption, cells, fillA, splice, nz, dr, cln, flat, one, bnd, slA, items, appA, Hp.get, Hp.app, Hp.set, eqAll, eq1, lookA, resA, rvA, fin, AV.i, AV.b, AV.s, beq_int, bne_int, emp_is, emp_iff, runD, step2, clash, apartFP, Pr.log, Val.e, ckVal, k0, h1]
  · by_cases k1 : v.kind = 1
    · by_cases h2 : v.text.size = 0
      · simp [A108, acode, runOps, step1, aop, wantedA, ev, put, opened, binV, binInt, binStr, app_v, Pr.run, Pr.map, Pr.bind, Pr.mapP, loadA, storeA, cellsVal, Pr.ofOption, cells, fillA, splice, nz, dr, cln, flat, one, bnd, slA, items, appA, Hp.get, Hp.app, Hp.set, eqAll, eq1, lookA, resA, rvA, fin, AV.i, AV.b, AV.s, beq_int, bne_int, emp_is, emp_iff, runD, step2, clash, apartFP, Pr.log, Val.e, ckVal, k1, eq_true h2, r1]
      · simp [A108, acode, runOps, step1, aop, wantedA, ev, put, opened, binV, binInt, binStr, app_v, Pr.run, Pr.map, Pr.bind, Pr.mapP, loadA, storeA, cellsVal, Pr.ofOption, cells, fillA, splice, nz, dr, cln, flat, one, bnd, slA, items, appA, Hp.get, Hp.app, Hp.set, eqAll, eq1, lookA, resA, rvA, fin, AV.i, AV.b, AV.s, beq_int, bne_int, emp_is, emp_iff, runD, step2, clash, apartFP, Pr.log, Val.e, ckVal, k1, h2]
    · by_cases k2 : v.kind = 2
      · by_cases h2 : v.text.size = 0
        · simp [A108, acode, runOps, step1, aop, wantedA, ev, put, opened, binV, binInt, binStr, app_v, Pr.run, Pr.map, Pr.bind, Pr.mapP, loadA, storeA, cellsVal, Pr.ofOption, cells, fillA, splice, nz, dr, cln, flat, one, bnd, slA, items, appA, Hp.get, Hp.app, Hp.set, eqAll, eq1, lookA, resA, rvA, fin, AV.i, AV.b, AV.s, beq_int, bne_int, emp_is, emp_iff, runD, step2, clash, apartFP, Pr.log, Val.e, ckVal, k2, eq_true h2, r2]
        · simp [A108, acode, runOps, step1, aop, wantedA, ev, put, opened, binV, binInt, binStr, app_v, Pr.run, Pr.map, Pr.bind, Pr.mapP, loadA, storeA, cellsVal, Pr.ofOption, cells, fillA, splice, nz, dr, cln, flat, one, bnd, slA, items, appA, Hp.get, Hp.app, Hp.set, eqAll, eq1, lookA, resA, rvA, fin, AV.i, AV.b, AV.s, beq_int, bne_int, emp_is, emp_iff, runD, step2, clash, apartFP, Pr.log, Val.e, ckVal, k2, h2]
      · by_cases k3 : v.kind = 3
        · by_cases h1 : v.num = 0
          · by_cases h2 : v.text.size > 200
            · have h2' : (200 : Int) < v.text.size := by omega
              simp [A108, acode, runOps, step1, aop, wantedA, ev, put, opened, binV, binInt, binStr, app_v, Pr.run, Pr.map, Pr.bind, Pr.mapP, loadA, storeA, cellsVal, Pr.ofOption, cells, fillA, splice, nz, dr, cln, flat, one, bnd, slA, items, appA, Hp.get, Hp.app, Hp.set, eqAll, eq1, lookA, resA, rvA, fin, AV.i, AV.b, AV.s, beq_int, bne_int, emp_is, emp_iff, runD, step2, clash, apartFP, Pr.log, Val.e, ckVal, k3, h1, h2, h2']
            · have h2' : ¬ (200 : Int) < v.text.size := by omega
              obtain ⟨e, st, q2, q3⟩ := loop108 n (by omega) v (by omega) n 0 23 (Nat.zero_le _) (by have := ba_len v.text; omega)
              simp only [List.drop_zero] at q3
              simp only [Int.natCast_zero, Val.e, k3, h1] at q2
              cases hq : textOK v.text.data.toList with
              | true =>
                rw [hq] at q3
                obtain ⟨F, nx, rfl, rfl, hl, _⟩ := q3.exit
                simp [A108, acode, runOps, step1, aop, wantedA, ev, put, opened, binV, binInt, binStr, app_v, Pr.run, Pr.map, Pr.bind, Pr.mapP, loadA, storeA, cellsVal, Pr.ofOption, cells, fillA, splice, nz, dr, cln, flat, one, bnd, slA, items, appA, Hp.get, Hp.app, Hp.set, eqAll, eq1, lookA, resA, rvA, fin, AV.i, AV.b, AV.s, beq_int, bne_int, emp_is, emp_iff, runD, step2, clash, apartFP, Pr.log, Val.e, ckVal, k3, h1, h2, h2', A108M0_eq, q2, hq, hl]
              | false =>
                rw [hq] at q3
                obtain ⟨F, nx, rfl, rfl, hl⟩ := q3.back
                simp [A108, acode, runOps, step1, aop, wantedA, ev, put, opened, binV, binInt, binStr, app_v, Pr.run, Pr.map, Pr.bind, Pr.mapP, loadA, storeA, cellsVal, Pr.ofOption, cells, fillA, splice, nz, dr, cln, flat, one, bnd, slA, items, appA, Hp.get, Hp.app, Hp.set, eqAll, eq1, lookA, resA, rvA, fin, AV.i, AV.b, AV.s, beq_int, bne_int, emp_is, emp_iff, runD, step2, clash, apartFP, Pr.log, Val.e, ckVal, k3, h1, h2, h2', A108M0_eq, q2, hq, hl]
          · simp [A108, acode, runOps, step1, aop, wantedA, ev, put, opened, binV, binInt, binStr, app_v, Pr.run, Pr.map, Pr.bind, Pr.mapP, loadA, storeA, cellsVal, Pr.ofOption, cells, fillA, splice, nz, dr, cln, flat, one, bnd, slA, items, appA, Hp.get, Hp.app, Hp.set, eqAll, eq1, lookA, resA, rvA, fin, AV.i, AV.b, AV.s, beq_int, bne_int, emp_is, emp_iff, runD, step2, clash, apartFP, Pr.log, Val.e, ckVal, k3, h1]
        · simp [A108, acode, runOps, step1, aop, wantedA, ev, put, opened, binV, binInt, binStr, app_v, Pr.run, Pr.map, Pr.bind, Pr.mapP, loadA, storeA, cellsVal, Pr.ofOption, cells, fillA, splice, nz, dr, cln, flat, one, bnd, slA, items, appA, Hp.get, Hp.app, Hp.set, eqAll, eq1, lookA, resA, rvA, fin, AV.i, AV.b, AV.s, beq_int, bne_int, emp_is, emp_iff, runD, step2, clash, apartFP, Pr.log, Val.e, ckVal, k0, k1, k2, k3]

theorem loop110 (call : Nat → List AV → Hp → Option (AV × Hp)) (n : Nat) (v : Val) (hs : v.text.size < 2 ^ 63) (m i nx : Nat) (hi : i ≤ v.text.data.toList.length) (hm : v.text.data.toList.length - i < m) :
    ∃ e st, iter (acode call n A110L0) 1 A110M0 m (A110H0 (.ptr 0 0 0) (.i i), ⟨[.box 0 v.e], [], nx⟩) = some (e, st) ∧ LQ 0 2 74 [] [.box 0 v.e] [] (if textOK (v.text.data.toList.drop i) then none else some (.i 3)) e st := by
  have hl := ba_len v.text
  refine loop_list (f := acode call n A110L0) (k := 1) (M := A110M0) v.text.data.toList (fun i (_ : Unit) nx => (A110H0 (.ptr 0 0 0) (.i i), ⟨[.box 0 v.e], [], nx⟩)) (fun _ _ => True) (fun i r _ e st => LQ 0 2 74 [] [.box 0 v.e] [] (if textOK r then none else some (.i 3)) e st) ?_ ?_ m i () nx hi hm trivial
  · intro _ nx _
    rw [hl]
    have hb : acode call n A110L0 (A110H0 (.ptr 0 0 0) (.i v.text.size), ⟨[.box 0 v.e], [], nx⟩) = acode call n A110L0 (A110H0 (.ptr 0 0 0) (.i v.text.size), ⟨[.box 0 v.e], [], nx⟩) := rfl
    conv at hb => rhs; simp [acode, runOps, step1, aop, wantedA, ev, put, opened, binV, binInt, binStr, app_v, Pr.run, Pr.map, Pr.bind, Pr.mapP, loadA, storeA, cellsVal, Pr.ofOption, cells, fillA, splice, nz, dr, cln, flat, one, bnd, slA, items, appA, Hp.get, Hp.app, Hp.set, eqAll, eq1, lookA, resA, rvA, fin, AV.i, AV.b, AV.s, beq_int, bne_int, emp_is, emp_iff, runD, step2, clash, apartFP, Pr.log, A110L0, Val.e]
    exact ⟨_, _, by simp, hb, by simp [LQ, textOK, Val.e]⟩
  · intro i hi b _ nx hb0 _
    have hlt : i < v.text.size := by omega
    have hg : v.text[i] = b := hb0
    have hw := wrap_nat i (by omega)
    by_cases q1 : (b.toNat : Int) < 32
    · have hb : acode call n A110L0 (A110H0 (.ptr 0 0 0) (.i i), ⟨[.box 0 v.e], [], nx⟩) = acode call n A110L0 (A110H0 (.ptr 0 0 0) (.i i), ⟨[.box 0 v.e], [], nx⟩) := rfl
      conv at hb => rhs; simp [acode, runOps, step1, aop, wantedA, ev, put, opened, binV, binInt, binStr, app_v, Pr.run, Pr.map, Pr.bind, Pr.mapP, loadA, storeA, cellsVal, Pr.ofOption, cells, fillA, splice, nz, dr, cln, flat, one, bnd, slA, items, appA, Hp.get, Hp.app, Hp.set, eqAll, eq1, lookA, resA, rvA, fin, AV.i, AV.b, AV.s, beq_int, bne_int, emp_is, emp_iff, runD, step2, clash, apartFP, Pr.log, A110L0, hlt, hg, hw, q1, Val.e]
      refine .inr ⟨.ret, _, by simp, hb, ?_⟩
      have : (decide (32 ≤ b.toNat) && decide (b.toNat ≤ 126)) = false := by simp; omega
      unfold textOK
      rw [List.all_cons, this, Bool.false_and]
      simp [LQ, Val.e]
    · by_cases q2 : (126 : Int) < b.toNat
      · have hb : acode call n A110L0 (A110H0 (.ptr 0 0 0) (.i i), ⟨[.box 0 v.e], [], nx⟩) = acode call n A110L0 (A110H0 (.ptr 0 0 0) (.i i), ⟨[.box 0 v.e], [], nx⟩) := rfl
        conv at hb => rhs; simp [acode, runOps, step1, aop, wantedA, ev, put, opened, binV, binInt, binStr, app_v, Pr.run, Pr.map, Pr.bind, Pr.mapP, loadA, storeA, cellsVal, Pr.ofOption, cells, fillA, splice, nz, dr, cln, flat, one, bnd, slA, items, appA, Hp.get, Hp.app, Hp.set, eqAll, eq1, lookA, resA, rvA, fin, AV.i, AV.b, AV.s, beq_int, bne_int, emp_is, emp_iff, runD, step2, clash, apartFP, Pr.log, A110L0, hlt, hg, hw, q1, q2, Val.e]
        refine .inr ⟨.ret, _, by simp, hb, ?_⟩
        have : (decide (32 ≤ b.toNat) && decide (b.toNat ≤ 126)) = false := by simp; omega
        unfold textOK
        rw [List.all_cons, this, Bool.false_and]
        simp [LQ, Val.e]
      · have hb : acode call n A110L0 (A110H0 (.ptr 0 0 0) (.i i), ⟨[.box 0 v.e], [], nx⟩) = acode call n A110L0 (A110H0 (.ptr 0 0 0) (.i i), ⟨[.box 0 v.e], [], nx⟩) := rfl
        conv at hb => rhs; simp [acode, runOps, step1, aop, wantedA, ev, put, opened, binV, binInt, binStr, app_v, Pr.run, Pr.map, Pr.bind, Pr.mapP, loadA, storeA, cellsVal, Pr.ofOption, cells, fillA, splice, nz, dr, cln, flat, one, bnd, slA, items, appA, Hp.get, Hp.app, Hp.set, eqAll, eq1, lookA, resA, rvA, fin, AV.i, AV.b, AV.s, beq_int, bne_int, emp_is, emp_iff, runD, step2, clash, apartFP, Pr.log, A110L0, hlt, hg, hw, q1, q2, Val.e]
        refine .inl ⟨_, (), _, hb, by simp [trunc, mask, A110M0, Val.e]; rfl, trivial, fun e st h => ?_⟩
        have : (decide (32 ≤ b.toNat) && decide (b.toNat ≤ 126)) = true := by simp; omega
        unfold textOK at h ⊢
        rw [List.all_cons, this, Bool.true_and]; exact h

theorem e110 (v : Val) (hs : v.text.size < 2 ^ 63) : Is code ext 2 110 [.agg v.e] (.i (ckVal v)) := by
  refine Is.step code ext c110 fun n hn => ?_
  have r0 := e85 v.kind 0 3 n (by omega)
  have r1 := e85 v.num 0 1 n (by omega)
  have r2 := e85 v.num (-1000000000000000) 1000000000000000 n (by omega)
  have z : textOK v.text.data.toList = true ∨ textOK v.text.data.toList = false := by cases textOK v.text.data.toList <;> simp
  have empty : v.text.size = 0 → textOK v.text.data.toList = true ∧ ¬ (200 : Int) < v.text.size := fun h => by
    have := ba_len v.text
    rw [h] at this
    have := List.length_eq_zero_iff.1 this
    rw [this]; exact ⟨rfl, by omega⟩
  obtain ⟨e, st, q2, q3⟩ := loop110 (run1 code ext n) n v hs n 0 54 (Nat.zero_le _) (by have := ba_len v.text; omega)
  simp only [List.drop_zero] at q3
  simp only [Int.natCast_zero, Val.e] at q2
  by_cases k0 : v.kind = 0
  · rw [k0] at r0
    by_cases h1 : v.num = 0
    · by_cases h2 : v.text.size = 0
      · obtain ⟨t1, t2⟩ := empty h2
        rw [t1] at q3
        obtain ⟨F, nx, rfl, rfl, hl, _⟩ := q3.exit
        simp only [k0, h1] at q2
        simp [A110, acode, runOps, step1, aop, wantedA, ev, put, opened, binV, binInt, binStr, app_v, Pr.run, Pr.map, Pr.bind, Pr.mapP, loadA, storeA, cellsVal, Pr.ofOption, cells, fillA, splice, nz, dr, cln, flat, one, bnd, slA, items, appA, Hp.get, Hp.app, Hp.set, eqAll, eq1, lookA, resA, rvA, fin, AV.i, AV.b, AV.s, beq_int, bne_int, emp_is, emp_iff, runD, step2, clash, apartFP, Pr.log, Val.e, ckVal, k0, h1, eq_true h2, r0, inB, A110M0_eq, q2, hl, t2]
      · simp [A110, acode, runOps, step1, aop, wantedA, ev, put, opened, binV, binInt, binStr, app_v, Pr.run, Pr.map, Pr.bind, Pr.mapP, loadA, storeA, cellsVal, Pr.ofOption, cells, fillA, splice, nz, dr, cln, flat, one, bnd, slA, items, appA, Hp.get, Hp.app, Hp.set, eqAll, eq1, lookA, resA, rvA, fin, AV.i, AV.b, AV.s, beq_int, bne_int, emp_is, emp_iff, runD, step2, clash, apartFP, Pr.log, Val.e, ckVal, k0, h1, h2, r0, inB]
    · simp [A110, acode, runOps, step1, aop, wantedA, ev, put, opened, binV, binInt, binStr, app_v, Pr.run, Pr.map, Pr.bind, Pr.mapP, loadA, storeA, cellsVal, Pr.ofOption, cells, fillA, splice, nz, dr, cln, flat, one, bnd, slA, items, appA, Hp.get, Hp.app, Hp.set, eqAll, eq1, lookA, resA, rvA, fin, AV.i, AV.b, AV.s, beq_int, bne_int, emp_is, emp_iff, runD, step2, clash, apartFP, Pr.log, Val.e, ckVal, k0, h1, r0, inB]
  · by_cases k1 : v.kind = 1
    · rw [k1] at r0
      by_cases h2 : v.text.size = 0
      · obtain ⟨t1, t2⟩ := empty h2
        by_cases h3 : inB v.num 0 1 = true
        · rw [t1] at q3
          obtain ⟨F, nx, rfl, rfl, hl, _⟩ := q3.exit
          simp only [k1] at q2
          simp [A110, acode, runOps, step1, aop, wantedA, ev, put, opened, binV, binInt, binStr, app_v, Pr.run, Pr.map, Pr.bind, Pr.mapP, loadA, storeA, cellsVal, Pr.ofOption, cells, fillA, splice, nz, dr, cln, flat, one, bnd, slA, items, appA, Hp.get, Hp.app, Hp.set, eqAll, eq1, lookA, resA, rvA, fin, AV.i, AV.b, AV.s, beq_int, bne_int, emp_is, emp_iff, runD, step2, clash, apartFP, Pr.log, Val.e, ckVal, k1, eq_true h2, r0, r1, h3, show inB 1 0 3 = true from rfl, A110M0_eq, q2, hl, t2]
        · simp [A110, acode, runOps, step1, aop, wantedA, ev, put, opened, binV, binInt, binStr, app_v, Pr.run, Pr.map, Pr.bind, Pr.mapP, loadA, storeA, cellsVal, Pr.ofOption, cells, fillA, splice, nz, dr, cln, flat, one, bnd, slA, items, appA, Hp.get, Hp.app, Hp.set, eqAll, eq1, lookA, resA, rvA, fin, AV.i, AV.b, AV.s, beq_int, bne_int, emp_is, emp_iff, runD, step2, clash, apartFP, Pr.log, Val.e, ckVal, k1, eq_true h2, r0, r1, h3, show inB 1 0 3 = true from rfl]
      · simp [A110, acode, runOps, step1, aop, wantedA, ev, put, opened, binV, binInt, binStr, app_v, Pr.run, Pr.map, Pr.bind, Pr.mapP, loadA, storeA, cellsVal, Pr.ofOption, cells, fillA, splice, nz, dr, cln, flat, one, bnd, slA, items, appA, Hp.get, Hp.app, Hp.set, eqAll, eq1, lookA, resA, rvA, fin, AV.i, AV.b, AV.s, beq_int, bne_int, emp_is, emp_iff, runD, step2, clash, apartFP, Pr.log, Val.e, ckVal, k1, h2, r0, show inB 1 0 3 = true from rfl]
    · by_cases k2 : v.kind = 2
      · rw [k2] at r0
        by_cases h2 : v.text.size = 0
        · obtain ⟨t1, t2⟩ := empty h2
          by_cases h3 : inB v.num (-1000000000000000) 1000000000000000 = true
          · rw [t1] at q3
            obtain ⟨F, nx, rfl, rfl, hl, _⟩ := q3.exit
            simp only [k2] at q2
            simp [A110, acode, runOps, step1, aop, wantedA, ev, put, opened, binV, binInt, binStr, app_v, Pr.run, Pr.map, Pr.bind, Pr.mapP, loadA, storeA, cellsVal, Pr.ofOption, cells, fillA, splice, nz, dr, cln, flat, one, bnd, slA, items, appA, Hp.get, Hp.app, Hp.set, eqAll, eq1, lookA, resA, rvA, fin, AV.i, AV.b, AV.s, beq_int, bne_int, emp_is, emp_iff, runD, step2, clash, apartFP, Pr.log, Val.e, ckVal, k2, eq_true h2, r0, r2, h3, show inB 2 0 3 = true from rfl, A110M0_eq, q2, hl, t2]
          · simp [A110, acode, runOps, step1, aop, wantedA, ev, put, opened, binV, binInt, binStr, app_v, Pr.run, Pr.map, Pr.bind, Pr.mapP, loadA, storeA, cellsVal, Pr.ofOption, cells, fillA, splice, nz, dr, cln, flat, one, bnd, slA, items, appA, Hp.get, Hp.app, Hp.set, eqAll, eq1, lookA, resA, rvA, fin, AV.i, AV.b, AV.s, beq_int, bne_int, emp_is, emp_iff, runD, step2, clash, apartFP, Pr.log, Val.e, ckVal, k2, eq_true h2, r0, r2, h3, show inB 2 0 3 = true from rfl]
        · simp [A110, acode, runOps, step1, aop, wantedA, ev, put, opened, binV, binInt, binStr, app_v, Pr.run, Pr.map, Pr.bind, Pr.mapP, loadA, storeA, cellsVal, Pr.ofOption, cells, fillA, splice, nz, dr, cln, flat, one, bnd, slA, items, appA, Hp.get, Hp.app, Hp.set, eqAll, eq1, lookA, resA, rvA, fin, AV.i, AV.b, AV.s, beq_int, bne_int, emp_is, emp_iff, runD, step2, clash, apartFP, Pr.log, Val.e, ckVal, k2, h2, r0, show inB 2 0 3 = true from rfl]
      · by_cases k3 : v.kind = 3
        · rw [k3] at r0
          by_cases h1 : v.num = 0
          · by_cases h2 : v.text.size > 200
            · have h2' : (200 : Int) < v.text.size := by omega
              simp [A110, acode, runOps, step1, aop, wantedA, ev, put, opened, binV, binInt, binStr, app_v, Pr.run, Pr.map, Pr.bind, Pr.mapP, loadA, storeA, cellsVal, Pr.ofOption, cells, fillA, splice, nz, dr, cln, flat, one, bnd, slA, items, appA, Hp.get, Hp.app, Hp.set, eqAll, eq1, lookA, resA, rvA, fin, AV.i, AV.b, AV.s, beq_int, bne_int, emp_is, emp_iff, runD, step2, clash, apartFP, Pr.log, Val.e, ckVal, k3, h1, h2, h2', r0, show inB 3 0 3 = true from rfl]
            · have h2' : ¬ (200 : Int) < v.text.size := by omega
              simp only [k3, h1] at q2
              rcases z with hq | hq
              · rw [hq] at q3
                obtain ⟨F, nx, rfl, rfl, hl, _⟩ := q3.exit
                simp [A110, acode, runOps, step1, aop, wantedA, ev, put, opened, binV, binInt, binStr, app_v, Pr.run, Pr.map, Pr.bind, Pr.mapP, loadA, storeA, cellsVal, Pr.ofOption, cells, fillA, splice, nz, dr, cln, flat, one, bnd, slA, items, appA, Hp.get, Hp.app, Hp.set, eqAll, eq1, lookA, resA, rvA, fin, AV.i, AV.b, AV.s, beq_int, bne_int, emp_is, emp_iff, runD, step2, clash, apartFP, Pr.log, Val.e, ckVal, k3, h1, h2, h2', A110M0_eq, q2, hq, hl, r0, show inB 3 0 3 = true from rfl]
              · rw [hq] at q3
                obtain ⟨F, nx, rfl, rfl, hl⟩ := q3.back
                simp [A110, acode, runOps, step1, aop, wantedA, ev, put, opened, binV, binInt, binStr, app_v, Pr.run, Pr.map, Pr.bind, Pr.mapP, loadA, storeA, cellsVal, Pr.ofOption, cells, fillA, splice, nz, dr, cln, flat, one, bnd, slA, items, appA, Hp.get, Hp.app, Hp.set, eqAll, eq1, lookA, resA, rvA, fin, AV.i, AV.b, AV.s, beq_int, bne_int, emp_is, emp_iff, runD, step2, clash, apartFP, Pr.log, Val.e, ckVal, k3, h1, h2, h2', A110M0_eq, q2, hq, hl, r0, show inB 3 0 3 = true from rfl]
          · simp [A110, acode, runOps, step1, aop, wantedA, ev, put, opened, binV, binInt, binStr, app_v, Pr.run, Pr.map, Pr.bind, Pr.mapP, loadA, storeA, cellsVal, Pr.ofOption, cells, fillA, splice, nz, dr, cln, flat, one, bnd, slA, items, appA, Hp.get, Hp.app, Hp.set, eqAll, eq1, lookA, resA, rvA, fin, AV.i, AV.b, AV.s, beq_int, bne_int, emp_is, emp_iff, runD, step2, clash, apartFP, Pr.log, Val.e, ckVal, k3, h1, r0, show inB 3 0 3 = true from rfl]
        · have : inB v.kind 0 3 = false := by simp [inB]; omega
          rw [this] at r0
          simp [A110, acode, runOps, step1, aop, wantedA, ev, put, opened, binV, binInt, binStr, app_v, Pr.run, Pr.map, Pr.bind, Pr.mapP, loadA, storeA, cellsVal, Pr.ofOption, cells, fillA, splice, nz, dr, cln, flat, one, bnd, slA, items, appA, Hp.get, Hp.app, Hp.set, eqAll, eq1, lookA, resA, rvA, fin, AV.i, AV.b, AV.s, beq_int, bne_int, emp_is, emp_iff, runD, step2, clash, apartFP, Pr.log, Val.e, ckVal, k0, k1, k2, k3, r0]
end Go.Pv

namespace Go.Pv
open Go
set_option maxRecDepth 100000
set_option maxHeartbeats 4000000

/-- What a fault comes to in a loop: none goes on. -/
def fl (f : Int) : Option AV := if f = 0 then none else some (.i f)
theorem fl_zero : fl 0 = none := rfl
theorem fl_pos {f : Int} (h : f ≠ 0) : fl f = some (.i f) := if_neg h

/-- How a loop ends, of the heap the rows alone. -/
def LR (k r len : Nat) (keep : List (Nat × AV)) (rs : List Ob) (out : Option AV) (e : Ex) (st : St) : Prop :=
  st.2.rs = rs ∧ match out with
    | none => e = .ex k ∧ st.1.length = len ∧ ∀ p ∈ keep, st.1[p.1]? = some p.2
    | some v => e = .ret ∧ st.1[r]? = some v
theorem LR.exit {k r len : Nat} {keep : List (Nat × AV)} {rs : List Ob} {e : Ex} {st : St} (h : LR k r len keep rs none e st) : ∃ F bs nx, e = .ex k ∧ st = (F, ⟨bs, rs, nx⟩) ∧ F.length = len ∧ ∀ p ∈ keep, F[p.1]? = some p.2 := by
  obtain ⟨rfl, h2, h3, h4⟩ := h
  exact ⟨st.1, st.2.bs, st.2.nx, h2, rfl, h3, h4⟩
theorem LR.back {k r len : Nat} {keep : List (Nat × AV)} {rs : List Ob} {v : AV} {e : Ex} {st : St} (h : LR k r len keep rs (some v) e st) : ∃ F bs nx, e = .ret ∧ st = (F, ⟨bs, rs, nx⟩) ∧ F[r]? = some v := by
  obtain ⟨rfl, h2, h3⟩ := h
  exact ⟨st.1, st.2.bs, st.2.nx, h2, rfl, h3⟩

abbrev roC (c : List Col) : AV := .ro (c.map Col.e)

theorem ckRowL_step {c : List Col} {v : List Val} {i : Nat} {a : Val} {b : Col} (hi : i < c.length) (hb : c[i] = b) : ckRowL (c.drop i) (a :: v) = if ckVal a ≠ 0 then ckVal a else if a.kind ≠ 0 ∧ a.kind ≠ b.kind then 10 else ckRowL (c.drop (i + 1)) v := by
  rw [List.drop_eq_getElem_cons hi, hb, ckRowL]

theorem loop95 (n : Nat) (hn : 2 ^ 64 + 3 ≤ n) (c : List Col) (v : List Val) (hl : v.length = c.length) (hs : v.length < 2 ^ 62) (m i nx : Nat) (hi : i ≤ v.length) (hm : v.length - i < m) :
    ∃ e st, iter (acode (run1 code ext n) n A95L0) 1 A95M0 m (A95H0 (roC c) (eVals v) (.i v.length) (.i i), ⟨[.box 0 [eVals v]], [], nx⟩) = some (e, st) ∧ LR 0 4 41 [] [] (fl (ckRowL (c.drop i) (v.drop i))) e st := by
  refine loop_list (f := acode (run1 code ext n) n A95L0) (k := 1) (M := A95M0) v (fun i (_ : Unit) nx => (A95H0 (roC c) (eVals v) (.i v.length) (.i i), ⟨[.box 0 [eVals v]], [], nx⟩)) (fun _ _ => True) (fun i r _ e st => LR 0 4 41 [] [] (fl (ckRowL (c.drop i) r)) e st) ?_ ?_ m i () nx hi hm trivial
  · intro _ nx _
    have hb : acode (run1 code ext n) n A95L0 (A95H0 (roC c) (eVals v) (.i v.length) (.i v.length), ⟨[.box 0 [eVals v]], [], nx⟩) = acode (run1 code ext n) n A95L0 (A95H0 (roC c) (eVals v) (.i v.length) (.i v.length), ⟨[.box 0 [eVals v]], [], nx⟩) := rfl
    conv at hb => rhs; simp [acode, runOps, step1, aop, wantedA, ev, put, opened, binV, binInt, binStr, app_v, Pr.run, Pr.map, Pr.bind, Pr.mapP, loadA, storeA, cellsVal, Pr.ofOption, cells, fillA, splice, nz, dr, cln, flat, one, bnd, slA, items, appA, Hp.get, Hp.app, Hp.set, eqAll, eq1, lookA, resA, rvA, fin, AV.i, AV.b, AV.s, beq_int, bne_int, emp_is, emp_iff, runD, step2, clash, apartFP, Pr.log, A95L0]
    exact ⟨_, _, by simp, hb, by simp [LR, hl, ckRowL, fl]⟩
  · intro i hi a _ nx hg _
    have hi2 : i < c.length := by omega
    obtain ⟨b, hb⟩ : ∃ b, c[i] = b := ⟨_, rfl⟩
    have hw := wrap_nat i (by omega)
    have h1 := e108 a n (by omega)
    have h2 := e109 a n (by omega)
    simp only [Val.e] at h1 h2
    simp only [ckRowL_step hi2 hb]
    by_cases q : ckVal a = 0
    · rw [q] at h1
      rw [if_neg (by simpa using q)]
      by_cases k0 : a.kind = 0
      · have h2' : isoOf (run1 code ext n) 109 [.agg [.i a.kind, .i a.num, .s a.text]] = some (.b true) := by rw [h2, k0]; rfl
        rw [if_neg (by simp [k0])]
        have hv : acode (run1 code ext n) n A95L0 (A95H0 (roC c) (eVals v) (.i v.length) (.i i), ⟨[.box 0 [eVals v]], [], nx⟩) = acode (run1 code ext n) n A95L0 (A95H0 (roC c) (eVals v) (.i v.length) (.i i), ⟨[.box 0 [eVals v]], [], nx⟩) := rfl
        conv at hv => rhs; simp [acode, runOps, step1, aop, wantedA, ev, put, opened, binV, binInt, binStr, app_v, Pr.run, Pr.map, Pr.bind, Pr.mapP, loadA, storeA, cellsVal, Pr.ofOption, cells, fillA, splice, nz, dr, cln, flat, one, bnd, slA, items, appA, Hp.get, Hp.app, Hp.set, eqAll, eq1, lookA, resA, rvA, fin, AV.i, AV.b, AV.s, beq_int, bne_int, emp_is, emp_iff, runD, step2, clash, apartFP, Pr.log, A95L0, hi, hi2, hg, hb, hw, h1, h2', eVals, roC, Val.e, Col.e]
        exact .inl ⟨_, (), _, hv, by simp [trunc, mask, A95M0, eVals, roC]; rfl, trivial, fun e st h => h⟩
      · have h2' : isoOf (run1 code ext n) 109 [.agg [.i a.kind, .i a.num, .s a.text]] = some (.b false) := by rw [h2]; simp [k0]
        by_cases k1 : a.kind = b.kind
        · rw [if_neg (by simp [k1])]
          have k1x : (a.kind = b.kind) = True := eq_true k1
          have hv : acode (run1 code ext n) n A95L0 (A95H0 (roC c) (eVals v) (.i v.length) (.i i), ⟨[.box 0 [eVals v]], [], nx⟩) = acode (run1 code ext n) n A95L0 (A95H0 (roC c) (eVals v) (.i v.length) (.i i), ⟨[.box 0 [eVals v]], [], nx⟩) := rfl
          conv at hv => rhs; simp [acode, runOps, step1, aop, wantedA, ev, put, opened, binV, binInt, binStr, app_v, Pr.run, Pr.map, Pr.bind, Pr.mapP, loadA, storeA, cellsVal, Pr.ofOption, cells, fillA, splice, nz, dr, cln, flat, one, bnd, slA, items, appA, Hp.get, Hp.app, Hp.set, eqAll, eq1, lookA, resA, rvA, fin, AV.i, AV.b, AV.s, beq_int, bne_int, emp_is, emp_iff, runD, step2, clash, apartFP, Pr.log, A95L0, hi, hi2, hg, hb, hw, h1, h2', k1x, eVals, roC, Val.e, Col.e]
          exact .inl ⟨_, (), _, hv, by simp [trunc, mask, A95M0, eVals, roC]; rfl, trivial, fun e st h => h⟩
        · rw [if_pos ⟨k0, k1⟩]
          have k1x : (a.kind = b.kind) = False := eq_false k1
          have hv : acode (run1 code ext n) n A95L0 (A95H0 (roC c) (eVals v) (.i v.length) (.i i), ⟨[.box 0 [eVals v]], [], nx⟩) = acode (run1 code ext n) n A95L0 (A95H0 (roC c) (eVals v) (.i v.length) (.i i), ⟨[.box 0 [eVals v]], [], nx⟩) := rfl
          conv at hv => rhs; simp [acode, runOps, step1, aop, wantedA, ev, put, opened, binV, binInt, binStr, app_v, Pr.run, Pr.map, Pr.bind, Pr.mapP, loadA, storeA, cellsVal, Pr.ofOption, cells, fillA, splice, nz, dr, cln, flat, one, bnd, slA, items, appA, Hp.get, Hp.app, Hp.set, eqAll, eq1, lookA, resA, rvA, fin, AV.i, AV.b, AV.s, beq_int, bne_int, emp_is, emp_iff, runD, step2, clash, apartFP, Pr.log, A95L0, hi, hi2, hg, hb, hw, h1, h2', k1x, eVals, roC, Val.e, Col.e]
          exact .inr ⟨.ret, _, by simp, hv, by simp [LR, fl]⟩
    · rw [if_pos (by simpa using q)]
      have hv : acode (run1 code ext n) n A95L0 (A95H0 (roC c) (eVals v) (.i v.length) (.i i), ⟨[.box 0 [eVals v]], [], nx⟩) = acode (run1 code ext n) n A95L0 (A95H0 (roC c) (eVals v) (.i v.length) (.i i), ⟨[.box 0 [eVals v]], [], nx⟩) := rfl
      conv at hv => rhs; simp [acode, runOps, step1, aop, wantedA, ev, put, opened, binV, binInt, binStr, app_v, Pr.run, Pr.map, Pr.bind, Pr.mapP, loadA, storeA, cellsVal, Pr.ofOption, cells, fillA, splice, nz, dr, cln, flat, one, bnd, slA, items, appA, Hp.get, Hp.app, Hp.set, eqAll, eq1, lookA, resA, rvA, fin, AV.i, AV.b, AV.s, beq_int, bne_int, emp_is, emp_iff, runD, step2, clash, apartFP, Pr.log, A95L0, hi, hi2, hg, hb, hw, h1, h2, q, eVals, roC, Val.e, Col.e]
      exact .inr ⟨.ret, _, by simp, hv, by simp [LR, fl, q]⟩

theorem e95 (c : List Col) (v : List Val) (hc : c.length < 2 ^ 62) : Is code ext 4 95 [roC c, .agg [eVals v]] (.i (ckRow c v)) := by
  refine Is.step code ext c95 fun n hn => ?_
  by_cases hl : v.length = c.length
  · obtain ⟨e, st, q2, q3⟩ := loop95 n (by omega) c v hl (by omega) n 0 12 (Nat.zero_le _) (by omega)
    simp only [List.drop_zero] at q3
    simp only [Int.natCast_zero, eVals, roC, hl] at q2
    by_cases hq : ckRowL c v = 0
    · rw [hq, fl_zero] at q3
      obtain ⟨F, bs, nx, rfl, rfl, h1, _⟩ := q3.exit
      simp [A95, acode, runOps, step1, aop, wantedA, ev, put, opened, binV, binInt, binStr, app_v, Pr.run, Pr.map, Pr.bind, Pr.mapP, loadA, storeA, cellsVal, Pr.ofOption, cells, fillA, splice, nz, dr, cln, flat, one, bnd, slA, items, appA, Hp.get, Hp.app, Hp.set, eqAll, eq1, lookA, resA, rvA, fin, AV.i, AV.b, AV.s, beq_int, bne_int, emp_is, emp_iff, runD, step2, clash, apartFP, Pr.log, eVals, roC, hl, ckRow, A95M0_eq, q2, hq, h1]
    · rw [fl_pos hq] at q3
      obtain ⟨F, bs, nx, rfl, rfl, h1⟩ := q3.back
      simp [A95, acode, runOps, step1, aop, wantedA, ev, put, opened, binV, binInt, binStr, app_v, Pr.run, Pr.map, Pr.bind, Pr.mapP, loadA, storeA, cellsVal, Pr.ofOption, cells, fillA, splice, nz, dr, cln, flat, one, bnd, slA, items, appA, Hp.get, Hp.app, Hp.set, eqAll, eq1, lookA, resA, rvA, fin, AV.i, AV.b, AV.s, beq_int, bne_int, emp_is, emp_iff, runD, step2, clash, apartFP, Pr.log, eVals, roC, hl, ckRow, A95M0_eq, q2, hq, h1]
  · have hl' : ¬ ((v.length : Int) = c.length) := by omega
    simp [A95, acode, runOps, step1, aop, wantedA, ev, put, opened, binV, binInt, binStr, app_v, Pr.run, Pr.map, Pr.bind, Pr.mapP, loadA, storeA, cellsVal, Pr.ofOption, cells, fillA, splice, nz, dr, cln, flat, one, bnd, slA, items, appA, Hp.get, Hp.app, Hp.set, eqAll, eq1, lookA, resA, rvA, fin, AV.i, AV.b, AV.s, beq_int, bne_int, emp_is, emp_iff, runD, step2, clash, apartFP, Pr.log, eVals, roC, hl', ckRow, hl]

theorem e56 (c : List Col) (v : List Val) (hc : c.length < 2 ^ 62) : Is code ext 5 56 [roC c, eVals v] (.i (ckRow c v)) := by
  refine Is.step code ext c56 fun n hn => ?_
  have h := e95 c v hc n (by omega)
  simp only [eVals, roC] at h
  simp [A56, acode, runOps, step1, aop, wantedA, ev, put, opened, binV, binInt, binStr, app_v, Pr.run, Pr.map, Pr.bind, Pr.mapP, loadA, storeA, cellsVal, Pr.ofOption, cells, fillA, splice, nz, dr, cln, flat, one, bnd, slA, items, appA, Hp.get, Hp.app, Hp.set, eqAll, eq1, lookA, resA, rvA, fin, AV.i, AV.b, AV.s, beq_int, bne_int, emp_is, emp_iff, runD, step2, clash, apartFP, Pr.log, eVals, roC, h]

theorem loop96 (n : Nat) (hn : 2 ^ 64 + 2 ≤ n) (c : List Col) (v : List Val) (hv0 : ∀ a ∈ v, a.text.size < 2 ^ 63) (hl : v.length = c.length) (hs : v.length < 2 ^ 62) (m i nx : Nat) (hi : i ≤ v.length) (hm : v.length - i < m) :
    ∃ e st, iter (acode (run1 code ext n) n A96L0) 1 A96M0 m (A96H0 (roC c) (.ptr 0 0 0) (.i i), ⟨[.box 0 [eVals v]], [], nx⟩) = some (e, st) ∧ LR 0 4 49 [] [] (fl (ckRowL (c.drop i) (v.drop i))) e st := by
  refine loop_list (f := acode (run1 code ext n) n A96L0) (k := 1) (M := A96M0) v (fun i (_ : Unit) nx => (A96H0 (roC c) (.ptr 0 0 0) (.i i), ⟨[.box 0 [eVals v]], [], nx⟩)) (fun _ _ => True) (fun i r _ e st => LR 0 4 49 [] [] (fl (ckRowL (c.drop i) r)) e st) ?_ ?_ m i () nx hi hm trivial
  · intro _ nx _
    have hb : acode (run1 code ext n) n A96L0 (A96H0 (roC c) (.ptr 0 0 0) (.i v.length), ⟨[.box 0 [eVals v]], [], nx⟩) = acode (run1 code ext n) n A96L0 (A96H0 (roC c) (.ptr 0 0 0) (.i v.length), ⟨[.box 0 [eVals v]], [], nx⟩) := rfl
    conv at hb => rhs; simp [acode, runOps, step1, aop, wantedA, ev, put, opened, binV, binInt, binStr, app_v, Pr.run, Pr.map, Pr.bind, Pr.mapP, loadA, storeA, cellsVal, Pr.ofOption, cells, fillA, splice, nz, dr, cln, flat, one, bnd, slA, items, appA, Hp.get, Hp.app, Hp.set, eqAll, eq1, lookA, resA, rvA, fin, AV.i, AV.b, AV.s, beq_int, bne_int, emp_is, emp_iff, runD, step2, clash, apartFP, Pr.log, A96L0, hl]
    exact ⟨_, _, by simp, hb, by simp [LR, hl, ckRowL, fl]⟩
  · intro i hi a _ nx hg _
    have hi2 : i < c.length := by omega
    obtain ⟨b, hb⟩ : ∃ b, c[i] = b := ⟨_, rfl⟩
    have hw := wrap_nat i (by omega)
    have h1 := e110 a (hv0 a (by rw [← hg]; exact List.getElem_mem _)) n (by omega)
    simp only [Val.e] at h1
    simp only [ckRowL_step hi2 hb]
    by_cases q : ckVal a = 0
    · rw [q] at h1
      rw [if_neg (by simpa using q)]
      by_cases k0 : a.kind = 0
      · have k0x : (a.kind = 0) = True := eq_true k0
        rw [if_neg (by simp [k0])]
        have hv : acode (run1 code ext n) n A96L0 (A96H0 (roC c) (.ptr 0 0 0) (.i i), ⟨[.box 0 [eVals v]], [], nx⟩) = acode (run1 code ext n) n A96L0 (A96H0 (roC c) (.ptr 0 0 0) (.i i), ⟨[.box 0 [eVals v]], [], nx⟩) := rfl
        conv at hv => rhs; simp [acode, runOps, step1, aop, wantedA, ev, put, opened, binV, binInt, binStr, app_v, Pr.run, Pr.map, Pr.bind, Pr.mapP, loadA, storeA, cellsVal, Pr.ofOption, cells, fillA, splice, nz, dr, cln, flat, one, bnd, slA, items, appA, Hp.get, Hp.app, Hp.set, eqAll, eq1, lookA, resA, rvA, fin, AV.i, AV.b, AV.s, beq_int, bne_int, emp_is, emp_iff, runD, step2, clash, apartFP, Pr.log, A96L0, hi, hi2, hg, hb, hw, h1, k0x, eVals, roC, Val.e, Col.e]
        exact .inl ⟨_, (), _, hv, by simp [trunc, mask, A96M0, eVals, roC]; rfl, trivial, fun e st h => h⟩
      · by_cases k1 : a.kind = b.kind
        · rw [if_neg (by simp [k1])]
          have k1x : (a.kind = b.kind) = True := eq_true k1
          have hv : acode (run1 code ext n) n A96L0 (A96H0 (roC c) (.ptr 0 0 0) (.i i), ⟨[.box 0 [eVals v]], [], nx⟩) = acode (run1 code ext n) n A96L0 (A96H0 (roC c) (.ptr 0 0 0) (.i i), ⟨[.box 0 [eVals v]], [], nx⟩) := rfl
          conv at hv => rhs; simp [acode, runOps, step1, aop, wantedA, ev, put, opened, binV, binInt, binStr, app_v, Pr.run, Pr.map, Pr.bind, Pr.mapP, loadA, storeA, cellsVal, Pr.ofOption, cells, fillA, splice, nz, dr, cln, flat, one, bnd, slA, items, appA, Hp.get, Hp.app, Hp.set, eqAll, eq1, lookA, resA, rvA, fin, AV.i, AV.b, AV.s, beq_int, bne_int, emp_is, emp_iff, runD, step2, clash, apartFP, Pr.log, A96L0, hi, hi2, hg, hb, hw, h1, k0, k1x, eVals, roC, Val.e, Col.e]
          exact .inl ⟨_, (), _, hv, by simp [trunc, mask, A96M0, eVals, roC]; rfl, trivial, fun e st h => h⟩
        · rw [if_pos ⟨k0, k1⟩]
          have k1x : (a.kind = b.kind) = False := eq_false k1
          have hv : acode (run1 code ext n) n A96L0 (A96H0 (roC c) (.ptr 0 0 0) (.i i), ⟨[.box 0 [eVals v]], [], nx⟩) = acode (run1 code ext n) n A96L0 (A96H0 (roC c) (.ptr 0 0 0) (.i i), ⟨[.box 0 [eVals v]], [], nx⟩) := rfl
          conv at hv => rhs; simp [acode, runOps, step1, aop, wantedA, ev, put, opened, binV, binInt, binStr, app_v, Pr.run, Pr.map, Pr.bind, Pr.mapP, loadA, storeA, cellsVal, Pr.ofOption, cells, fillA, splice, nz, dr, cln, flat, one, bnd, slA, items, appA, Hp.get, Hp.app, Hp.set, eqAll, eq1, lookA, resA, rvA, fin, AV.i, AV.b, AV.s, beq_int, bne_int, emp_is, emp_iff, runD, step2, clash, apartFP, Pr.log, A96L0, hi, hi2, hg, hb, hw, h1, k0, k1x, eVals, roC, Val.e, Col.e]
          exact .inr ⟨.ret, _, by simp, hv, by simp [LR, fl]⟩
    · rw [if_pos (by simpa using q)]
      have hv : acode (run1 code ext n) n A96L0 (A96H0 (roC c) (.ptr 0 0 0) (.i i), ⟨[.box 0 [eVals v]], [], nx⟩) = acode (run1 code ext n) n A96L0 (A96H0 (roC c) (.ptr 0 0 0) (.i i), ⟨[.box 0 [eVals v]], [], nx⟩) := rfl
      conv at hv => rhs; simp [acode, runOps, step1, aop, wantedA, ev, put, opened, binV, binInt, binStr, app_v, Pr.run, Pr.map, Pr.bind, Pr.mapP, loadA, storeA, cellsVal, Pr.ofOption, cells, fillA, splice, nz, dr, cln, flat, one, bnd, slA, items, appA, Hp.get, Hp.app, Hp.set, eqAll, eq1, lookA, resA, rvA, fin, AV.i, AV.b, AV.s, beq_int, bne_int, emp_is, emp_iff, runD, step2, clash, apartFP, Pr.log, A96L0, hi, hi2, hg, hb, hw, h1, q, eVals, roC, Val.e, Col.e]
      exact .inr ⟨.ret, _, by simp, hv, by simp [LR, fl, q]⟩

theorem e96 (c : List Col) (v : List Val) (hv0 : ∀ a ∈ v, a.text.size < 2 ^ 63) (hc : c.length < 2 ^ 62) : Is code ext 3 96 [roC c, .agg [eVals v]] (.i (ckRow c v)) := by
  refine Is.step code ext c96 fun n hn => ?_
  by_cases hl : v.length = c.length
  · obtain ⟨e, st, q2, q3⟩ := loop96 n (by omega) c v hv0 hl (by omega) n 0 9 (Nat.zero_le _) (by omega)
    simp only [List.drop_zero] at q3
    simp only [Int.natCast_zero, eVals, roC, hl] at q2
    by_cases hq : ckRowL c v = 0
    · rw [hq, fl_zero] at q3
      obtain ⟨F, bs, nx, rfl, rfl, h1, _⟩ := q3.exit
      simp [A96, acode, runOps, step1, aop, wantedA, ev, put, opened, binV, binInt, binStr, app_v, Pr.run, Pr.map, Pr.bind, Pr.mapP, loadA, storeA, cellsVal, Pr.ofOption, cells, fillA, splice, nz, dr, cln, flat, one, bnd, slA, items, appA, Hp.get, Hp.app, Hp.set, eqAll, eq1, lookA, resA, rvA, fin, AV.i, AV.b, AV.s, beq_int, bne_int, emp_is, emp_iff, runD, step2, clash, apartFP, Pr.log, eVals, roC, hl, ckRow, A96M0_eq, q2, hq, h1]
    · rw [fl_pos hq] at q3
      obtain ⟨F, bs, nx, rfl, rfl, h1⟩ := q3.back
      simp [A96, acode, runOps, step1, aop, wantedA, ev, put, opened, binV, binInt, binStr, app_v, Pr.run, Pr.map, Pr.bind, Pr.mapP, loadA, storeA, cellsVal, Pr.ofOption, cells, fillA, splice, nz, dr, cln, flat, one, bnd, slA, items, appA, Hp.get, Hp.app, Hp.set, eqAll, eq1, lookA, resA, rvA, fin, AV.i, AV.b, AV.s, beq_int, bne_int, emp_is, emp_iff, runD, step2, clash, apartFP, Pr.log, eVals, roC, hl, ckRow, A96M0_eq, q2, hq, h1]
  · have hl' : ¬ ((v.length : Int) = c.length) := by omega
    simp [A96, acode, runOps, step1, aop, wantedA, ev, put, opened, binV, binInt, binStr, app_v, Pr.run, Pr.map, Pr.bind, Pr.mapP, loadA, storeA, cellsVal, Pr.ofOption, cells, fillA, splice, nz, dr, cln, flat, one, bnd, slA, items, appA, Hp.get, Hp.app, Hp.set, eqAll, eq1, lookA, resA, rvA, fin, AV.i, AV.b, AV.s, beq_int, bne_int, emp_is, emp_iff, runD, step2, clash, apartFP, Pr.log, eVals, roC, hl', ckRow, hl]

theorem e58 (c : List Col) (v : List Val) (hv0 : ∀ a ∈ v, a.text.size < 2 ^ 63) (hc : c.length < 2 ^ 62) : Is code ext 4 58 [roC c, eVals v] (.i (ckRow c v)) := by
  refine Is.step code ext c58 fun n hn => ?_
  have h := e96 c v hv0 hc n (by omega)
  simp only [eVals, roC] at h
  simp [A58, acode, runOps, step1, aop, wantedA, ev, put, opened, binV, binInt, binStr, app_v, Pr.run, Pr.map, Pr.bind, Pr.mapP, loadA, storeA, cellsVal, Pr.ofOption, cells, fillA, splice, nz, dr, cln, flat, one, bnd, slA, items, appA, Hp.get, Hp.app, Hp.set, eqAll, eq1, lookA, resA, rvA, fin, AV.i, AV.b, AV.s, beq_int, bne_int, emp_is, emp_iff, runD, step2, clash, apartFP, Pr.log, eVals, roC, h]
end Go.Pv

namespace Go.Pv
open Go
set_option maxRecDepth 100000
set_option maxHeartbeats 4000000

/-- How a loop ends: out by the label k with these temporaries, or the function returns, a value in temporary r. -/
def LE (k r : Nat) (F : List AV) (bs rs : List Ob) (out : Option AV) (e : Ex) (st : St) : Prop :=
  match out with
    | none => e = .ex k ∧ ∃ nx, st = (F, ⟨bs, rs, nx⟩)
    | some v => e = .ret ∧ st.1[r]? = some v ∧ st.2.rs = rs
theorem LE.back {k r : Nat} {F : List AV} {bs rs : List Ob} {v : AV} {e : Ex} {st : St} (h : LE k r F bs rs (some v) e st) : ∃ F bs nx, e = .ret ∧ st = (F, ⟨bs, rs, nx⟩) ∧ F[r]? = some v := by
  obtain ⟨h1, h2, rfl⟩ := h
  exact ⟨st.1, st.2.bs, st.2.nx, h1, rfl, h2⟩

theorem all_col (c : List Col) : (c.map Col.e).all (fun x => x.length == 2) = true := by
  rw [List.all_map]; simp [Function.comp_def, Col.e]

def hit (b : Bool) (f : Int) : Option AV := if b then some (.i f) else none
theorem hit_t (f : Int) : hit true f = some (.i f) := rfl
theorem hit_f (f : Int) : hit false f = none := rfl

theorem loop41a (call : Nat → List AV → Hp → Option (AV × Hp)) (n : Nat) (x : Col) (p : List Col) (t0 t13 t14 t15 : AV) (u : Nat) (hs : p.length < 2 ^ 62) (m i nx : Nat) (hi : i ≤ p.length) (hm : p.length - i < m) :
    ∃ e st, iter (acode call n A41L0) 1 A41M0 m (A41H0 t0 (.ptr 0 u 0) t13 t14 t15 (roC p) (.i p.length) (.i i), ⟨[.box u x.e], [], nx⟩) = some (e, st) ∧ LE 2 2 ((A41H0 t0 (.ptr 0 u 0) t13 t14 t15 (roC p) (.i p.length) (.i p.length)).set 29 (.b false)) [.box u x.e] [] (hit ((p.drop i).any fun y => y.name.toList == x.name.toList) 7) e st := by
  refine loop_list (f := acode call n A41L0) (k := 1) (M := A41M0) p (fun i (_ : Unit) nx => (A41H0 t0 (.ptr 0 u 0) t13 t14 t15 (roC p) (.i p.length) (.i i), ⟨[.box u x.e], [], nx⟩)) (fun _ _ => True) (fun i r _ e st => LE 2 2 ((A41H0 t0 (.ptr 0 u 0) t13 t14 t15 (roC p) (.i p.length) (.i p.length)).set 29 (.b false)) [.box u x.e] [] (hit (r.any fun y => y.name.toList == x.name.toList) 7) e st) ?_ ?_ m i () nx hi hm trivial
  · intro _ nx _
    have hb : acode call n A41L0 (A41H0 t0 (.ptr 0 u 0) t13 t14 t15 (roC p) (.i p.length) (.i p.length), ⟨[.box u x.e], [], nx⟩) = acode call n A41L0 (A41H0 t0 (.ptr 0 u 0) t13 t14 t15 (roC p) (.i p.length) (.i p.length), ⟨[.box u x.e], [], nx⟩) := rfl
    conv at hb => rhs; simp [acode, runOps, step1, aop, wantedA, ev, put, opened, binV, binInt, binStr, app_v, Pr.run, Pr.map, Pr.bind, Pr.mapP, loadA, storeA, cellsVal, Pr.ofOption, cells, fillA, splice, nz, dr, cln, flat, one, bnd, slA, items, appA, Hp.get, Hp.app, Hp.set, eqAll, eq1, lookA, resA, rvA, fin, AV.i, AV.b, AV.s, beq_int, bne_int, emp_is, emp_iff, runD, step2, clash, apartFP, Pr.log, A41L0]
    exact ⟨_, _, by simp, hb, by simp [LE, hit]⟩
  · intro i hi a _ nx hg _
    have hw := wrap_nat i (by omega)
    cases q : (a.name.toList == x.name.toList) with
    | true =>
      have hb : acode call n A41L0 (A41H0 t0 (.ptr 0 u 0) t13 t14 t15 (roC p) (.i p.length) (.i i), ⟨[.box u x.e], [], nx⟩) = acode call n A41L0 (A41H0 t0 (.ptr 0 u 0) t13 t14 t15 (roC p) (.i p.length) (.i i), ⟨[.box u x.e], [], nx⟩) := rfl
      conv at hb => rhs; simp [acode, runOps, step1, aop, wantedA, ev, put, opened, binV, binInt, binStr, app_v, Pr.run, Pr.map, Pr.bind, Pr.mapP, loadA, storeA, cellsVal, Pr.ofOption, cells, fillA, splice, nz, dr, cln, flat, one, bnd, slA, items, appA, Hp.get, Hp.app, Hp.set, eqAll, eq1, lookA, resA, rvA, fin, AV.i, AV.b, AV.s, beq_int, bne_int, emp_is, emp_iff, runD, step2, clash, apartFP, Pr.log, A41L0, hi, hg, hw, q, roC, Col.e]
      exact .inr ⟨.ret, _, by simp, hb, by simp [LE, hit, q]⟩
    | false =>
      have hb : acode call n A41L0 (A41H0 t0 (.ptr 0 u 0) t13 t14 t15 (roC p) (.i p.length) (.i i), ⟨[.box u x.e], [], nx⟩) = acode call n A41L0 (A41H0 t0 (.ptr 0 u 0) t13 t14 t15 (roC p) (.i p.length) (.i i), ⟨[.box u x.e], [], nx⟩) := rfl
      conv at hb => rhs; simp [acode, runOps, step1, aop, wantedA, ev, put, opened, binV, binInt, binStr, app_v, Pr.run, Pr.map, Pr.bind, Pr.mapP, loadA, storeA, cellsVal, Pr.ofOption, cells, fillA, splice, nz, dr, cln, flat, one, bnd, slA, items, appA, Hp.get, Hp.app, Hp.set, eqAll, eq1, lookA, resA, rvA, fin, AV.i, AV.b, AV.s, beq_int, bne_int, emp_is, emp_iff, runD, step2, clash, apartFP, Pr.log, A41L0, hi, hg, hw, q, roC, Col.e]
      exact .inl ⟨_, (), _, hb, by simp [trunc, mask, A41M0, roC, Col.e]; rfl, trivial, fun e st h => by simpa [q] using h⟩

theorem ckColsL_step (pre : List Col) (x : Col) (r : List Col) : ckColsL pre (x :: r) = if isName x.name = false then 5 else if pre.any (fun y => y.name.toList == x.name.toList) then 7 else if inB x.kind 1 3 = false then 4 else ckColsL (pre ++ [x]) r := rfl

theorem loop41b (n : Nat) (hn : 2 ^ 64 + 3 ≤ n) (c : List Col) (hs : c.length < 2 ^ 62) (m i nx : Nat) (hi : i ≤ c.length) (hm : c.length - i < m) :
    ∃ e st, iter (acode (run1 code ext n) n A41L1) 0 A41M1 m (A41H1 (roC c) (roC c) (.i c.length) (.i i), ⟨[], [], nx⟩) = some (e, st) ∧ LE 0 2 ((A41H1 (roC c) (roC c) (.i c.length) (.i c.length)).set 16 (.b false)) [] [] (fl (ckColsL (c.take i) (c.drop i))) e st := by
  refine loop_list (f := acode (run1 code ext n) n A41L1) (k := 0) (M := A41M1) c (fun i (_ : Unit) nx => (A41H1 (roC c) (roC c) (.i c.length) (.i i), ⟨[], [], nx⟩)) (fun _ _ => True) (fun i r _ e st => LE 0 2 ((A41H1 (roC c) (roC c) (.i c.length) (.i c.length)).set 16 (.b false)) [] [] (fl (ckColsL (c.take i) r)) e st) ?_ ?_ m i () nx hi hm trivial
  · intro _ nx _
    have hb : acode (run1 code ext n) n A41L1 (A41H1 (roC c) (roC c) (.i c.length) (.i c.length), ⟨[], [], nx⟩) = acode (run1 code ext n) n A41L1 (A41H1 (roC c) (roC c) (.i c.length) (.i c.length), ⟨[], [], nx⟩) := rfl
    conv at hb => rhs; simp [acode, runOps, step1, aop, wantedA, ev, put, opened, binV, binInt, binStr, app_v, Pr.run, Pr.map, Pr.bind, Pr.mapP, loadA, storeA, cellsVal, Pr.ofOption, cells, fillA, splice, nz, dr, cln, flat, one, bnd, slA, items, appA, Hp.get, Hp.app, Hp.set, eqAll, eq1, lookA, resA, rvA, fin, AV.i, AV.b, AV.s, beq_int, bne_int, emp_is, emp_iff, runD, step2, clash, apartFP, Pr.log, A41L1]
    exact ⟨_, _, by simp, hb, by simp [LE, ckColsL, fl]⟩
  · intro i hi x _ nx hg _
    have hw := wrap_nat i (by omega)
    have h1 := e83 x.name n (by omega)
    have h2 := e44 x.kind 1 3 n (by omega)
    have ht : c.take (i + 1) = c.take i ++ [x] := by rw [← hg]; exact (List.take_append_getElem hi).symm
    have hlen : (c.take i).length = i := by rw [List.length_take]; omega
    have hac := all_col c
    simp only [ckColsL_step]
    cases q1 : isName x.name with
    | false =>
      rw [q1] at h1
      have hb : acode (run1 code ext n) n A41L1 (A41H1 (roC c) (roC c) (.i c.length) (.i i), ⟨[], [], nx⟩) = acode (run1 code ext n) n A41L1 (A41H1 (roC c) (roC c) (.i c.length) (.i i), ⟨[], [], nx⟩) := rfl
      conv at hb => rhs; simp [acode, runOps, step1, aop, wantedA, ev, put, opened, binV, binInt, binStr, app_v, Pr.run, Pr.map, Pr.bind, Pr.mapP, loadA, storeA, cellsVal, Pr.ofOption, cells, fillA, splice, nz, dr, cln, flat, one, bnd, slA, items, appA, Hp.get, Hp.app, Hp.set, eqAll, eq1, lookA, resA, rvA, fin, AV.i, AV.b, AV.s, beq_int, bne_int, emp_is, emp_iff, runD, step2, clash, apartFP, Pr.log, A41L1, hi, hg, hw, h1, roC, Col.e]
      exact .inr ⟨.ret, _, by simp, hb, by simp [LE, fl]⟩
    | true =>
      rw [q1] at h1
      obtain ⟨e, st, k1, k2⟩ := loop41a (run1 code ext n) n x (c.take i) (roC c) (roC c) (.i c.length) (.i i) (nx + 1 + 3) (by omega) n 0 (nx + 1 + 6 + 4 + 5) (by omega) (by omega)
      simp only [List.drop_zero] at k2
      simp only [hlen, roC, Col.e, Int.natCast_zero, List.map_take] at k1
      have hile : i ≤ c.length := by omega
      cases q2 : ((c.take i).any fun y => y.name.toList == x.name.toList) with
      | true =>
        rw [q2, hit_t] at k2
        obtain ⟨F, bs, nx', rfl, rfl, hF⟩ := k2.back
        have hb : acode (run1 code ext n) n A41L1 (A41H1 (roC c) (roC c) (.i c.length) (.i i), ⟨[], [], nx⟩) = acode (run1 code ext n) n A41L1 (A41H1 (roC c) (roC c) (.i c.length) (.i i), ⟨[], [], nx⟩) := rfl
        conv at hb => rhs; simp [acode, runOps, step1, aop, wantedA, ev, put, opened, binV, binInt, binStr, app_v, Pr.run, Pr.map, Pr.bind, Pr.mapP, loadA, storeA, cellsVal, Pr.ofOption, cells, fillA, splice, nz, dr, cln, flat, one, bnd, slA, items, appA, Hp.get, Hp.app, Hp.set, eqAll, eq1, lookA, resA, rvA, fin, AV.i, AV.b, AV.s, beq_int, bne_int, emp_is, emp_iff, runD, step2, clash, apartFP, Pr.log, A41L1, hi, hg, hw, h1, roC, Col.e, hac, A41M0_eq, k1, hile, hlen]
        exact .inr ⟨.ret, _, by simp, hb, by simp [LE, fl, hF]⟩
      | false =>
        rw [q2, hit_f] at k2
        obtain ⟨rfl, nx', rfl⟩ := k2
        cases q3 : inB x.kind 1 3 with
        | false =>
          rw [q3] at h2
          have hb : acode (run1 code ext n) n A41L1 (A41H1 (roC c) (roC c) (.i c.length) (.i i), ⟨[], [], nx⟩) = acode (run1 code ext n) n A41L1 (A41H1 (roC c) (roC c) (.i c.length) (.i i), ⟨[], [], nx⟩) := rfl
          conv at hb => rhs; simp [acode, runOps, step1, aop, wantedA, ev, put, opened, binV, binInt, binStr, app_v, Pr.run, Pr.map, Pr.bind, Pr.mapP, loadA, storeA, cellsVal, Pr.ofOption, cells, fillA, splice, nz, dr, cln, flat, one, bnd, slA, items, appA, Hp.get, Hp.app, Hp.set, eqAll, eq1, lookA, resA, rvA, fin, AV.i, AV.b, AV.s, beq_int, bne_int, emp_is, emp_iff, runD, step2, clash, apartFP, Pr.log, A41L1, hi, hg, hw, h1, h2, roC, Col.e, hac, A41M0_eq, k1, hile, hlen]
          exact .inr ⟨.ret, _, by simp, hb, by simp [LE, fl]⟩
        | true =>
          rw [q3] at h2
          have hb : acode (run1 code ext n) n A41L1 (A41H1 (roC c) (roC c) (.i c.length) (.i i), ⟨[], [], nx⟩) = acode (run1 code ext n) n A41L1 (A41H1 (roC c) (roC c) (.i c.length) (.i i), ⟨[], [], nx⟩) := rfl
          conv at hb => rhs; simp [acode, runOps, step1, aop, wantedA, ev, put, opened, binV, binInt, binStr, app_v, Pr.run, Pr.map, Pr.bind, Pr.mapP, loadA, storeA, cellsVal, Pr.ofOption, cells, fillA, splice, nz, dr, cln, flat, one, bnd, slA, items, appA, Hp.get, Hp.app, Hp.set, eqAll, eq1, lookA, resA, rvA, fin, AV.i, AV.b, AV.s, beq_int, bne_int, emp_is, emp_iff, runD, step2, clash, apartFP, Pr.log, A41L1, hi, hg, hw, h1, h2, roC, Col.e, hac, A41M0_eq, k1, hile, hlen]
          exact .inl ⟨_, (), _, hb, by simp [trunc, mask, A41M1, roC, Col.e]; rfl, trivial, fun e st h => by simpa [ht] using h⟩

theorem e41 (c : List Col) : Is code ext 4 41 [roC c] (.i (ckCols c)) := by
  refine Is.step code ext c41 fun n hn => ?_
  by_cases h1 : c.length > 20
  · have h1' : (20 : Int) < c.length := by omega
    simp [A41, acode, runOps, step1, aop, wantedA, ev, put, opened, binV, binInt, binStr, app_v, Pr.run, Pr.map, Pr.bind, Pr.mapP, loadA, storeA, cellsVal, Pr.ofOption, cells, fillA, splice, nz, dr, cln, flat, one, bnd, slA, items, appA, Hp.get, Hp.app, Hp.set, eqAll, eq1, lookA, resA, rvA, fin, AV.i, AV.b, AV.s, beq_int, bne_int, emp_is, emp_iff, runD, step2, clash, apartFP, Pr.log, roC, h1', h1, ckCols]
  · have h1' : ¬ (20 : Int) < c.length := by omega
    by_cases h2 : c.length = 0
    · have := List.length_eq_zero_iff.1 h2
      subst this
      simp [A41, acode, runOps, step1, aop, wantedA, ev, put, opened, binV, binInt, binStr, app_v, Pr.run, Pr.map, Pr.bind, Pr.mapP, loadA, storeA, cellsVal, Pr.ofOption, cells, fillA, splice, nz, dr, cln, flat, one, bnd, slA, items, appA, Hp.get, Hp.app, Hp.set, eqAll, eq1, lookA, resA, rvA, fin, AV.i, AV.b, AV.s, beq_int, bne_int, emp_is, emp_iff, runD, step2, clash, apartFP, Pr.log, roC, ckCols]
    · have h2' : ¬ c = [] := fun h => h2 (by rw [h]; rfl)
      obtain ⟨e, st, q2, q3⟩ := loop41b n (by omega) c (by omega) n 0 10 (Nat.zero_le _) (by omega)
      simp only [List.drop_zero, List.take_zero] at q3
      simp only [Int.natCast_zero, roC] at q2
      by_cases hq : ckColsL [] c = 0
      · rw [hq, fl_zero] at q3
        obtain ⟨rfl, nx, rfl⟩ := q3
        simp [A41, acode, runOps, step1, aop, wantedA, ev, put, opened, binV, binInt, binStr, app_v, Pr.run, Pr.map, Pr.bind, Pr.mapP, loadA, storeA, cellsVal, Pr.ofOption, cells, fillA, splice, nz, dr, cln, flat, one, bnd, slA, items, appA, Hp.get, Hp.app, Hp.set, eqAll, eq1, lookA, resA, rvA, fin, AV.i, AV.b, AV.s, beq_int, bne_int, emp_is, emp_iff, runD, step2, clash, apartFP, Pr.log, roC, h1', h1, h2', ckCols, A41M1_eq, q2, hq]
      · rw [fl_pos hq] at q3
        obtain ⟨F, bs, nx, rfl, rfl, hF⟩ := q3.back
        simp [A41, acode, runOps, step1, aop, wantedA, ev, put, opened, binV, binInt, binStr, app_v, Pr.run, Pr.map, Pr.bind, Pr.mapP, loadA, storeA, cellsVal, Pr.ofOption, cells, fillA, splice, nz, dr, cln, flat, one, bnd, slA, items, appA, Hp.get, Hp.app, Hp.set, eqAll, eq1, lookA, resA, rvA, fin, AV.i, AV.b, AV.s, beq_int, bne_int, emp_is, emp_iff, runD, step2, clash, apartFP, Pr.log, roC, h1', h1, h2', ckCols, A41M1_eq, q2, hF]

theorem loop43a (call : Nat → List AV → Hp → Option (AV × Hp)) (n : Nat) (c : List Col) (j : Nat) (hj : j < c.length) (x : Col) (hx : c[j] = x) (hs : c.length < 2 ^ 62) (m i nx : Nat) (hi : i ≤ (c.take j).length) (hm : (c.take j).length - i < m) :
    ∃ e st, iter (acode call n A43L0) 0 A43M0 m (A43H0 (roC c) (.i j) (.i i), ⟨[], [], nx⟩) = some (e, st) ∧ LE 2 2 ((((A43H0 (roC c) (.i j) (.i j)).set 24 (.i j)).set 25 (.i j)).set 26 (.b false)) [] [] (hit (((c.take j).drop i).any fun y => y.name.toList == x.name.toList) 7) e st := by
  have hlen : (c.take j).length = j := by rw [List.length_take]; omega
  refine loop_list (f := acode call n A43L0) (k := 0) (M := A43M0) (c.take j) (fun i (_ : Unit) nx => (A43H0 (roC c) (.i j) (.i i), ⟨[], [], nx⟩)) (fun _ _ => True) (fun i r _ e st => LE 2 2 ((((A43H0 (roC c) (.i j) (.i j)).set 24 (.i j)).set 25 (.i j)).set 26 (.b false)) [] [] (hit (r.any fun y => y.name.toList == x.name.toList) 7) e st) ?_ ?_ m i () nx hi hm trivial
  · intro _ nx _
    rw [hlen]
    have hb : acode call n A43L0 (A43H0 (roC c) (.i j) (.i j), ⟨[], [], nx⟩) = acode call n A43L0 (A43H0 (roC c) (.i j) (.i j), ⟨[], [], nx⟩) := rfl
    conv at hb => rhs; simp [acode, runOps, step1, aop, wantedA, ev, put, opened, binV, binInt, binStr, app_v, Pr.run, Pr.map, Pr.bind, Pr.mapP, loadA, storeA, cellsVal, Pr.ofOption, cells, fillA, splice, nz, dr, cln, flat, one, bnd, slA, items, appA, Hp.get, Hp.app, Hp.set, eqAll, eq1, lookA, resA, rvA, fin, AV.i, AV.b, AV.s, beq_int, bne_int, emp_is, emp_iff, runD, step2, clash, apartFP, Pr.log, A43L0]
    exact ⟨_, _, by simp, hb, by simp [LE, hit]⟩
  · intro i hi a _ nx hg0 _
    have hij : i < j := by omega
    have hic : i < c.length := by omega
    have hg : c[i] = a := by rw [← hg0, List.getElem_take]
    have hw := wrap_nat i (by omega)
    cases q : (a.name.toList == x.name.toList) with
    | true =>
      have hb : acode call n A43L0 (A43H0 (roC c) (.i j) (.i i), ⟨[], [], nx⟩) = acode call n A43L0 (A43H0 (roC c) (.i j) (.i i), ⟨[], [], nx⟩) := rfl
      conv at hb => rhs; simp [acode, runOps, step1, aop, wantedA, ev, put, opened, binV, binInt, binStr, app_v, Pr.run, Pr.map, Pr.bind, Pr.mapP, loadA, storeA, cellsVal, Pr.ofOption, cells, fillA, splice, nz, dr, cln, flat, one, bnd, slA, items, appA, Hp.get, Hp.app, Hp.set, eqAll, eq1, lookA, resA, rvA, fin, AV.i, AV.b, AV.s, beq_int, bne_int, emp_is, emp_iff, runD, step2, clash, apartFP, Pr.log, A43L0, hij, hic, hj, hg, hx, hw, q, roC, Col.e]
      exact .inr ⟨.ret, _, by simp, hb, by simp [LE, hit, q]⟩
    | false =>
      have hb : acode call n A43L0 (A43H0 (roC c) (.i j) (.i i), ⟨[], [], nx⟩) = acode call n A43L0 (A43H0 (roC c) (.i j) (.i i), ⟨[], [], nx⟩) := rfl
      conv at hb => rhs; simp [acode, runOps, step1, aop, wantedA, ev, put, opened, binV, binInt, binStr, app_v, Pr.run, Pr.map, Pr.bind, Pr.mapP, loadA, storeA, cellsVal, Pr.ofOption, cells, fillA, splice, nz, dr, cln, flat, one, bnd, slA, items, appA, Hp.get, Hp.app, Hp.set, eqAll, eq1, lookA, resA, rvA, fin, AV.i, AV.b, AV.s, beq_int, bne_int, emp_is, emp_iff, runD, step2, clash, apartFP, Pr.log, A43L0, hij, hic, hj, hg, hx, hw, q, roC, Col.e]
      exact .inl ⟨_, (), _, hb, by simp [trunc, mask, A43M0, roC, Col.e]; rfl, trivial, fun e st h => by simpa [q] using h⟩

theorem loop43b (n : Nat) (hn : 2 ^ 64 + 3 ≤ n) (c : List Col) (hc : ∀ x ∈ c, x.name.size < 2 ^ 63) (hs : c.length < 2 ^ 62) (m i nx : Nat) (hi : i ≤ c.length) (hm : c.length - i < m) :
    ∃ e st, iter (acode (run1 code ext n) n A43L1) 0 A43M1 m (A43H1 (roC c) (.i i), ⟨[], [], nx⟩) = some (e, st) ∧ LR 0 2 47 [] [] (fl (ckColsL (c.take i) (c.drop i))) e st := by
  refine loop_list (f := acode (run1 code ext n) n A43L1) (k := 0) (M := A43M1) c (fun i (_ : Unit) nx => (A43H1 (roC c) (.i i), ⟨[], [], nx⟩)) (fun _ _ => True) (fun i r _ e st => LR 0 2 47 [] [] (fl (ckColsL (c.take i) r)) e st) ?_ ?_ m i () nx hi hm trivial
  · intro _ nx _
    have hb : acode (run1 code ext n) n A43L1 (A43H1 (roC c) (.i c.length), ⟨[], [], nx⟩) = acode (run1 code ext n) n A43L1 (A43H1 (roC c) (.i c.length), ⟨[], [], nx⟩) := rfl
    conv at hb => rhs; simp [acode, runOps, step1, aop, wantedA, ev, put, opened, binV, binInt, binStr, app_v, Pr.run, Pr.map, Pr.bind, Pr.mapP, loadA, storeA, cellsVal, Pr.ofOption, cells, fillA, splice, nz, dr, cln, flat, one, bnd, slA, items, appA, Hp.get, Hp.app, Hp.set, eqAll, eq1, lookA, resA, rvA, fin, AV.i, AV.b, AV.s, beq_int, bne_int, emp_is, emp_iff, runD, step2, clash, apartFP, Pr.log, A43L1]
    exact ⟨_, _, by simp, hb, by simp [LR, ckColsL, fl]⟩
  · intro i hi x _ nx hg _
    have hw := wrap_nat i (by omega)
    have h1 := e84 x.name (hc x (by rw [← hg]; exact List.getElem_mem _)) n (by omega)
    have h2 := e85 x.kind 1 3 n (by omega)
    have ht : c.take (i + 1) = c.take i ++ [x] := by rw [← hg]; exact (List.take_append_getElem hi).symm
    have hlen : (c.take i).length = i := by rw [List.length_take]; omega
    simp only [ckColsL_step]
    cases q1 : isName x.name with
    | false =>
      rw [q1] at h1
      have hb : acode (run1 code ext n) n A43L1 (A43H1 (roC c) (.i i), ⟨[], [], nx⟩) = acode (run1 code ext n) n A43L1 (A43H1 (roC c) (.i i), ⟨[], [], nx⟩) := rfl
      conv at hb => rhs; simp [acode, runOps, step1, aop, wantedA, ev, put, opened, binV, binInt, binStr, app_v, Pr.run, Pr.map, Pr.bind, Pr.mapP, loadA, storeA, cellsVal, Pr.ofOption, cells, fillA, splice, nz, dr, cln, flat, one, bnd, slA, items, appA, Hp.get, Hp.app, Hp.set, eqAll, eq1, lookA, resA, rvA, fin, AV.i, AV.b, AV.s, beq_int, bne_int, emp_is, emp_iff, runD, step2, clash, apartFP, Pr.log, A43L1, hi, hg, hw, h1, roC, Col.e]
      exact .inr ⟨.ret, _, by simp, hb, by simp [LR, fl]⟩
    | true =>
      rw [q1] at h1
      obtain ⟨e, st, k1, k2⟩ := loop43a (run1 code ext n) n c i hi x hg hs n 0 (nx + 4 + 7 + 1) (by omega) (by omega)
      simp only [List.drop_zero] at k2
      simp only [roC, Int.natCast_zero] at k1
      cases q2 : ((c.take i).any fun y => y.name.toList == x.name.toList) with
      | true =>
        rw [q2, hit_t] at k2
        obtain ⟨F, bs, nx', rfl, rfl, hF⟩ := k2.back
        have hb : acode (run1 code ext n) n A43L1 (A43H1 (roC c) (.i i), ⟨[], [], nx⟩) = acode (run1 code ext n) n A43L1 (A43H1 (roC c) (.i i), ⟨[], [], nx⟩) := rfl
        conv at hb => rhs; simp [acode, runOps, step1, aop, wantedA, ev, put, opened, binV, binInt, binStr, app_v, Pr.run, Pr.map, Pr.bind, Pr.mapP, loadA, storeA, cellsVal, Pr.ofOption, cells, fillA, splice, nz, dr, cln, flat, one, bnd, slA, items, appA, Hp.get, Hp.app, Hp.set, eqAll, eq1, lookA, resA, rvA, fin, AV.i, AV.b, AV.s, beq_int, bne_int, emp_is, emp_iff, runD, step2, clash, apartFP, Pr.log, A43L1, hi, hg, hw, h1, roC, Col.e, A43M0_eq, k1]
        exact .inr ⟨.ret, _, by simp, hb, by simp [LR, fl, hF]⟩
      | false =>
        rw [q2, hit_f] at k2
        obtain ⟨rfl, nx', rfl⟩ := k2
        cases q3 : inB x.kind 1 3 with
        | false =>
          rw [q3] at h2
          have hb : acode (run1 code ext n) n A43L1 (A43H1 (roC c) (.i i), ⟨[], [], nx⟩) = acode (run1 code ext n) n A43L1 (A43H1 (roC c) (.i i), ⟨[], [], nx⟩) := rfl
          conv at hb => rhs; simp [acode, runOps, step1, aop, wantedA, ev, put, opened, binV, binInt, binStr, app_v, Pr.run, Pr.map, Pr.bind, Pr.mapP, loadA, storeA, cellsVal, Pr.ofOption, cells, fillA, splice, nz, dr, cln, flat, one, bnd, slA, items, appA, Hp.get, Hp.app, Hp.set, eqAll, eq1, lookA, resA, rvA, fin, AV.i, AV.b, AV.s, beq_int, bne_int, emp_is, emp_iff, runD, step2, clash, apartFP, Pr.log, A43L1, hi, hg, hw, h1, h2, roC, Col.e, A43M0_eq, k1]
          exact .inr ⟨.ret, _, by simp, hb, by simp [LR, fl]⟩
        | true =>
          rw [q3] at h2
          have hb : acode (run1 code ext n) n A43L1 (A43H1 (roC c) (.i i), ⟨[], [], nx⟩) = acode (run1 code ext n) n A43L1 (A43H1 (roC c) (.i i), ⟨[], [], nx⟩) := rfl
          conv at hb => rhs; simp [acode, runOps, step1, aop, wantedA, ev, put, opened, binV, binInt, binStr, app_v, Pr.run, Pr.map, Pr.bind, Pr.mapP, loadA, storeA, cellsVal, Pr.ofOption, cells, fillA, splice, nz, dr, cln, flat, one, bnd, slA, items, appA, Hp.get, Hp.app, Hp.set, eqAll, eq1, lookA, resA, rvA, fin, AV.i, AV.b, AV.s, beq_int, bne_int, emp_is, emp_iff, runD, step2, clash, apartFP, Pr.log, A43L1, hi, hg, hw, h1, h2, roC, Col.e, A43M0_eq, k1]
          exact .inl ⟨_, (), _, hb, by simp [trunc, mask, A43M1, roC, Col.e]; rfl, trivial, fun e st h => by simpa [ht] using h⟩

theorem e43 (c : List Col) (hc : ∀ x ∈ c, x.name.size < 2 ^ 63) : Is code ext 4 43 [roC c] (.i (ckCols c)) := by
  refine Is.step code ext c43 fun n hn => ?_
  by_cases h1 : c.length > 20
  · have h1' : (20 : Int) < c.length := by omega
    simp [A43, acode, runOps, step1, aop, wantedA, ev, put, opened, binV, binInt, binStr, app_v, Pr.run, Pr.map, Pr.bind, Pr.mapP, loadA, storeA, cellsVal, Pr.ofOption, cells, fillA, splice, nz, dr, cln, flat, one, bnd, slA, items, appA, Hp.get, Hp.app, Hp.set, eqAll, eq1, lookA, resA, rvA, fin, AV.i, AV.b, AV.s, beq_int, bne_int, emp_is, emp_iff, runD, step2, clash, apartFP, Pr.log, roC, h1', h1, ckCols]
  · have h1' : ¬ (20 : Int) < c.length := by omega
    by_cases h2 : c.length = 0
    · have := List.length_eq_zero_iff.1 h2
      subst this
      simp [A43, acode, runOps, step1, aop, wantedA, ev, put, opened, binV, binInt, binStr, app_v, Pr.run, Pr.map, Pr.bind, Pr.mapP, loadA, storeA, cellsVal, Pr.ofOption, cells, fillA, splice, nz, dr, cln, flat, one, bnd, slA, items, appA, Hp.get, Hp.app, Hp.set, eqAll, eq1, lookA, resA, rvA, fin, AV.i, AV.b, AV.s, beq_int, bne_int, emp_is, emp_iff, runD, step2, clash, apartFP, Pr.log, roC, ckCols]
    · have h2' : ¬ c = [] := fun h => h2 (by rw [h]; rfl)
      obtain ⟨e, st, q2, q3⟩ := loop43b n (by omega) c hc (by omega) n 0 8 (Nat.zero_le _) (by omega)
      simp only [List.drop_zero, List.take_zero] at q3
      simp only [Int.natCast_zero, roC] at q2
      by_cases hq : ckColsL [] c = 0
      · rw [hq, fl_zero] at q3
        obtain ⟨F, bs, nx, rfl, rfl, hF, _⟩ := q3.exit
        simp [A43, acode, runOps, step1, aop, wantedA, ev, put, opened, binV, binInt, binStr, app_v, Pr.run, Pr.map, Pr.bind, Pr.mapP, loadA, storeA, cellsVal, Pr.ofOption, cells, fillA, splice, nz, dr, cln, flat, one, bnd, slA, items, appA, Hp.get, Hp.app, Hp.set, eqAll, eq1, lookA, resA, rvA, fin, AV.i, AV.b, AV.s, beq_int, bne_int, emp_is, emp_iff, runD, step2, clash, apartFP, Pr.log, roC, h1', h1, h2', ckCols, A43M1_eq, q2, hq, hF]
      · rw [fl_pos hq] at q3
        obtain ⟨F, bs, nx, rfl, rfl, hF⟩ := q3.back
        simp [A43, acode, runOps, step1, aop, wantedA, ev, put, opened, binV, binInt, binStr, app_v, Pr.run, Pr.map, Pr.bind, Pr.mapP, loadA, storeA, cellsVal, Pr.ofOption, cells, fillA, splice, nz, dr, cln, flat, one, bnd, slA, items, appA, Hp.get, Hp.app, Hp.set, eqAll, eq1, lookA, resA, rvA, fin, AV.i, AV.b, AV.s, beq_int, bne_int, emp_is, emp_iff, runD, step2, clash, apartFP, Pr.log, roC, h1', h1, h2', ckCols, A43M1_eq, q2, hF]
end Go.Pv
