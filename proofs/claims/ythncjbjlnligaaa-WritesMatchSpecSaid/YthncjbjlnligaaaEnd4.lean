/-
  The given statement on law 4 of the seat: for every input it returns true. Conditions: none.
-/
import Derived.Test.YthncjbjlnligaaaPvT
import Derived.Test.YthncjbjlnligaaaChecked
import Derived.KernelRfl
import Derived.Test.YthncjbjlnligaaaRows
import Derived.ProofKit
set_option linter.unusedVariables false
set_option linter.unusedSimpArgs false
namespace Go.Pv
open Go
set_option maxRecDepth 100000
set_option maxHeartbeats 8000000

theorem sz_empty : Sz emptySto := ⟨by simp [emptySto], by simp [emptySto], by simp [emptySto], by simp [emptySto], by simp [emptySto], by simp [emptySto]⟩
theorem sz_put {s : Sto} (hs : Sz s) (k : Nat) (t : Tr) (w : Wr) (ht : t ∈ s.opn) (hl : t.writes.length ≤ 200) (hwl : w.vals.length < 2 ^ 63) (nr : Int) : Sz { putW s k t w with nextRow := nr } := by
  refine ⟨hs.c, hs.v, by simp [putW]; exact hs.o, hs.vv, fun t' ht' => ?_, fun t' ht' w' hw' => ?_⟩
  · rcases List.mem_or_eq_of_mem_set ht' with h | rfl
    · exact hs.ow t' h
    · simp; omega
  · rcases List.mem_or_eq_of_mem_set ht' with h | rfl
    · exact hs.ov t' h w' hw'
    · rcases List.mem_append.1 hw' with h | h
      · exact hs.ov t ht w' h
      · obtain rfl : w' = w := by simpa using h
        exact hwl
theorem sz_ch {s : Sto} (hs : Sz s) (id : Int) (w : Wr) (hwl : w.vals.length < 2 ^ 63) : Sz (chR s id w).1 := by
  refine abort_cases s id _ ?_ ?_ ?_
  · intro q1 _ _ _; rw [chR_1 q1]; exact sz_empty
  · intro q1 q2 _ _ _; rw [chR_2 q1 q2]; exact sz_empty
  · intro k q1 q2 q3 _ _ _
    obtain ⟨t, ht⟩ : ∃ t, s.opn[k] = t := ⟨_, rfl⟩
    have htk : s.opn[k]? = some t := by rw [List.getElem?_eq_getElem q3, ht]
    have hmem : t ∈ s.opn := by rw [← ht]; exact List.getElem_mem _
    rw [chR_3 q1 q2 htk]
    split
    · exact sz_empty
    · unfold wrR
      split
      · exact sz_empty
      split
      · exact sz_empty
      · exact sz_put hs k t w hmem (tr_ok q1 hmem).2.2.2.2 hwl s.nextRow
theorem sz_ins {s : Sto} (hs : Sz s) (id : Int) (v : List Val) (hwl : v.length < 2 ^ 63) : Sz (insR s id v).1 := by
  refine abort_cases s id _ ?_ ?_ ?_
  · intro q1 _ _ _; rw [insR_1 q1]; exact sz_empty
  · intro q1 q2 _ _ _; rw [insR_2 q1 q2]; exact sz_empty
  · intro k q1 q2 q3 _ _ _
    obtain ⟨t, ht⟩ : ∃ t, s.opn[k] = t := ⟨_, rfl⟩
    have htk : s.opn[k]? = some t := by rw [List.getElem?_eq_getElem q3, ht]
    have hmem : t ∈ s.opn := by rw [← ht]; exact List.getElem_mem _
    rw [insR_3 q1 q2 htk]
    split
    · exact sz_empty
    split
    · exact sz_empty
    split
    · exact sz_empty
    · exact sz_put hs k t _ hmem (tr_ok q1 hmem).2.2.2.2 hwl _

theorem law4 (s : Sto) (hw : Wf s) (hs : Sz s) (id row : Int) (v : List Val) (hv : ∀ a ∈ v, a.text.size < 2 ^ 63) (hvl : v.length < 2 ^ 63) : ∃ n h', absCall code ext n 4 [.agg s.e, .i id, .i row, eVals v] ⟨[], [], 0⟩ = some (.b true, h') := by
  refine ⟨2 ^ 64 + 20 + 1, ?_⟩
  obtain ⟨n, hn⟩ : ∃ n, 2 ^ 64 + 20 = n := ⟨_, rfl⟩
  rw [hn]
  have e1 := e19 s hw id v n (by omega)
  have e2 := e20 s hw id v hv n (by omega)
  have e3 := e21 s hw id row n (by omega)
  have e4 := e22 s hw id row n (by omega)
  have e5 := e23 s hw id row v n (by omega)
  have e6 := e24 s hw id row v hv n (by omega)
  have s1 := e13 _ (sz_ins hs id v hvl) n (by omega)
  have s2 := e13 _ (sz_ch hs id ⟨2, row, []⟩ (by simp)) n (by omega)
  have s3 := e13 _ (sz_ch hs id ⟨3, row, v⟩ hvl) n (by omega)
  have e18 := e18 n (by omega)
  obtain ⟨x, hx⟩ : ∃ x, insR s id v = x := ⟨_, rfl⟩
  obtain ⟨y, hy⟩ : ∃ y, chR s id ⟨2, row, []⟩ = y := ⟨_, rfl⟩
  obtain ⟨z, hz⟩ : ∃ z, chR s id ⟨3, row, v⟩ = z := ⟨_, rfl⟩
  rw [hx] at e1 e2 s1
  rw [hy] at e3 e4 s2
  rw [hz] at e5 e6 s3
  obtain ⟨x, x1, x2⟩ := x
  obtain ⟨y, y1⟩ := y
  obtain ⟨z, z1⟩ := z
  simp only [Sto.e, eVals] at e1 e2 e3 e4 e5 e6 s1 s2 s3
  unfold absCall
  simp only [c4, x4]
  rw [show absCall code ext n = run1 code ext n from rfl]
  have hb : acode (run1 code ext n) n A4.code ([.agg s.e, .i id, .i row, eVals v] ++ List.replicate (A4.nt - [AV.agg s.e, .i id, .i row, eVals v].length) .top, ⟨[], [], 0⟩) = acode (run1 code ext n) n A4.code ([.agg s.e, .i id, .i row, eVals v] ++ List.replicate (A4.nt - [AV.agg s.e, .i id, .i row, eVals v].length) .top, ⟨[], [], 0⟩) := rfl
  conv at hb => rhs; simp [acode, runOps, step1, aop, wantedA, ev, put, opened, binV, binInt, binStr, app_v, Pr.run, Pr.map, Pr.bind, Pr.mapP, loadA, storeA, cellsVal, Pr.ofOption, cells, fillA, splice, nz, dr, cln, flat, one, bnd, slA, items, appA, Hp.get, Hp.app, Hp.set, eqAll, eq1, lookA, resA, rvA, fin, AV.i, AV.b, AV.s, beq_int, bne_int, emp_is, emp_iff, runD, step2, clash, apartFP, Pr.log, A4, Sto.e, eVals, e1, e2, e3, e4, e5, e6, e18, s1, s2, s3]
  rw [hb]
  exact ⟨_, by simp [A4, resA, rvA]; rfl⟩
end Go.Pv

namespace Go.Pv
open Go Go.Proofs

def okI (n : Int) : Prop := -9223372036854775808 ≤ n ∧ n ≤ 9223372036854775807
def Col.ok (c : Col) : Prop := c.name.size ≤ maxLen ∧ okI c.kind
def Val.ok (v : Val) : Prop := okI v.kind ∧ okI v.num ∧ v.text.size ≤ maxLen
def okVals (l : List Val) : Prop := l.length ≤ maxLen ∧ ∀ v ∈ l, v.ok

theorem okI_of {n : Int} (h : (Lit.int .i64 n).wf = true) : okI n := by
  simp [Lit.wf, IntKind.min, IntKind.max, IntKind.bits, IntKind.signed] at h
  unfold okI; omega

theorem fit_int {xs : List AV} (h : Fit Try.prog 3 xs) : ∃ n, xs = [.i n] ∧ okI n := by
  obtain ⟨n, h1, h2⟩ := h.int_inv (show Try.prog.underlying 3 = some (.int .i64) by kernel_rfl)
  exact ⟨n, h1, okI_of h2⟩
theorem fit_str {xs : List AV} (h : Fit Try.prog 9 xs) : ∃ s : ByteArray, xs = [.s s] ∧ s.size ≤ maxLen := h.str_inv (by kernel_rfl)

theorem fit_val {xs : List AV} (h : Fit Try.prog 94 xs) : ∃ v : Val, v.e = xs ∧ v.ok := by
  have h := h.struct_inv Try.underlying94
  simp only [] at h
  obtain ⟨a, xs, rfl, ha, h⟩ := FitS.cons_inv h
  obtain ⟨b, xs, rfl, hb, h⟩ := FitS.cons_inv h
  obtain ⟨c, xs, rfl, hc, h⟩ := FitS.cons_inv h
  obtain rfl := h.nil_inv
  obtain ⟨x, rfl, hx⟩ := fit_int ha
  obtain ⟨y, rfl, hy⟩ := fit_int hb
  obtain ⟨z, rfl, hz⟩ := fit_str hc
  exact ⟨⟨x, y, z⟩, rfl, hx, hy, hz⟩

def Ver.ok (v : Ver) : Prop := okI v.row ∧ okI v.frm ∧ okI v.to ∧ okVals v.vals
def Wr.ok (v : Wr) : Prop := okI v.kind ∧ okI v.row ∧ okVals v.vals
def Tr.ok (t : Tr) : Prop := okI t.id ∧ okI t.sees ∧ t.writes.length ≤ maxLen ∧ ∀ w ∈ t.writes, w.ok
def okCols (l : List Col) : Prop := l.length ≤ maxLen ∧ ∀ c ∈ l, c.ok
def Sto.ok (s : Sto) : Prop := okCols s.cols ∧ (s.vers.length ≤ maxLen ∧ ∀ v ∈ s.vers, v.ok) ∧ okI s.last ∧ okI s.nextRow ∧ okI s.nextTrans ∧ okI s.swept ∧ (s.opn.length ≤ maxLen ∧ ∀ t ∈ s.opn, t.ok)

theorem fit_vals {xs : List AV} (h : Fit Try.prog 37 xs) : ∃ l : List Val, xs = [eVals l] ∧ okVals l := by
  obtain ⟨ys, rfl, h1, h2⟩ := h.slice_inv Try.underlying37 (by decide +kernel)
  obtain ⟨l, rfl, h3⟩ := ex_map (fun x => fit_val (xs := x)) ys h2
  exact ⟨l, rfl, by simpa using h1, h3⟩
theorem fit_col {xs : List AV} (h : Fit Try.prog 72 xs) : ∃ c : Col, c.e = xs ∧ c.ok := by
  have h := h.struct_inv Try.underlying72
  obtain ⟨a, xs, rfl, ha, h⟩ := FitS.cons_inv h
  obtain ⟨b, xs, rfl, hb, h⟩ := FitS.cons_inv h
  obtain rfl := h.nil_inv
  obtain ⟨x, rfl, hx⟩ := fit_str ha
  obtain ⟨y, rfl, hy⟩ := fit_int hb
  exact ⟨⟨x, y⟩, rfl, hx, hy⟩
theorem fit_ver {xs : List AV} (h : Fit Try.prog 88 xs) : ∃ c : Ver, c.e = xs ∧ c.ok := by
  have h := h.struct_inv Try.underlying88
  obtain ⟨a, xs, rfl, ha, h⟩ := FitS.cons_inv h
  obtain ⟨b, xs, rfl, hb, h⟩ := FitS.cons_inv h
  obtain ⟨c, xs, rfl, hc, h⟩ := FitS.cons_inv h
  obtain ⟨d, xs, rfl, hd, h⟩ := FitS.cons_inv h
  obtain rfl := h.nil_inv
  obtain ⟨x, rfl, hx⟩ := fit_int ha
  obtain ⟨y, rfl, hy⟩ := fit_int hb
  obtain ⟨z, rfl, hz⟩ := fit_int hc
  obtain ⟨l, rfl, hl⟩ := fit_vals hd
  exact ⟨⟨x, y, z, l⟩, rfl, hx, hy, hz, hl⟩
theorem fit_wr {xs : List AV} (h : Fit Try.prog 62 xs) : ∃ c : Wr, c.e = xs ∧ c.ok := by
  have h := h.struct_inv Try.underlying62
  obtain ⟨a, xs, rfl, ha, h⟩ := FitS.cons_inv h
  obtain ⟨b, xs, rfl, hb, h⟩ := FitS.cons_inv h
  obtain ⟨d, xs, rfl, hd, h⟩ := FitS.cons_inv h
  obtain rfl := h.nil_inv
  obtain ⟨x, rfl, hx⟩ := fit_int ha
  obtain ⟨y, rfl, hy⟩ := fit_int hb
  obtain ⟨l, rfl, hl⟩ := fit_vals hd
  exact ⟨⟨x, y, l⟩, rfl, hx, hy, hl⟩
theorem fit_tr {xs : List AV} (h : Fit Try.prog 75 xs) : ∃ c : Tr, c.e = xs ∧ c.ok := by
  have h := h.struct_inv Try.underlying75
  obtain ⟨a, xs, rfl, ha, h⟩ := FitS.cons_inv h
  obtain ⟨b, xs, rfl, hb, h⟩ := FitS.cons_inv h
  obtain ⟨d, xs, rfl, hd, h⟩ := FitS.cons_inv h
  obtain rfl := h.nil_inv
  obtain ⟨x, rfl, hx⟩ := fit_int ha
  obtain ⟨y, rfl, hy⟩ := fit_int hb
  obtain ⟨ys, rfl, h1, h2⟩ := hd.slice_inv Try.underlying58 (by decide +kernel)
  obtain ⟨l, rfl, h3⟩ := ex_map (fun x => fit_wr (xs := x)) ys h2
  exact ⟨⟨x, y, l⟩, rfl, hx, hy, by simpa using h1, h3⟩
theorem fit_cols {xs : List AV} (h : Fit Try.prog 22 xs) : ∃ l : List Col, xs = [.ro (l.map Col.e)] ∧ okCols l := by
  obtain ⟨ys, rfl, h1, h2⟩ := h.slice_inv Try.underlying22 (by decide +kernel)
  obtain ⟨l, rfl, h3⟩ := ex_map (fun x => fit_col (xs := x)) ys h2
  exact ⟨l, rfl, by simpa using h1, h3⟩
theorem fit_sto {xs : List AV} (h : Fit Try.prog 26 xs) : ∃ s : Sto, s.e = xs ∧ s.ok := by
  have h := h.struct_inv Try.underlying26
  obtain ⟨a, xs, rfl, ha, h⟩ := FitS.cons_inv h
  obtain ⟨b, xs, rfl, hb, h⟩ := FitS.cons_inv h
  obtain ⟨c, xs, rfl, hc, h⟩ := FitS.cons_inv h
  obtain ⟨d, xs, rfl, hd, h⟩ := FitS.cons_inv h
  obtain ⟨e, xs, rfl, he, h⟩ := FitS.cons_inv h
  obtain ⟨f, xs, rfl, hf, h⟩ := FitS.cons_inv h
  obtain ⟨g, xs, rfl, hg, h⟩ := FitS.cons_inv h
  obtain rfl := h.nil_inv
  obtain ⟨cols, rfl, hcols⟩ := fit_cols ha
  obtain ⟨ys, rfl, h1, h2⟩ := hb.slice_inv Try.underlying23 (by decide +kernel)
  obtain ⟨vs, rfl, h3⟩ := ex_map (fun x => fit_ver (xs := x)) ys h2
  obtain ⟨c, rfl, oc⟩ := fit_int hc
  obtain ⟨d, rfl, od⟩ := fit_int hd
  obtain ⟨e, rfl, oe⟩ := fit_int he
  obtain ⟨f, rfl, of⟩ := fit_int hf
  obtain ⟨zs, rfl, k1, k2⟩ := hg.slice_inv Try.underlying24 (by decide +kernel)
  obtain ⟨ts, rfl, k3⟩ := ex_map (fun x => fit_tr (xs := x)) zs k2
  exact ⟨⟨cols, vs, c, d, e, f, ts⟩, rfl, hcols, ⟨by simpa using h1, h3⟩, oc, od, oe, of, ⟨by simpa using k1, k3⟩⟩
end Go.Pv

namespace Go.Proofs.Ythncjbjlnligaaa
open Go.ChangeShapes Go.WideShapes Go.ChangeAt Go.RowKit Go.Pv

theorem Try.own : ownKnob Try.prog.godebug = none := by kernel_rfl
theorem Try.laidOut : laidOutB Try.prog = true := by kernel_rfl

theorem okVals_len {l : List Val} (h : okVals l) : l.length < 2 ^ 63 ∧ ∀ a ∈ l, a.text.size < 2 ^ 63 := by
  have h1 := h.1
  refine ⟨by unfold maxLen at h1; omega, fun a ha => ?_⟩
  have := (h.2 a ha).2.2
  unfold maxLen at this
  omega

theorem wf_of {s : Sto} (h : s.ok) : Wf s ∧ Sz s := by
  obtain ⟨hc, hv, _, _, _, _, ho⟩ := h
  have l1 := hc.1
  have l2 := hv.1
  have l3 := ho.1
  unfold maxLen at l1 l2 l3
  refine ⟨⟨by omega, by omega, by omega, fun c hm => ?_, fun v hm => (okVals_len (hv.2 v hm).2.2.2).2, fun t hm w hw => (okVals_len ((ho.2 t hm).2.2.2 w hw).2.2).2⟩,
    ⟨by omega, by omega, by omega, fun v hm => (okVals_len (hv.2 v hm).2.2.2).1, fun t hm => ?_, fun t hm w hw => (okVals_len ((ho.2 t hm).2.2.2 w hw).2.2).1⟩⟩
  · have := (hc.2 c hm).1
    unfold maxLen at this
    omega
  · have := (ho.2 t hm).2.2.1
    unfold maxLen at this
    omega

set_option maxRecDepth 100000 in
theorem writes_lifted (os : Os) (started : os.Started) (H : Type) (enc : TypeId × Value → H) :
    ReturnsInHanded {} Try.checked os 4 .any (Rows.writesMatchSpecSpec.pre6 enc Try.prog Try.f4 Rows.writesMatchSpecRow.domain false) (Rows.writesMatchSpecSpec.post enc Try.prog Try.f4 false Rows.writesMatchSpecRow.fresh Rows.writesMatchSpecRow.handsOn Rows.writesMatchSpecRow.again) := by
  refine returnsInHanded_of_change (C := Try.checked) Try.own started (by kernel_rfl) Try.func4
    (ChangeSpec.witness6 (enc := enc) (C := Try.checked) false ⟨#[], #[.agg #[.slice none 0 0, .slice none 0 0, .int .i64 0, .int .i64 0, .int .i64 0, .int .i64 0, .slice none 0 0], .int .i64 0, .int .i64 0, .slice none 0 0], []⟩ 8 (by kernel_rfl) (by kernel_rfl) (by kernel_rfl) (by kernel_rfl)) ?_
  intro W base args ds gs before hval0 hW hcnd _
  have hval : ∀ (j : Nat) t v, Try.f4.params[j]? = some t → args[j]? = some v → Value.okWide Try.prog W .any base t v := hval0
  have hW' := hW
  obtain ⟨p, q, hA0, hV, rfl, hfz, hnd⟩ := hW
  have hA : DataW.TrodAll enc Try.prog W 0 (fun _ => true) true Try.f4.params.toList args.toList ds p := hA0
  rw [Try.params4] at hA hval
  obtain ⟨v0, v1, v2, v3, d0, d1, d2, d3, p0, p1, p2, p3, rfl, rfl, rfl, h0, h1, h2, h3⟩ := trodAll_four hA
  obtain ⟨rfl, rfl⟩ := trodVars_none hV
  obtain ⟨a0, f0, r0⟩ := arg_struct (P := Try.prog) (W := W) Try.laidOut (t := 26) (of_decide_eq_true (by kernel_rfl)) Try.underlying26 (hval 0 26 v0 rfl rfl) h0
  obtain ⟨a1, f1, r1⟩ := arg_cell (P := Try.prog) (W := W) Try.laidOut (t := 3) (of_decide_eq_true (by kernel_rfl)) (cells_int (show Try.prog.underlying 3 = some (.int .i64) by kernel_rfl) (hval 1 3 v1 rfl rfl)) h1
  obtain ⟨a2, f2, r2⟩ := arg_cell (P := Try.prog) (W := W) Try.laidOut (t := 3) (of_decide_eq_true (by kernel_rfl)) (cells_int (show Try.prog.underlying 3 = some (.int .i64) by kernel_rfl) (hval 2 3 v2 rfl rfl)) h2
  obtain ⟨a3, f3, r3⟩ := arg_cell (P := Try.prog) (W := W) Try.laidOut (t := 37) (of_decide_eq_true (by kernel_rfl)) (cells_slice Try.underlying37 (hval 3 37 v3 rfl rfl)) h3
  obtain ⟨s0, rfl, ok0⟩ := fit_sto f0
  obtain ⟨w0, o0⟩ := wf_of ok0
  obtain ⟨s1, e1, ok1⟩ := fit_int f1
  simp only [List.cons.injEq, and_true] at e1
  subst e1
  obtain ⟨s2, e2, ok2⟩ := fit_int f2
  simp only [List.cons.injEq, and_true] at e2
  subst e2
  obtain ⟨s3, e3, ok3⟩ := fit_vals f3
  simp only [List.cons.injEq, and_true] at e3
  subst e3
  obtain ⟨n, h', hrun⟩ := law4 s0 w0 o0 s1 s2 s3 (okVals_len ok3).2 (okVals_len ok3).1
  simp only [List.append_nil] at hW'
  have hlt := hW'.lt
  have hcalls := law_calls (P := Try.prog) mixed code_ok ext_ok x4 hrun (w := W) (cargs := #[v0, v1, v2, v3]) rfl (fun j a x ha hx => by
    match j, ha, hx with
    | 0, ha, hx => cases ha; cases hx; exact r0
    | 1, ha, hx => cases ha; cases hx; exact r1
    | 2, ha, hx => cases ha; cases hx; exact r2
    | 3, ha, hx => cases ha; cases hx; exact r3)
  refine hcalls.mono fun e W' ⟨he, hb⟩ => ⟨_, he, ?_⟩
  refine post_of_below (pv := []) hW' (fun _ _ _ => trodAll_mk1 (shut_bool (t := 4) (by kernel_rfl) true)) (fun sp hsp => trodAll_mk4 (trod_below Try.laidOut (by kernel_rfl) (of_decide_eq_true (by kernel_rfl)) h0 hb (fun x hx => hlt x (by simp [hx])) (fun x hx => hsp x (by simp [hx]))) (trod_below Try.laidOut (by kernel_rfl) (of_decide_eq_true (by kernel_rfl)) h1 hb (fun x hx => hlt x (by simp [hx])) (fun x hx => hsp x (by simp [hx]))) (trod_below Try.laidOut (by kernel_rfl) (of_decide_eq_true (by kernel_rfl)) h2 hb (fun x hx => hlt x (by simp [hx])) (fun x hx => hsp x (by simp [hx]))) (trod_below Try.laidOut (by kernel_rfl) (of_decide_eq_true (by kernel_rfl)) h3 hb (fun x hx => hlt x (by simp [hx])) (fun x hx => hsp x (by simp [hx])))) (fun _ _ => rfl) (by simp) hb (ok_one (t := 4) (by kernel_rfl) rfl (okWide_bool_mk (t := 4) (by kernel_rfl) true))

theorem writes_holds : Rows.WritesMatchSpecSaid :=
  OpenClaim.holds_of_wide 4 Try.f4 rfl rfl rfl rfl rfl rfl rfl ⟨rfl, rfl, rfl, rfl, rfl⟩ rfl rfl rfl rfl rfl (by kernel_rfl) Try.func4 (by kernel_rfl)
    (of_decide_eq_true (by kernel_rfl)) (by unfold Func.isWrapper; first | (rw [if_pos (by decide +kernel)]; kernel_rfl) | (rw [if_neg (by decide +kernel)]; exact ⟨rfl, rfl⟩))
    (fun os started H enc _ => writes_lifted os started H enc)
end Go.Proofs.Ythncjbjlnligaaa
#print axioms Go.Proofs.Ythncjbjlnligaaa.writes_holds
