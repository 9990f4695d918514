/-
  The given statement on law 3 of the seat: for every input it returns true. Conditions: none.
-/
import Derived.Test.YthncjbjlnligaaaPvR
import Derived.Test.YthncjbjlnligaaaChecked
import Derived.KernelRfl
import Derived.Test.YthncjbjlnligaaaRows
import Derived.ProofKit
set_option linter.unusedVariables false
set_option linter.unusedSimpArgs false
namespace Go.Pv
open Go
set_option maxRecDepth 100000
set_option maxHeartbeats 8000000

theorem sz_empty : Sz emptySto := ⟨by simp [emptySto], by simp [emptySto], by simp [emptySto], by simp [emptySto], by simp [emptySto], by simp [emptySto]⟩
theorem sz_emptyS (c : List Col) : Sz (emptyS c) := by
  unfold emptyS
  split
  · rename_i h
    have := ckCols_len h
    exact ⟨by simp [newSto]; omega, by simp [newSto], by simp [newSto], by simp [newSto], by simp [newSto], by simp [newSto]⟩
  · exact sz_empty
theorem sz_begin {s : Sto} (hw : Wf s) (hs : Sz s) : Sz (beginS s) := by
  refine begin_cases s _ ?_ ?_ ?_ ?_
  · intro _ h _ _; rw [h]; exact sz_empty
  · intro _ _ h _ _; rw [h]; exact sz_empty
  · intro _ _ _ h _ _; rw [h]; exact sz_empty
  · intro q1 _ _ h _ _
    rw [h]
    have hrt := rt_of hw q1
    have ho := hrt.bd.o
    refine ⟨hs.c, hs.v, by simp; omega, hs.vv, fun t ht => ?_, fun t ht => ?_⟩
    · rcases List.mem_append.1 ht with ht | ht
      · exact hs.ow t ht
      · obtain rfl : t = ⟨s.nextTrans, s.last, []⟩ := by simpa using ht
        simp
    · rcases List.mem_append.1 ht with ht | ht
      · exact hs.ov t ht
      · obtain rfl : t = ⟨s.nextTrans, s.last, []⟩ := by simpa using ht
        intro w hw; cases hw
theorem sz_abort {s : Sto} (hs : Sz s) (id : Int) : Sz (abortS s id) := by
  refine abort_cases s id _ ?_ ?_ ?_
  · intro _ h _ _; rw [h]; exact sz_empty
  · intro _ _ h _ _; rw [h]; exact sz_empty
  · intro k q1 q2 q3 h _ _
    rw [h]
    refine ⟨hs.c, hs.v, ?_, hs.vv, fun t ht => hs.ow t (List.mem_of_mem_eraseIdx ht), fun t ht => hs.ov t (List.mem_of_mem_eraseIdx ht)⟩
    have := hs.o
    have := List.length_eraseIdx_le s.opn k
    simp only; omega

theorem law3 (s : Sto) (hw : Wf s) (hs : Sz s) (c : List Col) (hc : ∀ x ∈ c, x.name.size < 2 ^ 63) (id : Int) : ∃ n h', absCall code ext n 3 [.agg s.e, roC c, .i id] ⟨[], [], 0⟩ = some (.b true, h') := by
  refine ⟨2 ^ 64 + 20 + 1, ?_⟩
  obtain ⟨n, hn⟩ : ∃ n, 2 ^ 64 + 20 = n := ⟨_, rfl⟩
  rw [hn]
  have e1 := e9 c n (by omega)
  have e2 := e10 c hc n (by omega)
  have e3 : isoOf (run1 code ext n) 11 [.agg s.e] = some (.i (ckStore s)) := e11 s hw n (by omega)
  have e4 := e12' s hw n (by omega)
  have e5 := e14 s hw n (by omega)
  have e6 := e15 s hw n (by omega)
  have e7 := e16 s hw id n (by omega)
  have e8 := e17 s hw id n (by omega)
  have s1 := e13 (emptyS c) (sz_emptyS c) n (by omega)
  have s2 := e13 (beginS s) (sz_begin hw hs) n (by omega)
  have s3 := e13 (abortS s id) (sz_abort hs id) n (by omega)
  have e18 := e18 n (by omega)
  obtain ⟨x, hx⟩ : ∃ x, emptyS c = x := ⟨_, rfl⟩
  obtain ⟨y, hy⟩ : ∃ y, beginS s = y := ⟨_, rfl⟩
  obtain ⟨z, hz⟩ : ∃ z, abortS s id = z := ⟨_, rfl⟩
  rw [hx] at e1 e2 s1
  rw [hy] at e5 e6 s2
  rw [hz] at e7 e8 s3
  simp only [Sto.e, roC] at e1 e2 e3 e4 e5 e6 e7 e8 s1 s2 s3
  unfold absCall
  simp only [c3, x3]
  rw [show absCall code ext n = run1 code ext n from rfl]
  have hb : acode (run1 code ext n) n A3.code ([.agg s.e, roC c, .i id] ++ List.replicate (A3.nt - [AV.agg s.e, roC c, .i id].length) .top, ⟨[], [], 0⟩) = acode (run1 code ext n) n A3.code ([.agg s.e, roC c, .i id] ++ List.replicate (A3.nt - [AV.agg s.e, roC c, .i id].length) .top, ⟨[], [], 0⟩) := rfl
  conv at hb => rhs; simp [acode, runOps, step1, aop, wantedA, ev, put, opened, binV, binInt, binStr, app_v, Pr.run, Pr.map, Pr.bind, Pr.mapP, loadA, storeA, cellsVal, Pr.ofOption, cells, fillA, splice, nz, dr, cln, flat, one, bnd, slA, items, appA, Hp.get, Hp.app, Hp.set, eqAll, eq1, lookA, resA, rvA, fin, AV.i, AV.b, AV.s, beq_int, bne_int, emp_is, emp_iff, runD, step2, clash, apartFP, Pr.log, A3, Sto.e, roC, e1, e2, e3, e4, e5, e6, e7, e8, e18, s1, s2, s3]
  rw [hb]
  exact ⟨_, by simp [A3, resA, rvA]; rfl⟩
end Go.Pv

namespace Go.Pv
open Go Go.Proofs

def okI (n : Int) : Prop := -9223372036854775808 ≤ n ∧ n ≤ 9223372036854775807
def Col.ok (c : Col) : Prop := c.name.size ≤ maxLen ∧ okI c.kind
def Val.ok (v : Val) : Prop := okI v.kind ∧ okI v.num ∧ v.text.size ≤ maxLen
def okVals (l : List Val) : Prop := l.length ≤ maxLen ∧ ∀ v ∈ l, v.ok

theorem okI_of {n : Int} (h : (Lit.int .i64 n).wf = true) : okI n := by
  simp [Lit.wf, IntKind.min, IntKind.max, IntKind.bits, IntKind.signed] at h
  unfold okI; omega

theorem fit_int {xs : List AV} (h : Fit Try.prog 3 xs) : ∃ n, xs = [.i n] ∧ okI n := by
  obtain ⟨n, h1, h2⟩ := h.int_inv (show Try.prog.underlying 3 = some (.int .i64) by kernel_rfl)
  exact ⟨n, h1, okI_of h2⟩
theorem fit_str {xs : List AV} (h : Fit Try.prog 9 xs) : ∃ s : ByteArray, xs = [.s s] ∧ s.size ≤ maxLen := h.str_inv (by kernel_rfl)

theorem fit_val {xs : List AV} (h : Fit Try.prog 94 xs) : ∃ v : Val, v.e = xs ∧ v.ok := by
  have h := h.struct_inv Try.underlying94
  simp only [] at h
  obtain ⟨a, xs, rfl, ha, h⟩ := FitS.cons_inv h
  obtain ⟨b, xs, rfl, hb, h⟩ := FitS.cons_inv h
  obtain ⟨c, xs, rfl, hc, h⟩ := FitS.cons_inv h
  obtain rfl := h.nil_inv
  obtain ⟨x, rfl, hx⟩ := fit_int ha
  obtain ⟨y, rfl, hy⟩ := fit_int hb
  obtain ⟨z, rfl, hz⟩ := fit_str hc
  exact ⟨⟨x, y, z⟩, rfl, hx, hy, hz⟩

def Ver.ok (v : Ver) : Prop := okI v.row ∧ okI v.frm ∧ okI v.to ∧ okVals v.vals
def Wr.ok (v : Wr) : Prop := okI v.kind ∧ okI v.row ∧ okVals v.vals
def Tr.ok (t : Tr) : Prop := okI t.id ∧ okI t.sees ∧ t.writes.length ≤ maxLen ∧ ∀ w ∈ t.writes, w.ok
def okCols (l : List Col) : Prop := l.length ≤ maxLen ∧ ∀ c ∈ l, c.ok
def Sto.ok (s : Sto) : Prop := okCols s.cols ∧ (s.vers.length ≤ maxLen ∧ ∀ v ∈ s.vers, v.ok) ∧ okI s.last ∧ okI s.nextRow ∧ okI s.nextTrans ∧ okI s.swept ∧ (s.opn.length ≤ maxLen ∧ ∀ t ∈ s.opn, t.ok)

theorem fit_vals {xs : List AV} (h : Fit Try.prog 37 xs) : ∃ l : List Val, xs = [eVals l] ∧ okVals l := by
  obtain ⟨ys, rfl, h1, h2⟩ := h.slice_inv Try.underlying37 (by decide +kernel)
  obtain ⟨l, rfl, h3⟩ := ex_map (fun x => fit_val (xs := x)) ys h2
  exact ⟨l, rfl, by simpa using h1, h3⟩
theorem fit_col {xs : List AV} (h : Fit Try.prog 72 xs) : ∃ c : Col, c.e = xs ∧ c.ok := by
  have h := h.struct_inv Try.underlying72
  obtain ⟨a, xs, rfl, ha, h⟩ := FitS.cons_inv h
  obtain ⟨b, xs, rfl, hb, h⟩ := FitS.cons_inv h
  obtain rfl := h.nil_inv
  obtain ⟨x, rfl, hx⟩ := fit_str ha
  obtain ⟨y, rfl, hy⟩ := fit_int hb
  exact ⟨⟨x, y⟩, rfl, hx, hy⟩
theorem fit_ver {xs : List AV} (h : Fit Try.prog 88 xs) : ∃ c : Ver, c.e = xs ∧ c.ok := by
  have h := h.struct_inv Try.underlying88
  obtain ⟨a, xs, rfl, ha, h⟩ := FitS.cons_inv h
  obtain ⟨b, xs, rfl, hb, h⟩ := FitS.cons_inv h
  obtain ⟨c, xs, rfl, hc, h⟩ := FitS.cons_inv h
  obtain ⟨d, xs, rfl, hd, h⟩ := FitS.cons_inv h
  obtain rfl := h.nil_inv
  obtain ⟨x, rfl, hx⟩ := fit_int ha
  obtain ⟨y, rfl, hy⟩ := fit_int hb
  obtain ⟨z, rfl, hz⟩ := fit_int hc
  obtain ⟨l, rfl, hl⟩ := fit_vals hd
  exact ⟨⟨x, y, z, l⟩, rfl, hx, hy, hz, hl⟩
theorem fit_wr {xs : List AV} (h : Fit Try.prog 62 xs) : ∃ c : Wr, c.e = xs ∧ c.ok := by
  have h := h.struct_inv Try.underlying62
  obtain ⟨a, xs, rfl, ha, h⟩ := FitS.cons_inv h
  obtain ⟨b, xs, rfl, hb, h⟩ := FitS.cons_inv h
  obtain ⟨d, xs, rfl, hd, h⟩ := FitS.cons_inv h
  obtain rfl := h.nil_inv
  obtain ⟨x, rfl, hx⟩ := fit_int ha
  obtain ⟨y, rfl, hy⟩ := fit_int hb
  obtain ⟨l, rfl, hl⟩ := fit_vals hd
  exact ⟨⟨x, y, l⟩, rfl, hx, hy, hl⟩
theorem fit_tr {xs : List AV} (h : Fit Try.prog 75 xs) : ∃ c : Tr, c.e = xs ∧ c.ok := by
  have h := h.struct_inv Try.underlying75
  obtain ⟨a, xs, rfl, ha, h⟩ := FitS.cons_inv h
  obtain ⟨b, xs, rfl, hb, h⟩ := FitS.cons_inv h
  obtain ⟨d, xs, rfl, hd, h⟩ := FitS.cons_inv h
  obtain rfl := h.nil_inv
  obtain ⟨x, rfl, hx⟩ := fit_int ha
  obtain ⟨y, rfl, hy⟩ := fit_int hb
  obtain ⟨ys, rfl, h1, h2⟩ := hd.slice_inv Try.underlying58 (by decide +kernel)
  obtain ⟨l, rfl, h3⟩ := ex_map (fun x => fit_wr (xs := x)) ys h2
  exact ⟨⟨x, y, l⟩, rfl, hx, hy, by simpa using h1, h3⟩
theorem fit_cols {xs : List AV} (h : Fit Try.prog 22 xs) : ∃ l : List Col, xs = [.ro (l.map Col.e)] ∧ okCols l := by
  obtain ⟨ys, rfl, h1, h2⟩ := h.slice_inv Try.underlying22 (by decide +kernel)
  obtain ⟨l, rfl, h3⟩ := ex_map (fun x => fit_col (xs := x)) ys h2
  exact ⟨l, rfl, by simpa using h1, h3⟩
theorem fit_sto {xs : List AV} (h : Fit Try.prog 26 xs) : ∃ s : Sto, s.e = xs ∧ s.ok := by
  have h := h.struct_inv Try.underlying26
  obtain ⟨a, xs, rfl, ha, h⟩ := FitS.cons_inv h
  obtain ⟨b, xs, rfl, hb, h⟩ := FitS.cons_inv h
  obtain ⟨c, xs, rfl, hc, h⟩ := FitS.cons_inv h
  obtain ⟨d, xs, rfl, hd, h⟩ := FitS.cons_inv h
  obtain ⟨e, xs, rfl, he, h⟩ := FitS.cons_inv h
  obtain ⟨f, xs, rfl, hf, h⟩ := FitS.cons_inv h
  obtain ⟨g, xs, rfl, hg, h⟩ := FitS.cons_inv h
  obtain rfl := h.nil_inv
  obtain ⟨cols, rfl, hcols⟩ := fit_cols ha
  obtain ⟨ys, rfl, h1, h2⟩ := hb.slice_inv Try.underlying23 (by decide +kernel)
  obtain ⟨vs, rfl, h3⟩ := ex_map (fun x => fit_ver (xs := x)) ys h2
  obtain ⟨c, rfl, oc⟩ := fit_int hc
  obtain ⟨d, rfl, od⟩ := fit_int hd
  obtain ⟨e, rfl, oe⟩ := fit_int he
  obtain ⟨f, rfl, of⟩ := fit_int hf
  obtain ⟨zs, rfl, k1, k2⟩ := hg.slice_inv Try.underlying24 (by decide +kernel)
  obtain ⟨ts, rfl, k3⟩ := ex_map (fun x => fit_tr (xs := x)) zs k2
  exact ⟨⟨cols, vs, c, d, e, f, ts⟩, rfl, hcols, ⟨by simpa using h1, h3⟩, oc, od, oe, of, ⟨by simpa using k1, k3⟩⟩
end Go.Pv

namespace Go.Proofs.Ythncjbjlnligaaa
open Go.ChangeShapes Go.WideShapes Go.ChangeAt Go.RowKit Go.Pv

theorem Try.own : ownKnob Try.prog.godebug = none := by kernel_rfl
theorem Try.laidOut : laidOutB Try.prog = true := by kernel_rfl

theorem okVals_len {l : List Val} (h : okVals l) : l.length < 2 ^ 63 ∧ ∀ a ∈ l, a.text.size < 2 ^ 63 := by
  have h1 := h.1
  refine ⟨by unfold maxLen at h1; omega, fun a ha => ?_⟩
  have := (h.2 a ha).2.2
  unfold maxLen at this
  omega

theorem wf_of {s : Sto} (h : s.ok) : Wf s ∧ Sz s := by
  obtain ⟨hc, hv, _, _, _, _, ho⟩ := h
  have l1 := hc.1
  have l2 := hv.1
  have l3 := ho.1
  unfold maxLen at l1 l2 l3
  refine ⟨⟨by omega, by omega, by omega, fun c hm => ?_, fun v hm => (okVals_len (hv.2 v hm).2.2.2).2, fun t hm w hw => (okVals_len ((ho.2 t hm).2.2.2 w hw).2.2).2⟩,
    ⟨by omega, by omega, by omega, fun v hm => (okVals_len (hv.2 v hm).2.2.2).1, fun t hm => ?_, fun t hm w hw => (okVals_len ((ho.2 t hm).2.2.2 w hw).2.2).1⟩⟩
  · have := (hc.2 c hm).1
    unfold maxLen at this
    omega
  · have := (ho.2 t hm).2.2.1
    unfold maxLen at this
    omega

set_option maxRecDepth 100000 in
theorem stores_lifted (os : Os) (started : os.Started) (H : Type) (enc : TypeId × Value → H) :
    ReturnsInHanded {} Try.checked os 3 .any (Rows.storesMatchSpecSpec.pre6 enc Try.prog Try.f3 Rows.storesMatchSpecRow.domain false) (Rows.storesMatchSpecSpec.post enc Try.prog Try.f3 false Rows.storesMatchSpecRow.fresh Rows.storesMatchSpecRow.handsOn Rows.storesMatchSpecRow.again) := by
  refine returnsInHanded_of_change (C := Try.checked) Try.own started (by kernel_rfl) Try.func3
    (ChangeSpec.witness6 (enc := enc) (C := Try.checked) false ⟨#[], #[.agg #[.slice none 0 0, .slice none 0 0, .int .i64 0, .int .i64 0, .int .i64 0, .int .i64 0, .slice none 0 0], .slice none 0 0, .int .i64 0], []⟩ 8 (by kernel_rfl) (by kernel_rfl) (by kernel_rfl) (by kernel_rfl)) ?_
  intro W base args ds gs before hval0 hW hcnd _
  have hval : ∀ (j : Nat) t v, Try.f3.params[j]? = some t → args[j]? = some v → Value.okWide Try.prog W .any base t v := hval0
  have hW' := hW
  obtain ⟨p, q, hA0, hV, rfl, hfz, hnd⟩ := hW
  have hA : DataW.TrodAll enc Try.prog W 0 (fun _ => true) true Try.f3.params.toList args.toList ds p := hA0
  rw [Try.params3] at hA hval
  obtain ⟨v0, v1, v2, d0, d1, d2, p0, p1, p2, rfl, rfl, rfl, h0, h1, h2⟩ := trodAll_three hA
  obtain ⟨rfl, rfl⟩ := trodVars_none hV
  obtain ⟨es, f0, r0⟩ := arg_struct (P := Try.prog) (W := W) Try.laidOut (t := 26) (of_decide_eq_true (by kernel_rfl)) Try.underlying26 (hval 0 26 v0 rfl rfl) h0
  obtain ⟨a1, f1, r1⟩ := arg_cell (P := Try.prog) (W := W) Try.laidOut (t := 22) (of_decide_eq_true (by kernel_rfl)) (cells_slice Try.underlying22 (hval 1 22 v1 rfl rfl)) h1
  obtain ⟨a2, f2, r2⟩ := arg_cell (P := Try.prog) (W := W) Try.laidOut (t := 3) (of_decide_eq_true (by kernel_rfl)) (cells_int (show Try.prog.underlying 3 = some (.int .i64) by kernel_rfl) (hval 2 3 v2 rfl rfl)) h2
  obtain ⟨s, rfl, hs⟩ := fit_sto f0
  obtain ⟨c, hc1, hc2⟩ := fit_cols f1
  obtain ⟨id, hid, _⟩ := fit_int f2
  simp only [List.cons.injEq, and_true] at hc1 hid
  subst hc1; subst hid
  obtain ⟨w1, w2⟩ := wf_of hs
  obtain ⟨n, h', hrun⟩ := law3 s w1 w2 c (fun x hx => by have := (hc2.2 x hx).1; unfold maxLen at this; omega) id
  simp only [List.append_nil] at hW'
  have hlt := hW'.lt
  have hcalls := law_calls (P := Try.prog) mixed code_ok ext_ok x3 hrun (w := W) (cargs := #[v0, v1, v2]) rfl (fun j a x ha hx => by
    match j, ha, hx with
    | 0, ha, hx => cases ha; cases hx; exact r0
    | 1, ha, hx => cases ha; cases hx; exact r1
    | 2, ha, hx => cases ha; cases hx; exact r2)
  refine hcalls.mono fun e W' ⟨he, hb⟩ => ⟨_, he, ?_⟩
  refine post_of_below (pv := []) hW' (fun _ _ _ => trodAll_mk1 (shut_bool (t := 4) (by kernel_rfl) true)) (fun sp hsp => trodAll_mk3 (trod_below Try.laidOut (by kernel_rfl) (of_decide_eq_true (by kernel_rfl)) h0 hb (fun x hx => hlt x (by simp [hx])) (fun x hx => hsp x (by simp [hx]))) (trod_below Try.laidOut (by kernel_rfl) (of_decide_eq_true (by kernel_rfl)) h1 hb (fun x hx => hlt x (by simp [hx])) (fun x hx => hsp x (by simp [hx]))) (trod_below Try.laidOut (by kernel_rfl) (of_decide_eq_true (by kernel_rfl)) h2 hb (fun x hx => hlt x (by simp [hx])) (fun x hx => hsp x (by simp [hx])))) (fun _ _ => rfl) (by simp) hb (ok_one (t := 4) (by kernel_rfl) rfl (okWide_bool_mk (t := 4) (by kernel_rfl) true))

theorem stores_holds : Rows.StoresMatchSpecSaid :=
  OpenClaim.holds_of_wide 3 Try.f3 rfl rfl rfl rfl rfl rfl rfl ⟨rfl, rfl, rfl, rfl, rfl⟩ rfl rfl rfl rfl rfl (by kernel_rfl) Try.func3 (by kernel_rfl)
    (of_decide_eq_true (by kernel_rfl)) (by unfold Func.isWrapper; first | (rw [if_pos (by decide +kernel)]; kernel_rfl) | (rw [if_neg (by decide +kernel)]; exact ⟨rfl, rfl⟩))
    (fun os started H enc _ => stores_lifted os started H enc)
end Go.Proofs.Ythncjbjlnligaaa
#print axioms Go.Proofs.Ythncjbjlnligaaa.stores_holds
