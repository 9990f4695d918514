/-
  Operations, calls, code: what the interpreter says is what the model does. Conditions: none.
-/
import Derived.Test.YthncjbjlnligaaaPvC
import Derived.LoopN
import Derived.Tactics
set_option linter.unusedVariables false
set_option linter.unusedSimpArgs false
namespace Go.Pv
open Go

section
variable {P : Program} {imm : Imm} {L : Locs} {h : Hp} {w : World}

def AOp.isCall : AOp → Bool
  | .call _ _ _ => true
  | .callv _ _ => true
  | _ => false

theorem isSliceT_inv {t : TypeId} (h : isSliceT P t = true) : ∃ e, P.underlying t = some (.slice e) := by
  unfold isSliceT at h
  rw [Option.isSome_iff_exists] at h
  obtain ⟨e, he⟩ := h
  exact ⟨e, elemOfSlice_inv he⟩
theorem isStringT_inv {t : TypeId} (h : isStringT P t = true) : P.underlying t = some .string := by
  unfold isStringT at h
  split at h <;> simp_all

theorem len_ok {str : Bool} {x : Value} {t ty : TypeId} {E : OpE} {F : List AV} {o : Opd} {ef : Eff} (ht : if str then isStringT P t = true else isSliceT P t = true) (hX : Rel imm L (ev F o) x) (iso : Nat → List AV → Option AV) (hr : (aop iso E F (.len str o)).run h = some ef) :
    ∃ v z, ef = { v } ∧ (Builtin.len_ #[t] ty #[x]).run P w = .ok z w ∧ Rel imm L v z := by
  cases str with
  | true =>
    simp only [if_true] at ht
    simp only [aop, if_true] at hr
    split at hr
    · rename_i s e0
      cases hr
      rw [e0] at hX
      obtain ⟨rfl, _⟩ := hX.v_inv
      exact ⟨_, .int .i64 s.size, rfl, by simp [Builtin.len_, run_underlying (isStringT_inv ht), goInt], .of (.v rfl)⟩
    · cases hr
  | false =>
    simp only [Bool.false_eq_true, if_false] at ht
    obtain ⟨e, he⟩ := isSliceT_inv ht
    have key (A : Option Addr) (n c : Nat) : (Builtin.len_ #[t] ty #[.slice A n c]).run P w = .ok (.int .i64 n) w := by simp [Builtin.len_, run_underlying he, goInt]
    simp only [aop, Bool.false_eq_true, if_false] at hr
    split at hr
    · rename_i e0; cases hr; rw [e0] at hX
      obtain ⟨A, rfl⟩ := hX.nils_inv
      exact ⟨_, _, rfl, key _ _ _, .of (.v rfl)⟩
    · rename_i e0; cases hr; rw [e0] at hX
      obtain ⟨b, o, rfl⟩ := hX.emp_inv
      exact ⟨_, _, rfl, key _ _ _, .of (.v rfl)⟩
    · rename_i e0; cases hr; rw [e0] at hX
      obtain ⟨sz, A, c, val, rfl, _⟩ := hX.ro_data
      exact ⟨_, _, rfl, key _ _ _, .of (.v rfl)⟩
    · rename_i e0; cases hr; rw [e0] at hX
      obtain ⟨l, a, _, _, _, _, rfl⟩ := hX.own_inv
      exact ⟨_, _, rfl, key _ _ _, .of (.v rfl)⟩
    · cases hr

/-- A call of a builtin. -/
theorem builtin_run {o : Oper} {a : Act} {c : Call} {b : Builtin} (ho : o.op = .call c) (hb : c.callee = .builtin b) :
    (execOp a.eval o).run P w = (builtin b c.argTypes o.type (c.args.map fun | .const _ => true | _ => false) (c.args.map a.eval)).run P w := by
  simp [execOp, ho, resolve, hb, invoke]
  rfl

theorem evs_list {F : List AV} {a : Act} (hF : Rels imm L F a.tmps) (l : Array Operand) : Rels imm L ((l.toList.map compOpd).map (ev F)) (l.map a.eval) := by
  refine ⟨by simp, fun j b x hb hx => ?_⟩
  rw [List.map_map, List.getElem?_map, Option.map_eq_some_iff] at hb
  obtain ⟨o, ho, rfl⟩ := hb
  rw [Array.getElem?_map, Option.map_eq_some_iff] at hx
  obtain ⟨o', ho', rfl⟩ := hx
  rw [Array.getElem?_toList, ho'] at ho
  cases ho
  exact ev_rel hF _

theorem compBin_ok (hI : Inv imm L h w) {k : Nat} {op : BinOp} {xt : TypeId} {x y : Operand} {F : List AV} {a : Act} (hF : Rels imm L F a.tmps) {E : OpE} {ao : AOp} {ef : Eff} (iso : Nat → List AV → Option AV)
    (hc : compBin P op xt x y = some ao) (hr : (aop iso E F ao).run h = some ef) : ∃ v z, ef = { v } ∧ (do eqGuard op xt x y (a.eval x) (a.eval y); binOp op xt (a.eval x) (a.eval y)).run P w = .ok z w ∧ Rel imm L v z := by
  have hx := ev_rel hF x
  have hy := ev_rel hF y
  have bin (hc : some (AOp.bin op (compOpd x) (compOpd y)) = some ao) : ∃ v z, ef = { v } ∧ (do eqGuard op xt x y (a.eval x) (a.eval y); binOp op xt (a.eval x) (a.eval y)).run P w = .ok z w ∧ Rel imm L v z := by
    cases hc
    have := ofo hr
    rw [Option.map_eq_some_iff] at this
    obtain ⟨v, hv, rfl⟩ := this
    obtain ⟨z, h1, h2⟩ := binV_ok (P := P) (w := w) (xt := xt) (X := x) (Y := y) hv hx hy
    exact ⟨v, z, rfl, h1, h2⟩
  have beq (neg : Bool) (hu : P.underlying xt = some .bool) (hop : op = if neg then .neq else .eql) (hc : some (AOp.beq neg (compOpd x) (compOpd y)) = some ao) : ∃ v z, ef = { v } ∧ (do eqGuard op xt x y (a.eval x) (a.eval y); binOp op xt (a.eval x) (a.eval y)).run P w = .ok z w ∧ Rel imm L v z := by
    cases hc
    simp only [aop] at hr
    split at hr
    · rename_i p q e1 e2
      cases hr
      rw [e1] at hx; rw [e2] at hy
      rw [hx.v_inv.1, hy.v_inv.1, hop]
      exact ⟨_, _, rfl, beq_ok hu, .of (.v rfl)⟩
    · cases hr
  have nilq (neg : Bool) (e : TypeId) (hu : P.underlying xt = some (.slice e)) (hop : op = if neg then .neq else .eql) (hn : isNilSlice y = true) (hc : some (AOp.nilq neg (compOpd x)) = some ao) : ∃ v z, ef = { v } ∧ (do eqGuard op xt x y (a.eval x) (a.eval y); binOp op xt (a.eval x) (a.eval y)).run P w = .ok z w ∧ Rel imm L v z := by
    cases hc
    have hyv : a.eval y = .slice none 0 0 := by
      unfold isNilSlice at hn
      split at hn
      · rfl
      · cases hn
    rw [hyv, hop]
    simp only [aop] at hr
    split at hr
    · rename_i e1; cases hr; rw [e1] at hx
      obtain ⟨A, c, hxe, hA⟩ := hx.em_inv
      rw [hxe]
      exact ⟨_, _, rfl, nilq_ok hu, by cases neg <;> cases hA <;> exact .of (.v rfl)⟩
    · rename_i e1; cases hr; rw [e1] at hx
      obtain ⟨b, o, hxe⟩ := hx.emp_inv
      rw [hxe]
      exact ⟨_, _, rfl, nilq_ok hu, by cases neg <;> exact .of (.v rfl)⟩
    · rename_i e1; cases hr; rw [e1] at hx
      obtain ⟨sz, A, c, val, hxe, h1, h2, h3, _⟩ := hx.ro_data
      obtain ⟨b, o, rfl, _⟩ := h3 (by simp)
      rw [hxe]
      exact ⟨_, _, rfl, nilq_ok hu, by cases neg <;> exact .of (.v rfl)⟩
    · rename_i e1; cases hr; rw [e1] at hx
      obtain ⟨l, b, _, _, _, _, hxe⟩ := hx.own_inv
      rw [hxe]
      exact ⟨_, _, rfl, nilq_ok hu, by cases neg <;> exact .of (.v rfl)⟩
    · cases hr
  have eqs (neg : Bool) (fs : Array Field) (hu : P.underlying xt = some (.struct fs)) (hg : P.eqGuardType P.depth xt = false) (hop : op = if neg then .neq else .eql) (ks : List EK) (hks : eqT P 8 xt = some ks) (hc : some (AOp.eqs neg ks (compOpd x) (compOpd y)) = some ao) :
      ∃ v z, ef = { v } ∧ (do eqGuard op xt x y (a.eval x) (a.eval y); binOp op xt (a.eval x) (a.eval y)).run P w = .ok z w ∧ Rel imm L v z := by
    cases hc
    simp only [aop] at hr
    split at hr
    · rename_i xs ys e1 e2
      have := ofo hr
      rw [Option.map_eq_some_iff] at this
      obtain ⟨t, ht, rfl⟩ := this
      rw [e1] at hx; rw [e2] at hy
      obtain ⟨A, hA, hAr⟩ := hx.agg_inv
      obtain ⟨B, hB, hBr⟩ := hy.agg_inv
      rw [hA, hB, hop]
      exact ⟨_, _, rfl, eqs_ok hg hks (by simp [isStructT, hu]) hAr hBr ht, .of (.v rfl)⟩
    · cases hr
  unfold compBin at hc
  split at hc
  · rename_i hu
    split at hc
    · exact beq false hu rfl hc
    · exact beq true hu rfl hc
    · cases hc
  · exact bin hc
  · exact bin hc
  · rename_i e hu
    split at hc
    case isFalse => cases hc
    rename_i hn
    split at hc
    · exact nilq false e hu rfl hn hc
    · exact nilq true e hu rfl hn hc
    · cases hc
  · rename_i fs hu
    split at hc
    case isFalse => cases hc
    rename_i hg
    split at hc
    · rename_i ks hk; exact eqs false fs hu hg rfl ks hk hc
    · rename_i ks hk; exact eqs true fs hu hg rfl ks hk hc
    · cases hc
  · cases hc
end
end Go.Pv

namespace Go.Pv
open Go

section
variable {P : Program} {imm : Imm} {L : Locs} {h : Hp} {w : World}

theorem OpOK.pv {u : Nat} {ef : Eff} {s : Sem Value} (hI : Inv imm L h w) (hh : ∃ v z, ef = { v } ∧ s.run P w = .ok z w ∧ Rel imm L v z) : OpOK imm L h w u ef (Sem.run P (do let y ← s; Pure.pure (Next.value y)) w) := by
  obtain ⟨v, z, rfl, h1, h2⟩ := hh
  exact .pure hI (vrun h1) h2

theorem optMap {α : Type} {o : Option α} {f : α → Eff} {ef : Eff} (hr : (Pr.ofOption (o.map f)).run h = some ef) : ∃ x, o = some x ∧ ef = f x := by
  have := ofo hr
  rw [Option.map_eq_some_iff] at this
  obtain ⟨x, h1, h2⟩ := this
  exact ⟨x, h1, h2.symm⟩

theorem box_any (hI : Inv imm L h w) {i u : Nat} {cs : List AV} {arr : Array Value} {T : TypeId} (hu : L u = none) (hlt : u < h.nx) (hr : Rels imm L cs arr) :
    ∃ L', Inv imm L' (h.set (.b i) (.box u cs)) (w.alloc (.cells arr T)) ∧ Step (· = u) imm L h w imm L' (h.set (.b i) (.box u cs)) (w.alloc (.cells arr T)) ∧ Rel imm L' (.ptr i u 0) (.pointer (some ⟨w.heap.size, 0, none⟩)) := by
  rcases Nat.lt_or_ge i h.bs.length with hi | hi
  · exact box_ok hI hu hlt hi hr
  · have hset : h.set (.b i) (.box u cs) = h := by simp [Hp.set, List.set_eq_of_length_le hi]
    let L' : Locs := fun v => if v = u then some ⟨w.heap.size, 0, 1, cs.length⟩ else L v
    have hle : LLe L L' := fun v m hv => by
      show (if v = u then some _ else L v) = some m
      by_cases e : v = u
      · subst e; rw [hu] at hv; cases hv
      · rw [if_neg e]; exact hv
    have hold : ∀ z v m, (h.get z).mark = some v → L' v = some m → L v = some m := fun z v m hm hv => by
      obtain ⟨l, h1, _⟩ := (hI.obs z).loc hm
      have := hle _ _ h1
      rw [hv] at this
      rw [h1, this]
    have hlt' : ∀ z v m, (h.get z).mark = some v → L v = some m → m.blk < w.heap.size := fun z v m hm hv => by
      obtain ⟨l, h1, h2⟩ := (hI.obs z).loc hm
      rw [hv] at h1; cases h1; exact h2
    rw [hset]
    refine ⟨L', ⟨fun b o hb => ?_, fun v hv => ?_, fun z => ?_, fun x y u v l m hxy hu' hv hl hm => hI.apart x y u v l m hxy hu' hv (hold x u l hu' hl) (hold y v m hv hm), fun x v l hv hl => hI.free x v l hv (hold x v l hv hl)⟩, ⟨.refl _, fun _ _ h => .inl h, hle, fun v hv => if_neg hv, ?_, ⟨rfl, rfl, rfl, by simp, fun k hk _ => heap_alloc_old w _ k hk⟩⟩, .ptr (l := ⟨w.heap.size, 0, 1, cs.length⟩) (if_pos rfl)⟩
    · have := hI.fit b o hb
      rw [heap_alloc_old w _ b (Array.getElem?_eq_some_iff.1 this).1]; exact this
    · show (if v = u then some _ else L v) = none
      rw [if_neg (by omega)]; exact hI.nx v hv
    · exact (hI.obs z).mono (.refl _) hle fun v l hm hl => heap_alloc_old w _ _ (hlt' z v l hm hl)
    · rintro b ⟨x, v, l, hv, hl, rfl⟩
      exact .inl ⟨x, v, l, hv, hold x v l hv hl, rfl⟩

theorem builtin_ok (hI : Inv imm L h w) {o : Oper} {c : Call} {b : Builtin} {F : List AV} {a : Act} (hF : Rels imm L F a.tmps) {E : OpE} {ao : AOp} {ef : Eff} (iso : Nat → List AV → Option AV) (hu : L E.u = none) (hlt : E.u < h.nx)
    (ho : o.op = .call c) (hb : c.callee = .builtin b) (hc : compBuiltin P b c.args.toList c.argTypes.toList = some ao) (hr : (aop iso E F ao).run h = some ef) : OpOK imm L h w E.u ef ((execOp a.eval o).run P w) := by
  rw [builtin_run ho hb]
  obtain ⟨cal, ⟨args⟩, ⟨tys⟩⟩ := c
  simp only at hc ⊢
  have he := evs_list hF (⟨args⟩ : Array Operand)
  unfold compBuiltin at hc
  split at hc
  · rename_i x t
    have hx := ev_rel hF x
    have em : Array.map a.eval ⟨[x]⟩ = #[a.eval x] := by simp
    rw [em]
    show OpOK imm L h w E.u ef (Sem.run P (do let y ← Builtin.len_ #[t] o.type #[a.eval x]; Pure.pure (Next.value y)) w)
    split at hc
    · rename_i hs
      cases hc
      exact .pv hI (len_ok (str := true) (by simpa using hs) hx iso hr)
    · split at hc
      case isFalse => cases hc
      rename_i hs
      cases hc
      exact .pv hI (len_ok (str := false) (by simpa using hs) hx iso hr)
  · rename_i x y t u
    have hx := ev_rel hF x
    have hy := ev_rel hF y
    have em : Array.map a.eval ⟨[x, y]⟩ = #[a.eval x, a.eval y] := by simp
    rw [em]
    show OpOK imm L h w E.u ef (Sem.run P (do let z ← Builtin.append_ #[t, u] o.type #[a.eval x, a.eval y]; Pure.pure (Next.value z)) w)
    split at hc
    case h_2 => cases hc
    rename_i e he
    split at hc
    case h_2 => cases hc
    rename_i i z hi hz
    split at hc
    case isFalse => cases hc
    rename_i hk
    obtain ⟨hk, hzl, h0⟩ := hk
    cases hc
    have := app_ok (ty := o.type) hI (elemOfSlice_inv he) hi hz hzl hk hu hlt (E := E) hx hy hr
    rw [map_eq_pure_bind] at this
    exact this
  · rename_i x t
    have hx := ev_rel hF x
    have em : Array.map a.eval ⟨[x]⟩ = #[a.eval x] := by simp
    rw [em]
    show OpOK imm L h w E.u ef (Sem.run P (do let z ← Builtin.clear_ #[t] o.type #[a.eval x]; Pure.pure (Next.value z)) w)
    split at hc
    case h_2 => cases hc
    rename_i e he
    split at hc
    case h_2 => cases hc
    rename_i n z hn hz
    split at hc
    case isFalse => cases hc
    rename_i hk
    obtain ⟨hzl, h0, hone⟩ := hk
    cases hc
    have := clr_ok (ty := o.type) hI (elemOfSlice_inv he) hn hz hzl h0 hone hx rfl iso hr
    rw [map_eq_pure_bind] at this
    exact this
  · cases hc
    obtain ⟨v, h1, rfl⟩ := optMap hr
    obtain ⟨z, h2, h3⟩ := mm_ok (P := P) (w := w) (ty := o.type) (ts := ⟨tys⟩) h1 he
    exact .pv hI ⟨v, z, rfl, h2, h3⟩
  · cases hc
    obtain ⟨v, h1, rfl⟩ := optMap hr
    obtain ⟨z, h2, h3⟩ := mm_ok (P := P) (w := w) (ty := o.type) (ts := ⟨tys⟩) h1 he
    exact .pv hI ⟨v, z, rfl, h2, h3⟩
  · cases hc

theorem mu_ok (hI : Inv imm L h w) {t : TypeId} {m kk x : Operand} {F : List AV} {a : Act} (hF : Rels imm L F a.tmps) {E : OpE} {ao : AOp} {ef : Eff} (iso : Nat → List AV → Option AV)
    (hc : (match P.underlying t with
      | some (.map kt _) => match P.underlying kt with
        | some (.int _) => some (AOp.mu (compOpd m) (compOpd kk) (compOpd x))
        | _ => none
      | _ => none) = some ao) (hr : (aop iso E F ao).run h = some ef) : OpOK imm L h w E.u ef (Sem.run P (do Instr.mapUpdate t (a.eval m) (a.eval kk) (a.eval x); Pure.pure Next.skip) w) := by
  have hm := ev_rel hF m
  have hk := ev_rel hF kk
  split at hc
  case h_2 => cases hc
  rename_i kt e hmt
  split at hc
  case h_2 => cases hc
  rename_i q hkt
  cases hc
  simp only [aop] at hr
  split at hr
  case h_2 => cases hr
  rename_i r u n e0 e1
  rw [e0] at hm; rw [e1] at hk
  rw [hk.v_inv.1]
  simp only [Pr.run] at hr
  cases hg : h.get (.r r) with
  | map u' es =>
    rw [hg] at hr
    simp only at hr
    split at hr
    case isFalse => cases hr
    rename_i hu'; subst hu'
    cases hr
    obtain ⟨w', h2, h3, h4⟩ := update_ok (P := P) (u0 := E.u) (n := n) hI hmt hkt hm (ev_rel hF x) hg
    refine ⟨_, w', imm, L, urun h2, .inr ⟨rfl, rfl⟩, ?_, ?_⟩
    · rw [show ({ wr := [(.r r, .map u ((n, ev F (compOpd x)) :: es))] } : Eff) = { v := .top, wr := [(.r r, .map u ((n, ev F (compOpd x)) :: es))] } from rfl, Hp.app_one]; exact h3
    · rw [show ({ wr := [(.r r, .map u ((n, ev F (compOpd x)) :: es))] } : Eff) = { v := .top, wr := [(.r r, .map u ((n, ev F (compOpd x)) :: es))] } from rfl, Hp.app_one]; exact h4
  | _ => rw [hg] at hr; cases hr

theorem op_ok (hI : Inv imm L h w) {k : Nat} {o : Oper} {F : List AV} {a : Act} (hF : Rels imm L F a.tmps) {md : Nat → Nat} {E : OpE} {ao : AOp} {ef : Eff} (iso : Nat → List AV → Option AV) (hu : L E.u = none) (hlt : E.u < h.nx)
    (hc : compOp P md k o = some ao) (hn : ao.isCall = false) (hr : (aop iso E F ao).run h = some ef) : OpOK imm L h w E.u ef ((execOp a.eval o).run P w) := by
  unfold compOp at hc
  unfold execOp
  split at hc <;> rename_i ho <;> simp only [ho]
  · cases hc; cases hr; exact .pure hI rfl (ev_rel hF _)
  · cases hc; cases hr; exact .pure hI rfl (ev_rel hF _)
  · rename_i c x y
    cases hc
    have hcr := ev_rel hF c
    simp only [aop] at hr
    split at hr
    · rename_i t e0
      rw [e0] at hcr
      have hb : (asBool (a.eval c)).run P w = .ok t w := by rw [hcr.v_inv.1]; rfl
      cases t
      · cases hr
        exact .pure hI (x := a.eval y) (by rw [Sem.run_bind, hb]; rfl) (ev_rel hF _)
      · cases hr
        exact .pure hI (x := a.eval x) (by rw [Sem.run_bind, hb]; rfl) (ev_rel hF _)
    · cases hr
  · -- alloc
    rename_i e
    split at hc
    case h_2 => cases hc
    rename_i cs hz
    cases hc; cases hr
    obtain ⟨it, z, z1, z2, z3⟩ := zero_cells (imm := imm) (L := L) hz
    obtain ⟨L', b1, b2, b3⟩ := box_any (T := e) (i := E.nb + k) hI hu hlt z3
    refine OpOK.mk' (x := .pointer (some ⟨w.heap.size, 0, none⟩)) (w' := w.alloc (.cells z.cells e)) (vrun ?_) b3 (Hp.app_one ..) b1 b2
    simp [Instr.alloc, zeroValue, typeInfo, z1, z2, newVar, newRow]
  · -- box
    rename_i e x
    cases hc
    simp only [aop] at hr
    split at hr
    case h_2 => cases hr
    rename_i cs hcs
    cases hr
    have hx := cells_rel (ev_rel hF x) hcs
    obtain ⟨L', b1, b2, b3⟩ := box_any (T := e) (i := E.nb + k) hI hu hlt hx
    refine OpOK.mk' (x := .pointer (some ⟨w.heap.size, 0, none⟩)) (w' := w.alloc (.cells (a.eval x).cells e)) (vrun ?_) b3 (Hp.app_one ..) b1 b2
    simp [Instr.box, newVar, newRow]
  · -- build
    rename_i t parts
    split at hc
    case h_2 => cases hc
    rename_i fs hfs
    split at hc
    case h_2 => cases hc
    rename_i places zs hp hz
    split at hc
    case h_2 => cases hc
    rename_i ps hps
    cases hc
    obtain ⟨cs, h1, rfl⟩ := optMap hr
    obtain ⟨y, h2, h3⟩ := build_ok (P := P) (w := w) hF hfs hp hz hps h1
    exact .pv hI ⟨_, y, rfl, h2, h3⟩
  · -- buildSlice
    rename_i t n parts
    split at hc
    case h_2 => cases hc
    rename_i e he
    split at hc
    case h_2 => cases hc
    rename_i sz z hsz hz
    split at hc
    case isFalse => cases hc
    rename_i hk
    obtain ⟨hzl, hsm, h0⟩ := hk
    cases hc
    have := bsl_ok hI hF (elemOfSlice_inv he) hsz hz hzl hsm h0 iso hr
    rw [map_eq_pure_bind] at this
    exact this
  · -- load
    rename_i t x
    split at hc
    case h_2 => cases hc
    rename_i ag n hag hn'
    cases hc
    simp only [aop] at hr
    rw [run_pmap, Option.map_eq_some_iff] at hr
    obtain ⟨v, h1, rfl⟩ := hr
    obtain ⟨y, h2, h3⟩ := load_ok hI hag hn' (ev_rel hF x) h1
    exact .pv hI ⟨v, y, rfl, h2, h3⟩
  · -- store
    rename_i t p x
    split at hc
    case h_2 => cases hc
    rename_i n hn'
    cases hc
    simp only [aop] at hr
    split at hr
    case h_2 => cases hr
    rename_i cs hcs
    obtain ⟨h1, w', h2, h3, h4⟩ := store_ok (u0 := E.u) (y := a.eval x) hI hn' (ev_rel hF p) (cells_rel (ev_rel hF x) hcs) hr
    exact ⟨_, w', imm, L, urun h2, .inr ⟨rfl, h1⟩, h3, h4⟩
  · -- nilCheck
    rename_i x
    cases hc
    have hx := ev_rel hF x
    simp only [aop] at hr
    split at hr
    · rename_i e0; cases hr; rw [e0] at hx
      obtain ⟨l, hl, hxe⟩ := hx.ptr_inv
      rw [hxe] at hx ⊢
      exact .pure hI rfl hx
    · rename_i e0; cases hr; rw [e0] at hx
      generalize a.eval x = X at *
      cases hx.rop_inv with
      | rop val h1 h2 => exact .pure hI rfl hx
    · rename_i e0; cases hr; rw [e0] at hx
      obtain ⟨l, hl, hxe⟩ := hx.rowp_inv
      rw [hxe] at hx ⊢
      exact .pure hI rfl hx
    · rename_i e0; cases hr; rw [e0] at hx
      obtain ⟨arr, hxe, _⟩ := hx.fn_inv
      rw [hxe] at hx ⊢
      exact .pure hI rfl hx
    · cases hr
  · -- binOp
    exact .pv hI (compBin_ok (k := 0) hI hF iso hc hr)
  · -- unOp
    rename_i op _ x
    cases hc
    have hx := ev_rel hF x
    simp only [aop] at hr
    split at hr
    · rename_i e0; cases hr; rw [e0] at hx
      rw [hx.v_inv.1]
      exact .pv hI ⟨_, _, rfl, by simp [Op.unary, Op.intArith], .of (.v rfl)⟩
    · rename_i e0; cases hr; rw [e0] at hx
      rw [hx.v_inv.1]
      exact .pv hI ⟨_, _, rfl, by simp [Op.unary], .of (.v rfl)⟩
    · cases hr
  · -- convert
    rename_i src dst x
    split at hc
    case h_2 => cases hc
    rename_i q k' hs hd
    cases hc
    have hx := ev_rel hF x
    simp only [aop] at hr
    split at hr
    case h_2 => cases hr
    rename_i e0; cases hr; rw [e0] at hx
    rw [hx.v_inv.1]
    exact .pv hI ⟨_, _, rfl, by simp [convert, run_underlying hs, run_underlying hd, Conv.intToInt], .of (.v rfl)⟩
  · -- makeFunc
    rename_i f first caps
    split at hc
    case isFalse => cases hc
    rename_i hf
    cases hc; cases hr
    obtain rfl : first = #[] := Array.eq_empty_of_size_eq_zero hf
    have := evs_list hF caps
    refine .pv hI ⟨_, _, rfl, by simp [Instr.makeFunc]; rfl, ?_⟩
    exact .fn this.1 this.2
  · -- makeMap
    rename_i t
    split at hc
    case h_2 => cases hc
    rename_i kt e hm
    cases hc; cases hr
    obtain ⟨y, w', L', m1, m2, m3, m4⟩ := makeMap_ok (P := P) (t := t) hI hu hlt
    obtain ⟨l, hl, rfl⟩ := m4.mp_inv
    exact OpOK.mk' (w' := w') (vrun m1) (.mp hl) (h.app_lay _ _) m2 m3
  · -- makeSlice
    rename_i t l c
    split at hc
    case h_2 => cases hc
    rename_i p q
    split at hc
    case isFalse => cases hc
    rename_i hpq
    subst hpq
    split at hc
    case h_2 => cases hc
    rename_i e he
    split at hc
    case h_2 => cases hc
    rename_i i z hi hz
    split at hc
    case isFalse => cases hc
    rename_i hk
    obtain ⟨hzl, h0⟩ := hk
    cases hc
    have hx := ev_rel hF (.tmp p)
    simp only [aop] at hr
    split at hr
    case h_2 => cases hr
    rename_i n e0
    split at hr
    case isFalse => cases hr
    rename_i hk
    cases hr
    have e0' : ev F (compOpd (.tmp p)) = .v (.int .i64 n) := e0
    rw [e0'] at hx
    rw [hx.v_inv.1]
    have := mks_ok (E := E) hI (elemOfSlice_inv he) hi hz hzl h0 hu hlt hk
    rw [map_eq_pure_bind] at this
    exact this
  · -- slice
    rename_i t x lo hi mx
    have hx := ev_rel hF x
    split at hc
    · rename_i hst
      split at hc
      case h_2 => cases hc
      cases hc
      simp only [aop] at hr
      split at hr
      case h_2 => cases hr
      rename_i s e0
      split at hr
      case h_2 => cases hr
      rename_i l hh e1 e2
      split at hr
      case isFalse => cases hr
      rename_i hlh
      cases hr
      rw [e0] at hx
      rw [hx.v_inv.1]
      exact .pv hI ⟨_, _, rfl, sls_ok hF hst e1 e2 hlh.1 hlh.2, .of (.v rfl)⟩
    · rename_i e hst
      split at hc
      case h_2 => cases hc
      rename_i n hn'
      split at hc
      · cases hc
        simp only [aop] at hr
        rw [run_pmap, Option.map_eq_some_iff] at hr
        obtain ⟨v, h1, rfl⟩ := hr
        obtain ⟨z, h2, h3⟩ := sl_ok (P := P) hI hF hst hn' hx h1
        exact .pv hI ⟨_, z, rfl, h2, h3⟩
      · rename_i m l hh
        cases hc
        obtain ⟨v, z, e1, h2, h3⟩ := sl3_ok (P := P) (vx := some (a.eval l)) (vy := some (a.eval hh)) (vz := some (a.eval m)) hI hF hst hn' (fun l' hh' m' len cap b1 b2 b3 k1 k2 k3 => by
          rcases bnd_ok hF (x := some l) b1 with ⟨h, _⟩ | ⟨y, q, h, e1⟩ <;> cases h
          rcases bnd_ok hF (x := some hh) b2 with ⟨h, _⟩ | ⟨y, q2, h, e2⟩ <;> cases h
          rcases bnd_ok hF (x := some m) b3 with ⟨h, _⟩ | ⟨y, q3, h, e3⟩ <;> cases h
          rw [e1, e2, e3]
          exact sliceBounds3 k1 k2 k3) hx iso hr
        exact .pv hI ⟨v, z, e1, h2, h3⟩
      · rename_i m hh
        cases hc
        obtain ⟨v, z, e1, h2, h3⟩ := sl3_ok (P := P) (vx := none) (vy := some (a.eval hh)) (vz := some (a.eval m)) hI hF hst hn' (fun l' hh' m' len cap b1 b2 b3 k1 k2 k3 => by
          have : l' = 0 := by simpa [bnd, ev] using b1.symm
          subst this
          rcases bnd_ok hF (x := some hh) b2 with ⟨h, _⟩ | ⟨y, q2, h, e2⟩ <;> cases h
          rcases bnd_ok hF (x := some m) b3 with ⟨h, _⟩ | ⟨y, q3, h, e3⟩ <;> cases h
          rw [e2, e3]
          exact sliceBounds3' k2 k3) hx iso hr
        exact .pv hI ⟨v, z, e1, h2, h3⟩
      · cases hc
    · cases hc
  · -- fieldAddr
    rename_i t x i
    have hx := ev_rel hF x
    split at hc
    case h_2 => cases hc
    rename_i f hf
    split at hc
    case h_2 => cases hc
    rename_i n hn'
    split at hc
    case isTrue => cases hc
    rename_i h0
    cases hc
    simp only [aop] at hr
    split at hr
    · rename_i e0; cases hr; rw [e0] at hx
      obtain ⟨l, hl, hxe⟩ := hx.ptr_inv
      rw [hxe]
      exact .pv hI ⟨_, _, rfl, fieldAt_run hf hn' h0 _ _, by rw [Nat.add_assoc]; exact .ptr hl⟩
    · rename_i e0; cases hr; rw [e0] at hx
      generalize a.eval x = X at *
      cases hx.rop_inv with
      | rop val h1 h2 => exact .pv hI ⟨_, _, rfl, fieldAt_run hf hn' h0 _ _, by rw [Nat.add_assoc]; exact .of (.rop val h1 h2)⟩
    · rename_i e0; cases hr; rw [e0] at hx
      obtain ⟨l, hl, hxe⟩ := hx.rowp_inv
      rw [hxe]
      exact .pv hI ⟨_, _, rfl, fieldAt_run hf hn' h0 _ _, by rw [Nat.add_assoc]; exact .rowp hl⟩
    · cases hr
  · -- field
    rename_i t x i
    have hx := ev_rel hF x
    split at hc
    case h_2 => cases hc
    rename_i f hf
    split at hc
    case h_2 => cases hc
    rename_i ag n hag hn'
    cases hc
    simp only [aop] at hr
    split at hr
    case h_2 => cases hr
    rename_i cs e0
    obtain ⟨v, h1, rfl⟩ := optMap hr
    rw [e0] at hx
    obtain ⟨arr, hxe, hxr⟩ := hx.agg_inv
    rw [hxe]
    obtain ⟨y, h2, h3⟩ := fld_ok (P := P) (w := w) hf hag hn' hxr h1
    exact .pv hI ⟨_, y, rfl, h2, h3⟩
  · -- indexAddr
    rename_i t x i
    have hx := ev_rel hF x
    have hi := ev_rel hF i
    split at hc
    case h_2 => cases hc
    rename_i e he
    split at hc
    case h_2 => cases hc
    rename_i n hn'
    split at hc
    case isTrue => cases hc
    rename_i h0
    cases hc
    simp only [aop] at hr
    split at hr
    · rename_i xs q m e0 e1
      rw [e0] at hx; rw [e1] at hi
      rw [hi.v_inv.1]
      split at hr
      case isFalse => cases hr
      rename_i hm
      split at hr
      case h_2 => cases hr
      rename_i cs hcs
      split at hr
      case isFalse => cases hr
      rename_i hcl
      cases hr
      obtain ⟨y, h2, h3⟩ := ia_ro_ok (P := P) (w := w) (k := q) he hn' hx hm hcs hcl
      exact .pv hI ⟨_, y, rfl, h2, h3⟩
    · rename_i r u s len q m e0 e1
      rw [e0] at hx; rw [e1] at hi
      rw [hi.v_inv.1]
      simp only [Pr.run] at hr
      cases hg : h.get (.r r) with
      | row u' sz' xs =>
        rw [hg] at hr
        simp only at hr
        split at hr
        case isFalse => cases hr
        rename_i hk
        obtain ⟨rfl, rfl, hle, hm0, hm1⟩ := hk
        cases hr
        obtain ⟨y, h2, h3⟩ := ia_own_ok (P := P) (k := q) hI he hn' hx hg hm0 hm1
        exact .pv hI ⟨_, y, rfl, h2, h3⟩
      | _ => rw [hg] at hr; cases hr
    · cases hr
  · -- index
    rename_i t x i
    have hx := ev_rel hF x
    have hi := ev_rel hF i
    split at hc
    case isFalse => cases hc
    rename_i hst
    cases hc
    simp only [aop] at hr
    split at hr
    case h_2 => cases hr
    rename_i s q n e0 e1
    rw [e0] at hx; rw [e1] at hi
    rw [hx.v_inv.1, hi.v_inv.1]
    split at hr
    case isFalse => cases hr
    rename_i h0
    split at hr
    case h_2 => cases hr
    rename_i b hb
    cases hr
    exact .pv hI ⟨_, _, rfl, ix_ok hst h0 hb, .of (.v rfl)⟩
  · -- lookup
    rename_i t m kk ok
    have hm := ev_rel hF m
    have hk := ev_rel hF kk
    split at hc
    case h_2 => cases hc
    rename_i kt e hmt
    split at hc
    case h_2 => cases hc
    rename_i q z hkt hz
    cases hc
    simp only [aop] at hr
    split at hr
    case h_2 => cases hr
    rename_i r u n e0 e1
    rw [e0] at hm; rw [e1] at hk
    rw [hk.v_inv.1]
    simp only [Pr.run] at hr
    cases hg : h.get (.r r) with
    | map u' es =>
      rw [hg] at hr
      simp only at hr
      split at hr
      case isFalse => cases hr
      rename_i hu'; subst hu'
      cases hr
      obtain ⟨y, h2, h3⟩ := lookup_ok (P := P) (ok := ok) (n := n) hI hmt hkt hz hm hg
      exact .pv hI ⟨_, y, rfl, h2, h3⟩
    | _ => rw [hg] at hr; cases hr
  · -- mapUpdate
    rename_i t m kk x
    exact mu_ok hI hF iso hc hr
  · -- insert
    rename_i t m kk x
    exact mu_ok hI hF iso hc hr
  · -- extract
    rename_i x i
    have hx := ev_rel hF x
    cases hc
    simp only [aop] at hr
    split at hr
    case h_2 => cases hr
    rename_i vs e0
    split at hr
    case h_2 => cases hr
    rename_i v hv
    cases hr
    rw [e0] at hx
    obtain ⟨arr, hxe, hxr⟩ := hx.tup_inv
    rw [hxe]
    have hia : i < arr.size := by rw [← hxr.1]; exact (List.getElem?_eq_some_iff.1 hv).1
    exact .pv hI ⟨_, arr[i], rfl, by simp [Instr.extract, Array.getElem?_eq_getElem hia], hxr.2 i v _ hv (Array.getElem?_eq_getElem hia)⟩
  · -- call
    rename_i c
    split at hc
    · cases hc; cases hn
    · cases hc; cases hn
    · rename_i b hb
      have := builtin_ok (o := o) hI hF iso hu hlt ho hb hc hr
      unfold execOp at this
      simp only [ho] at this
      exact this
    · cases hc
  · cases hc
end
end Go.Pv

namespace Go.Pv
open Go

/-- A call of the function f ends so. -/
def CallsX (P : Program) (f : Nat) (cargs : Array Value) (w : World) (R : Value → World → Prop) : Prop :=
  ∀ (o : Oper) (a : Act) (next : Act → World → Prop) (Q : Exit → Act → World → Prop), (∀ x w', R x w' → next (a.put o.dst x) w') → o.upon P a next Q ((callFunc f cargs).run P w)

/-- What the interpreter says of calls is so. -/
def Sound (P : Program) (call : Nat → List AV → Hp → Option (AV × Hp)) : Prop :=
  ∀ (f : Nat) (args : List AV) (h : Hp) (v : AV) (h' : Hp), call f args h = some (v, h') →
    ∀ (imm : Imm) (L : Locs) (w : World) (cargs : Array Value), Inv imm L h w → Rels imm L args cargs →
      CallsX P f cargs w fun x w' => h.nx ≤ h'.nx ∧ ∃ imm' L', Rel imm' L' v x ∧ Inv imm' L' h' w' ∧ Step (h.nx ≤ ·) imm L h w imm' L' h' w'

section
variable {P : Program} {imm : Imm} {L : Locs} {h : Hp} {w : World}

theorem CallsX.mono {f : Nat} {cargs : Array Value} {R R' : Value → World → Prop} (hc : CallsX P f cargs w R) (hr : ∀ x w', R x w' → R' x w') : CallsX P f cargs w R' :=
  fun o a next Q hn => hc o a next Q fun x w' h => hn x w' (hr x w' h)

/-- A heap of which objects have gone. -/
theorem Inv.shrink (hI : Inv imm L h w) {h' : Hp} (hg : ∀ x, h'.get x = h.get x ∨ h'.get x = .dead) (hnx : h.nx ≤ h'.nx) : Inv imm L h' w where
  fit := hI.fit
  nx := fun u hu => hI.nx u (Nat.le_trans hnx hu)
  obs := fun x => by
    rcases hg x with e | e
    · rw [e]; exact hI.obs x
    · rw [e]; trivial
  apart := fun x y u v l m hxy hu hv => by
    rcases hg x with e | e
    · rcases hg y with e2 | e2
      · rw [e] at hu; rw [e2] at hv; exact hI.apart x y u v l m hxy hu hv
      · rw [e2] at hv; cases hv
    · rw [e] at hu; cases hu
  free := fun x u l hu => by
    rcases hg x with e | e
    · rw [e] at hu; exact hI.free x u l hu
    · rw [e] at hu; cases hu

theorem ownB.shrink {h' : Hp} (hg : ∀ x, h'.get x = h.get x ∨ h'.get x = .dead) {b : Nat} (hb : ownB L h' b) : ownB L h b := by
  obtain ⟨x, u, l, hu, hl, rfl⟩ := hb
  rcases hg x with e | e
  · rw [e] at hu; exact ⟨x, u, l, hu, hl, rfl⟩
  · rw [e] at hu; cases hu

theorem Step.shrink {N : Nat → Prop} {imm' : Imm} {L' : Locs} {h1 h2 : Hp} {w' : World} (hs : Step N imm L h w imm' L' h1 w') (hg : ∀ x, h2.get x = h1.get x ∨ h2.get x = .dead) : Step N imm L h w imm' L' h2 w' :=
  ⟨hs.le, hs.leN, hs.lle, hs.lleN, fun b hb => hs.own b (hb.shrink hg), hs.keep⟩

/-- A callee that is handed a part of the heap leaves the rest as it is. -/
theorem frame (hI : Inv imm L h w) {h1 h1' h' : Hp} {imm' : Imm} {L' : Locs} {w' : World} (hsub : ∀ x, h1.get x = h.get x ∨ h1.get x = .dead) (hnx : h.nx ≤ h1.nx) (hI' : Inv imm' L' h1' w') (hS : Step (h1.nx ≤ ·) imm L h1 w imm' L' h1' w')
    (hcase : ∀ x, (h'.get x = h.get x ∧ h1.get x = .dead) ∨ h'.get x = h1'.get x) (hnx' : h1'.nx ≤ h'.nx) : Inv imm' L' h' w' ∧ Step (h.nx ≤ ·) imm L h w imm' L' h' w' := by
  have hkeep : ∀ x u, h1.get x = .dead → (h.get x).mark = some u → ∀ l, L' u = some l → L u = some l ∧ l.blk < w.heap.size ∧ ¬ ownB L h1 l.blk := fun x u hd hm l hl => by
    obtain ⟨m, k1, k2⟩ := (hI.obs x).loc hm
    have := hS.lle _ _ k1
    rw [hl] at this; cases this
    refine ⟨k1, k2, ?_⟩
    rintro ⟨y, v, m, hv, hm', e⟩
    have hy : h1.get y = h.get y := by
      rcases hsub y with e | e
      · exact e
      · rw [e] at hv; cases hv
    rw [hy] at hv
    have hxy : y ≠ x := fun e => by subst e; rw [← hy, hd] at hv; cases hv
    exact hI.apart y x v u m l hxy hv hm hm' k1 e
  have hown : ∀ x u l, (h1'.get x).mark = some u → L' u = some l → ownB L h1 l.blk ∨ w.heap.size ≤ l.blk := fun x u l hu hl => hS.own _ ⟨x, u, l, hu, hl, rfl⟩
  have hsubo : ∀ b, ownB L h1 b → ownB L h b := fun b hb => hb.shrink hsub
  refine ⟨⟨hI'.fit, fun u hu => hI'.nx u (Nat.le_trans hnx' hu), fun x => ?_, fun x y u v l m hxy hu hv hlu hlv => ?_, fun x u l hu hl => ?_⟩, ⟨hS.le, hS.leN, hS.lle, fun u hu => hS.lleN u (fun h => hu (Nat.le_trans hnx h)), fun b hb => ?_, ⟨hS.keep.os, hS.keep.tape, hS.keep.output, hS.keep.size, fun k hk hn => hS.keep.block k hk fun ho => hn (hsubo k ho)⟩⟩⟩
  · rcases hcase x with ⟨e, hd⟩ | e
    · rw [e]
      refine (hI.obs x).mono hS.le hS.lle fun u l hm hl => ?_
      obtain ⟨_, k2, k3⟩ := hkeep x u hd hm l (hS.lle _ _ hl)
      exact hS.keep.block _ k2 k3
    · rw [e]; exact hI'.obs x
  · rcases hcase x with ⟨ex, hdx⟩ | ex <;> rcases hcase y with ⟨ey, hdy⟩ | ey <;> rw [ex] at hu <;> rw [ey] at hv
    · exact hI.apart x y u v l m hxy hu hv (hkeep x u hdx hu l hlu).1 (hkeep y v hdy hv m hlv).1
    · obtain ⟨_, k2, k3⟩ := hkeep x u hdx hu l hlu
      intro e
      rcases hown y v m hv hlv with k | k
      · exact k3 (e ▸ k)
      · omega
    · obtain ⟨_, k2, k3⟩ := hkeep y v hdy hv m hlv
      intro e
      rcases hown x u l hu hlu with k | k
      · exact k3 (e ▸ k)
      · omega
    · exact hI'.apart x y u v l m hxy hu hv hlu hlv
  · rcases hcase x with ⟨e, hd⟩ | e
    · rw [e] at hu
      obtain ⟨k1, k2, k3⟩ := hkeep x u hd hu l hl
      cases hi : imm' l.blk with
      | none => rfl
      | some o =>
        rcases hS.leN _ _ hi with k | k
        · rw [hI.free x u l hu k1] at k; cases k
        · omega
    · rw [e] at hu; exact hI'.free x u l hu hl
  · obtain ⟨x, u, l, hu, hl, rfl⟩ := hb
    rcases hcase x with ⟨e, hd⟩ | e
    · rw [e] at hu
      exact .inl ⟨x, u, l, hu, (hkeep x u hd hu l hl).1, rfl⟩
    · rw [e] at hu
      rcases hown x u l hu hl with k | k
      · exact .inl (hsubo _ k)
      · exact .inr k

theorem mapP_inv {α β : Type} (f : α → Pr β) : ∀ (cs : List α) (cs' : List β), (Pr.mapP f cs).run h = some cs' → cs'.length = cs.length ∧ ∀ (j : Nat) (b : β), cs'[j]? = some b → ∃ c, cs[j]? = some c ∧ (f c).run h = some b
  | [], cs', hm => by cases hm; exact ⟨rfl, fun j b hb => by simp at hb⟩
  | c :: cs, cs', hm => by
    simp only [Pr.mapP, run_pbind, Option.bind_eq_some_iff] at hm
    obtain ⟨b, h1, bs, h2, h3⟩ := hm
    cases h3
    obtain ⟨k1, k2⟩ := mapP_inv f cs bs h2
    refine ⟨by simp [k1], fun j d hd => ?_⟩
    cases j with
    | zero => cases hd; exact ⟨c, rfl, h1⟩
    | succ j => exact k2 j d hd

/-- A value read to the bottom: all that it leads to stays. -/
theorem dr_ok {imm' : Imm} (hI : Inv imm L h w) (hle : ImmLe imm imm') (hfr : ∀ x u l, (h.get x).mark = some u → L u = some l → imm' l.blk = w.heap[l.blk]?) : ∀ (n : Nat) (a a' : AV) (x : Value), (dr n a).run h = some a' → Rel imm L a x → Ro imm' a' x
  | 0, _, _, _, h, _ => by cases h
  | n + 1, a, a', x, hd, hr => by
    have hmap : ∀ (cs cs' : List AV) (arr : Array Value), (Pr.mapP (dr n) cs).run h = some cs' → Rels imm L cs arr → cs'.length = arr.size ∧ ∀ (j : Nat) (a : AV) (x : Value), cs'[j]? = some a → arr[j]? = some x → Ro imm' a x := fun cs cs' arr hm hrr => by
      obtain ⟨k1, k2⟩ := mapP_inv _ cs cs' hm
      refine ⟨by rw [k1]; exact hrr.1, fun j a x ha hx => ?_⟩
      obtain ⟨c, hc, hdc⟩ := k2 j a ha
      exact dr_ok hI hle hfr n c a x hdc (hrr.2 j c x hc hx)
    unfold dr at hd
    split at hd
    · cases ‹_›
    · cases hd; rename_i hh _; obtain ⟨rfl, hs⟩ := hr.v_inv; exact .v hs
    · cases hd; obtain ⟨A, rfl⟩ := hr.nils_inv; exact Ro.nil0 _ _
    · cases hd; obtain ⟨b, o, rfl⟩ := hr.emp_inv; exact Ro.nil0 _ _
    · cases hd; exact hr.ro_inv.mono hle
    · cases hd; exact hr.rop_inv.mono hle
    · rename_i m r u s k e
      cases e
      simp only [Pr.run] at hd
      cases hg : h.get (.r r) with
      | row u' sz xs =>
        rw [hg] at hd
        simp only at hd
        split at hd
        case isFalse => cases hd
        rename_i hc
        obtain ⟨rfl, hle2⟩ := hc
        rw [run_pbind, Option.bind_eq_some_iff] at hd
        obtain ⟨ys, h1, h2⟩ := hd
        cases h2
        obtain ⟨l, A, hl, k2, k3, k4, rfl⟩ := hr.own_inv
        obtain ⟨arr, T, m1, m2, m3, m4, m5⟩ := hI.row_data hg hl
        obtain ⟨q1, q2⟩ := mapP_inv _ _ ys h1
        have hyl : ys.length = k := by rw [q1]; simp; omega
        have himm : imm' l.blk = some (.cells arr T (0, 0)) := by rw [hfr (.r r) u l (by rw [hg]; rfl) hl, m2]
        rw [← hyl]
        have hrow : ∀ i y, ys[i]? = some y → i < k ∧ ∃ c, xs[s + i]? = some c ∧ (Pr.mapP (dr n) c).run h = some y := fun i y hy => by
          obtain ⟨c, hc1, hc2⟩ := q2 i y hy
          rw [List.getElem?_take] at hc1
          split at hc1
          case isFalse => cases hc1
          rename_i hik
          rw [List.getElem?_drop] at hc1
          exact ⟨hik, c, hc1, hc2⟩
        refine .ro (sz := sz) (fun i j => arr.getD (l.off + (s + i) * sz + j) undef) (by omega) (fun y hy => ?_) (fun h0 => ⟨l.blk, l.off + s * l.sz, by rw [k3 (by omega)], fun i j hi hj => ?_⟩) (fun i j y b hy hb => ?_)
        · obtain ⟨i, hi⟩ := List.mem_iff_getElem?.1 hy
          obtain ⟨_, c, hc1, hc2⟩ := hrow i y hi
          rw [(mapP_inv _ _ _ hc2).1]
          exact (m5 _ c hc1).1
        · have hlt : l.off + (s + i) * sz + j < arr.size := by
            have : (s + i + 1) * sz ≤ l.cap * sz := Nat.mul_le_mul_right _ (by omega)
            rw [Nat.succ_mul] at this
            omega
          have e2 : l.off + s * l.sz + i * sz + j = l.off + (s + i) * sz + j := by rw [m1, Nat.add_mul]; omega
          rw [e2]
          simp [immCell, himm, Array.getD_eq_getD_getElem?, hlt]
        · obtain ⟨_, c, hc1, hc2⟩ := hrow i y hy
          obtain ⟨d, hd1, hd2⟩ := (mapP_inv _ _ _ hc2).2 j b hb
          obtain ⟨x, hx, hrx⟩ := (m5 _ c hc1).2 j d hd1
          have e3 : arr.getD (l.off + (s + i) * sz + j) undef = x := by simp [Array.getD_eq_getD_getElem?, hx]
          show Ro imm' b (arr.getD (l.off + (s + i) * sz + j) undef)
          rw [e3]
          exact dr_ok hI hle hfr n d b x hd2 hrx
      | _ => rw [hg] at hd; cases hd
    · rename_i m cs e
      cases e
      rw [run_pbind, Option.bind_eq_some_iff] at hd
      obtain ⟨ys, h1, h2⟩ := hd
      cases h2
      obtain ⟨arr, rfl, hrr⟩ := hr.agg_inv
      exact .agg (hmap cs ys arr h1 hrr).1 (hmap cs ys arr h1 hrr).2
    · rename_i m cs e
      cases e
      rw [run_pbind, Option.bind_eq_some_iff] at hd
      obtain ⟨ys, h1, h2⟩ := hd
      cases h2
      obtain ⟨arr, rfl, hrr⟩ := hr.tup_inv
      exact .tup (hmap cs ys arr h1 hrr).1 (hmap cs ys arr h1 hrr).2
    · cases hd
end
end Go.Pv

namespace Go.Pv
open Go

section
variable {P : Program} {imm : Imm} {L : Locs} {h : Hp} {w : World}

theorem flat_ro : ∀ (n : Nat) (a : AV) (x : Value), flat n a = true → Ro imm a x → ∀ imm', Ro imm' a x
  | 0, _, _, h, _, _ => by cases h
  | n + 1, a, x, h, hr, imm' => by
    cases a with
    | v y => cases hr with | v h => exact .v h
    | nils => cases hr; exact .nils
    | agg cs =>
      cases hr with
      | agg h1 h2 => exact .agg h1 fun j a x ha hx => flat_ro n a x ((List.all_eq_true.1 h) a (List.mem_of_getElem? ha)) (h2 j a x ha hx) imm'
    | tup cs =>
      cases hr with
      | tup h1 h2 => exact .tup h1 fun j a x ha hx => flat_ro n a x ((List.all_eq_true.1 h) a (List.mem_of_getElem? ha)) (h2 j a x ha hx) imm'
    | _ => cases h

theorem Inv.none (hfit : ∀ b o, imm b = some o → w.heap[b]? = some o) : Inv imm (fun _ => none) ⟨[], [], 0⟩ w where
  fit := hfit
  nx := fun _ _ => rfl
  obs := fun x => by cases x <;> simp [Hp.get, ObRel]
  apart := fun x y u v l m _ _ _ hl => by cases hl
  free := fun x u l _ hl => by cases hl

/-- A call that is handed nothing of the caller's memory. -/
theorem iso_core {call : Nat → List AV → Hp → Option (AV × Hp)} (hs : Sound P call) {f : Nat} {args : List AV} {cargs : Array Value} {v : AV} (hi : isoOf call f args = some v) (hfit : ∀ b o, imm b = some o → w.heap[b]? = some o)
    (hl : args.length = cargs.size) (ha : ∀ (j : Nat) (a : AV) (x : Value), args[j]? = some a → cargs[j]? = some x → Ro imm a x) :
    CallsX P f cargs w fun x w1 => ∃ imm2, Ro imm2 v x ∧ ImmLe imm imm2 ∧ (∀ b o, imm2 b = some o → w1.heap[b]? = some o) ∧ (∀ b o, imm2 b = some o → imm b = some o ∨ w.heap.size ≤ b) ∧ Keep (fun _ => False) w w1 := by
  unfold isoOf at hi
  split at hi
  case h_2 => cases hi
  rename_i v0 h0 hcall
  have hc := hs f args _ v0 h0 hcall
  refine (hc imm (fun _ => none) w cargs (Inv.none hfit) ⟨hl, fun j a x h1 h2 => .of (ha j a x h1 h2)⟩).mono fun x w1 => ?_
  rintro ⟨_, imm1, L1, hr, hI1, hS⟩
  have hsz := hS.keep.size
  let imm2 : Imm := fun b => if b < w.heap.size then imm1 b else w1.heap[b]?
  have hlt : ∀ b o, imm b = some o → b < w.heap.size := fun b o hb => (Array.getElem?_eq_some_iff.1 (hfit b o hb)).1
  have h12 : ImmLe imm1 imm2 := fun b o hb => by
    show (if b < w.heap.size then imm1 b else w1.heap[b]?) = some o
    split
    · exact hb
    · exact hI1.fit b o hb
  have hno : ∀ b, ¬ ownB (fun _ => none) ⟨[], [], 0⟩ b := by
    rintro b ⟨x, u, l, _, hl, _⟩
    cases hl
  refine ⟨imm2, ?_, hS.le.trans h12, fun b o hb => ?_, fun b o hb => ?_, ⟨hS.keep.os, hS.keep.tape, hS.keep.output, hsz, fun k hk _ => hS.keep.block k hk (hno k)⟩⟩
  · refine dr_ok hI1 h12 (fun x u l hu hl => ?_) 6 v0 v x hi hr
    rcases hS.own _ ⟨x, u, l, hu, hl, rfl⟩ with k | k
    · exact absurd k (hno _)
    · exact if_neg (by omega)
  · have hb' : (if b < w.heap.size then imm1 b else w1.heap[b]?) = some o := hb
    split at hb'
    · exact hI1.fit b o hb'
    · exact hb'
  · have hb' : (if b < w.heap.size then imm1 b else w1.heap[b]?) = some o := hb
    split at hb'
    · exact hS.leN b o hb'
    · exact .inr (by omega)

/-- What stays as it is. -/
theorem Inv.keep (hI : Inv imm L h w) {imm2 : Imm} {w1 : World} (h1 : ImmLe imm imm2) (h2 : ∀ b o, imm2 b = some o → w1.heap[b]? = some o) (h3 : ∀ b o, imm2 b = some o → imm b = some o ∨ w.heap.size ≤ b) (hk : Keep (fun _ => False) w w1) :
    Inv imm2 L h w1 ∧ ∀ N, Step N imm L h w imm2 L h w1 := by
  have hlt : ∀ x u l, (h.get x).mark = some u → L u = some l → l.blk < w.heap.size := fun x u l hm hl => by
    obtain ⟨m, k1, k2⟩ := (hI.obs x).loc hm
    rw [hl] at k1; cases k1; exact k2
  refine ⟨⟨h2, hI.nx, fun x => (hI.obs x).mono h1 (.refl _) fun u l hm hl => hk.block _ (hlt x u l hm hl) id, hI.apart, fun x u l hm hl => ?_⟩, fun N => ⟨h1, h3, .refl _, fun _ _ => rfl, fun b hb => .inl hb, ⟨hk.os, hk.tape, hk.output, hk.size, fun k hk' _ => hk.block k hk' id⟩⟩⟩
  cases hi : imm2 l.blk with
  | none => rfl
  | some o =>
    rcases h3 _ _ hi with k | k
    · rw [hI.free x u l hm hl] at k; cases k
    · have := hlt x u l hm hl; omega

theorem call_run {o : Oper} {a : Act} {c : Call} {f : Nat} (ho : o.op = .call c) (hc : c.callee = .value (.func f)) : (execOp a.eval o).run P w = (callFunc f (c.args.map a.eval)).run P w := by
  have : a.eval (.func f) = .func (.func f) #[] #[] := rfl
  simp [execOp, ho, resolve, hc, this, Deferred.ofValue, invoke]

theorem callv_run {o : Oper} {a : Act} {c : Call} {f : Nat} {x : Operand} {arr : Array Value} (ho : o.op = .call c) (hc : c.callee = .value x) (hx : a.eval x = .func (.func f) #[] arr) :
    (execOp a.eval o).run P w = (callFunc f (c.args.map a.eval ++ arr)).run P w := by
  simp [execOp, ho, resolve, hc, hx, Deferred.ofValue, invoke]

/-- What an operation brings about. -/
def Does (imm : Imm) (L : Locs) (h : Hp) (w : World) (N : Nat → Prop) (v : AV) (h' : Hp) (x : Value) (w' : World) : Prop :=
  ∃ imm' L', Rel imm' L' v x ∧ Inv imm' L' h' w' ∧ Step N imm L h w imm' L' h' w'

theorem compBin_call {op : BinOp} {xt : TypeId} {x y : Operand} {ao : AOp} (hc : compBin P op xt x y = some ao) : ao.isCall = false := by
  unfold compBin at hc
  repeat' (split at hc)
  all_goals first
    | (cases hc; rfl)
    | (cases hc; done)

theorem compBuiltin_call {b : Builtin} {args : List Operand} {ts : List TypeId} {ao : AOp} (hc : compBuiltin P b args ts = some ao) : ao.isCall = false := by
  unfold compBuiltin at hc
  repeat' (split at hc)
  all_goals first
    | (cases hc; rfl)
    | (cases hc; done)

/-- Which operation is a call. -/
theorem compOp_call {md : Nat → Nat} {k : Nat} {o : Oper} {ao : AOp} (hc : compOp P md k o = some ao) : ao.isCall = false ∨ ∃ c, o.op = .call c ∧ ((∃ f, c.callee = .value (.func f) ∧ ao = .call (md f) f (c.args.toList.map compOpd)) ∨ ∃ x, c.callee = .value x ∧ ao = .callv (compOpd x) (c.args.toList.map compOpd)) := by
  unfold compOp at hc
  split at hc <;> rename_i ho
  case h_11 => exact .inl (compBin_call hc)
  case h_26 =>
    rename_i c
    split at hc
    · rename_i f hf; cases hc; exact .inr ⟨c, ho, .inl ⟨f, hf, rfl⟩⟩
    · rename_i x _ hx; cases hc; exact .inr ⟨c, ho, .inr ⟨x, hx, rfl⟩⟩
    · exact .inl (compBuiltin_call hc)
    · cases hc
  all_goals
    left
    repeat' (split at hc)
    all_goals first
      | (cases hc; rfl)
      | (cases hc; done)

theorem clean_args {imm : Imm} {L : Locs} {args : List AV} {cargs : Array Value} (hc : args.all (cln 6) = true) (hr : Rels imm L args cargs) : ∀ (j : Nat) (a : AV) (x : Value), args[j]? = some a → cargs[j]? = some x → Ro imm a x :=
  fun j a x ha hx => cln_ro 6 a x ((List.all_eq_true.1 hc) a (List.mem_of_getElem? ha)) (hr.2 j a x ha hx)

theorem nz_ro {imm : Imm} : ∀ (n : Nat) (a : AV) (x : Value), Ro imm a x → Ro imm (nz n a) x
  | 0, _, _, h => h
  | n + 1, a, x, h => by
    cases h with
    | v h => exact .v h
    | nils => exact Ro.nil0 _ _
    | emp => exact Ro.nil0 _ _
    | em h => exact .em h
    | ro val h1 h2 h3 h4 => exact .ro val h1 h2 h3 h4
    | rop val h1 h2 => exact .rop val h1 h2
    | agg h1 h2 =>
      refine .agg (by simpa using h1) fun j b y hb hy => ?_
      rw [List.getElem?_map, Option.map_eq_some_iff] at hb
      obtain ⟨c, hc, rfl⟩ := hb
      exact nz_ro n c y (h2 j c y hc hy)
    | tup h1 h2 =>
      refine .tup (by simpa using h1) fun j b y hb hy => ?_
      rw [List.getElem?_map, Option.map_eq_some_iff] at hb
      obtain ⟨c, hc, rfl⟩ := hb
      exact nz_ro n c y (h2 j c y hc hy)
    | fn h1 h2 =>
      refine .fn (by simpa using h1) fun j b y hb hy => ?_
      rw [List.getElem?_map, Option.map_eq_some_iff] at hb
      obtain ⟨c, hc, rfl⟩ := hb
      exact nz_ro n c y (h2 j c y hc hy)
    | top => exact .top

/-- A call that is handed nothing of the caller's memory, in the caller's eyes. -/
theorem call0_ok {call : Nat → List AV → Hp → Option (AV × Hp)} (hs : Sound P call) (hI : Inv imm L h w) {E : OpE} {F : List AV} {f : Nat} {args : List Opd} {cargs : Array Value} {ef : Eff} (hargs : Rels imm L (args.map (ev F)) cargs)
    (hr : (aop (isoOf call) E F (.call 0 f args)).run h = some ef) : ∃ v, ef = { v } ∧ CallsX P f cargs w fun x w' => ∃ imm', Rel imm' L v x ∧ Inv imm' L h w' ∧ ∀ N, Step N imm L h w imm' L h w' := by
  simp only [aop, if_true] at hr
  split at hr
  · rename_i hcl
    split at hr
    case h_2 => cases hr
    rename_i v hv
    cases hr
    have hro := clean_args hcl hargs
    refine ⟨v, rfl, (iso_core hs hv hI.fit (by simpa using hargs.1) (fun j b y hb hy => by
      rw [List.getElem?_map, Option.map_eq_some_iff] at hb
      obtain ⟨o, ho, rfl⟩ := hb
      exact nz_ro 6 _ y (hro j _ y (by rw [List.getElem?_map, ho]; rfl) hy))).mono fun x w1 => ?_⟩
    rintro ⟨imm2, k1, k2, k3, k4, k5⟩
    obtain ⟨q1, q2⟩ := hI.keep k2 k3 k4 k5
    exact ⟨imm2, .of k1, q1, q2⟩
  · rw [run_pbind, Option.bind_eq_some_iff] at hr
    obtain ⟨as, has, hr⟩ := hr
    split at hr
    case h_2 => cases hr
    rename_i v hv
    split at hr
    case isFalse => cases hr
    rename_i hfl
    cases hr
    obtain ⟨m1, m2⟩ := mapP_inv _ _ _ has
    refine ⟨v, rfl, (iso_core (imm := fun b => w.heap[b]?) hs hv (fun b o hb => hb) (by rw [m1]; exact hargs.1) (fun j a x ha hx => ?_)).mono fun x w1 => ?_⟩
    · obtain ⟨c, hc1, hc2⟩ := m2 j a ha
      exact dr_ok hI (fun b o hb => hI.fit b o hb) (fun _ _ _ _ _ => rfl) 6 c a x hc2 (hargs.2 j c x hc1 hx)
    · rintro ⟨imm2, k1, k2, k3, k4, k5⟩
      obtain ⟨q1, q2⟩ := hI.keep (imm2 := imm) (w1 := w1) (.refl _) (fun b o hb => k3 b o (k2 b o (hI.fit b o hb))) (fun b o hb => .inl hb) k5
      exact ⟨imm, .of (flat_ro 6 v x hfl k1 imm), q1, q2⟩

theorem wp_of_callsX {o : Oper} {a : Act} {f : Nat} {cargs : Array Value} {R : Value → World → Prop} {next : Act → World → Prop} {Q : Exit → Act → World → Prop} (hc : CallsX P f cargs w R) (he : (execOp a.eval o).run P w = (callFunc f cargs).run P w)
    (hn : ∀ x w', R x w' → next (a.put o.dst x) w') : o.wp P a w next Q := by
  unfold Oper.wp
  rw [he]
  exact hc o a next Q hn

/-- An operation of which the interpreter asks the heap alone. -/
theorem aop_go {call : Nat → List AV → Hp → Option (AV × Hp)} (hs : Sound P call) (hI : Inv imm L h w) {k : Nat} {o : Oper} {F : List AV} {a : Act} (hF : Rels imm L F a.tmps) {md : Nat → Nat} {E : OpE} {ao : AOp} {ef : Eff} (hu : L E.u = none) (hlt : E.u < h.nx)
    (hc : compOp P md k o = some ao) (hr : (aop (isoOf call) E F ao).run h = some ef) {next : Act → World → Prop} {Q : Exit → Act → World → Prop}
    (hn : ∀ x w', Does imm L h w (· = E.u) ef.v (h.app ef) x w' → next (a.put o.dst x) w') : o.wp P a w next Q := by
  rcases compOp_call hc with hnc | ⟨c, ho, ⟨f, hf, rfl⟩ | ⟨x, hx, rfl⟩⟩
  · obtain ⟨nx, w', imm', L', h1, h2, h3, h4⟩ := op_ok hI hF (isoOf call) hu hlt hc hnc hr
    unfold Oper.wp
    rw [h1]
    rcases h2 with ⟨x, rfl, hv⟩ | ⟨rfl, hv⟩
    · exact hn x w' ⟨imm', L', hv, h3, h4⟩
    · exact hn undef w' ⟨imm', L', by rw [hv]; exact .of .top, h3, h4⟩
  · by_cases hm : md f = 0
    · rw [hm] at hr
      obtain ⟨v, rfl, hcx⟩ := call0_ok hs hI (evs_list hF c.args) hr
      refine wp_of_callsX hcx (call_run ho hf) fun x w' => ?_
      rintro ⟨imm', k1, k2, k3⟩
      exact hn x w' ⟨imm', L, k1, by rw [Hp.app_pure]; exact k2, by rw [Hp.app_pure]; exact k3 _⟩
    · simp only [aop, if_neg hm] at hr
      cases hr
  · cases hr
end
end Go.Pv

namespace Go.Pv
open Go

section
variable {P : Program} {imm : Imm} {L : Locs} {h : Hp} {w : World}

theorem wanted_ok {ops : Array Oper} {o : Oper} {F : List AV} {a : Act} (hF : Rels imm L F a.tmps) {g : Option (Nat × Bool)} (hg : (match o.guard with
      | none => some none
      | some (j, w) => match (ops[j]?).bind (·.dst) with
        | some d => some (some (d, w))
        | none => none) = some g) {b : Bool} (hb : wantedA F g = some b) : Region.wanted o (yielded ops a.tmps) = b := by
  unfold Region.wanted
  split at hg
  · rename_i e
    cases hg
    cases hb
    rw [e]
  · rename_i j want e
    rw [e]
    split at hg
    case h_2 => cases hg
    rename_i d hd
    cases hg
    simp only [wantedA] at hb
    split at hb
    case h_3 => cases hb
    · rename_i x hx
      cases hb
      have hxe : F[d]? = some (.v (.bool x)) := by
        rw [List.getD_eq_getElem?_getD] at hx
        cases hq : F[d]? with
        | none => rw [hq] at hx; cases hx
        | some q => rw [hq] at hx; exact congrArg some hx
      have hlt : d < a.tmps.size := by rw [← hF.1]; exact (List.getElem?_eq_some_iff.1 hxe).1
      have := (hF.2 d _ a.tmps[d] hxe (Array.getElem?_eq_getElem hlt)).v_inv.1
      simp only [yielded, hd, Option.bind_some, Array.getElem?_eq_getElem hlt, this]
      cases x <;> cases want <;> rfl
    · rename_i hx
      cases hb
      have hxe : F[d]? = some (.tup []) := by
        rw [List.getD_eq_getElem?_getD] at hx
        cases hq : F[d]? with
        | none => rw [hq] at hx; cases hx
        | some q => rw [hq] at hx; exact congrArg some hx
      have hlt : d < a.tmps.size := by rw [← hF.1]; exact (List.getElem?_eq_some_iff.1 hxe).1
      have hv : ∃ arr, a.tmps[d] = .tuple arr := by
        have := hF.2 d _ a.tmps[d] hxe (Array.getElem?_eq_getElem hlt)
        generalize a.tmps[d] = y at this
        cases this with
        | of h => cases h; exact ⟨_, rfl⟩
        | tup => exact ⟨_, rfl⟩
      obtain ⟨arr, hv⟩ := hv
      simp only [yielded, hd, Option.bind_some, Array.getElem?_eq_getElem hlt, hv]
      cases want <;> rfl

/-- The heap opened for a region. -/
theorem getD_append_dead (l : List Ob) (n i : Nat) : (l ++ List.replicate n Ob.dead).getD i Ob.dead = l.getD i Ob.dead := by
  rw [List.getD_eq_getElem?_getD, List.getD_eq_getElem?_getD]
  rcases Nat.lt_or_ge i l.length with hi | hi
  · rw [List.getElem?_append_left hi]
  · rw [List.getElem?_append_right hi, List.getElem?_eq_none hi, List.getElem?_replicate]
    split <;> rfl

theorem get_opened (nb n : Nat) (x : Ref) : (opened nb n h).get x = h.get x := by
  cases x with
  | b i => exact getD_append_dead h.bs nb i
  | r i => rfl

theorem get_take (k : Nat) (x : Ref) : ({ h with bs := h.bs.take k } : Hp).get x = h.get x ∨ ({ h with bs := h.bs.take k } : Hp).get x = .dead := by
  cases x with
  | r i => exact .inl rfl
  | b i =>
    show (h.bs.take k).getD i Ob.dead = h.bs.getD i Ob.dead ∨ (h.bs.take k).getD i Ob.dead = Ob.dead
    rw [List.getD_eq_getElem?_getD, List.getD_eq_getElem?_getD, List.getElem?_take]
    split
    · exact .inl rfl
    · exact .inr rfl

/-- One operation of a region in the text's order. -/
theorem step1_go {call : Nat → List AV → Hp → Option (AV × Hp)} (hs : Sound P call) {md : Nat → Nat} {k nb u : Nat} {o : Oper} {ao : AOper} {s s' : St} {a : Act} (hI : Inv imm L s.2 w) (hF : Rels imm L s.1 a.tmps) (hu : L u = none) (hlt : u < s.2.nx)
    (hc : compOp P md k o = some ao.op) (hd : ao.d = o.dst) (hr : step1 call nb u ao s = some s') :
    ∃ v, s'.1 = put s.1 o.dst v ∧ ∀ (next : Act → World → Prop) (Q : Exit → Act → World → Prop), (∀ x w', s.2.nx ≤ s'.2.nx → Does imm L s.2 w (fun v => v = u ∨ s.2.nx ≤ v) v s'.2 x w' → next (a.put o.dst x) w') → o.wp P a w next Q := by
  obtain ⟨d, op, g⟩ := ao
  simp only at hc hd
  subst hd
  have plain (hr : (match (aop (isoOf call) ⟨nb, u, s.2.rs.length⟩ s.1 op).run s.2 with
      | some ef => some (put s.1 o.dst ef.v, s.2.app ef)
      | none => none) = some s') : ∃ v, s'.1 = put s.1 o.dst v ∧ ∀ (next : Act → World → Prop) (Q : Exit → Act → World → Prop), (∀ x w', s.2.nx ≤ s'.2.nx → Does imm L s.2 w (fun v => v = u ∨ s.2.nx ≤ v) v s'.2 x w' → next (a.put o.dst x) w') → o.wp P a w next Q := by
    split at hr
    case h_2 => cases hr
    rename_i ef hef
    cases hr
    have hnx : (s.2.app ef).nx = s.2.nx := by
      have : ∀ (l : List (Ref × Ob)) (h : Hp), (l.foldl (fun h x => h.set x.1 x.2) h).nx = h.nx := fun l => by
        induction l with
        | nil => intro h; rfl
        | cons x l ih => intro h; rw [List.foldl_cons, ih, Hp.nx_set]
      exact this _ _
    refine ⟨ef.v, rfl, fun next Q hn => aop_go hs hI hF hu hlt hc hef fun x w' => ?_⟩
    rintro ⟨imm', L', k1, k2, k3⟩
    exact hn x w' (by rw [hnx]; exact Nat.le_refl _) ⟨imm', L', k1, k2, k3.weaken fun v hv => .inl hv⟩
  have hcal : ∀ {f : Nat} {cargs : Array Value} {args : List AV} {h1 : Hp} {v : AV} {h1' h' : Hp}, call f args h1 = some (v, h1') → Rels imm L args cargs → (execOp a.eval o).run P w = (callFunc f cargs).run P w → (∀ x, h1.get x = s.2.get x ∨ h1.get x = .dead) → h1.nx = s.2.nx →
      (∀ x, (h'.get x = s.2.get x ∧ h1.get x = .dead) ∨ h'.get x = h1'.get x) → h1'.nx = h'.nx → ∀ (next : Act → World → Prop) (Q : Exit → Act → World → Prop), (∀ x w', s.2.nx ≤ h'.nx → Does imm L s.2 w (fun v => v = u ∨ s.2.nx ≤ v) v h' x w' → next (a.put o.dst x) w') → o.wp P a w next Q := by
    intro f cargs args h1 v h1' h' hcall hargs he hsub hnx hcase hnx'
    have k2 := hs f args h1 v h1' hcall
    have hI1 : Inv imm L h1 w := hI.shrink hsub (by omega)
    refine fun next Q hn => wp_of_callsX (k2 imm L w cargs hI1 hargs) he fun x w' => ?_
    rintro ⟨k1, imm', L', q1, q2, q3⟩
    obtain ⟨q4, q5⟩ := frame hI hsub (by omega) q2 q3 hcase (by omega)
    exact hn x w' (by omega) ⟨imm', L', q1, q4, q5.weaken fun v hv => .inr hv⟩
  rcases compOp_call hc with hnc | ⟨c, ho, ⟨f, hf, rfl⟩ | ⟨x, hx, rfl⟩⟩
  · refine plain ?_
    unfold step1 at hr
    split at hr <;> rename_i e <;> simp only at e
    · rw [e] at hnc; cases hnc
    · rw [e] at hnc; cases hnc
    · rw [e] at hnc; cases hnc
    · exact hr
  · have hargs := evs_list hF c.args
    unfold step1 at hr
    split at hr <;> rename_i e <;> simp only at e
    · rename_i f' args'
      injection e with e1 e2 e3
      subst e2; subst e3
      split at hr
      case h_2 => cases hr
      rename_i v h1' hcall
      cases hr
      have q2 := hcal (h' := { h1' with bs := s.2.bs }) hcall hargs (call_run ho hf) (fun x => by cases x with | b i => exact .inr (by simp [Hp.get]) | r i => exact .inl rfl) rfl (fun x => by cases x with | b i => exact .inl ⟨rfl, by simp [Hp.get]⟩ | r i => exact .inr rfl) rfl
      exact ⟨v, rfl, q2⟩
    · rename_i f' args'
      injection e with e1 e2 e3
      subst e2; subst e3
      split at hr
      case h_2 => cases hr
      rename_i v h1' hcall
      cases hr
      have q2 := hcal (h' := h1') hcall hargs (call_run ho hf) (fun x => .inl rfl) rfl (fun x => .inr rfl) rfl
      exact ⟨v, rfl, q2⟩
    · cases e
    · exact plain hr
  · have hargs := evs_list hF c.args
    have hxr := ev_rel hF x
    simp only [step1] at hr
    split at hr
    case h_2 => cases hr
    rename_i f caps e0
    rw [e0] at hxr
    obtain ⟨arr, hxe, hcr⟩ := hxr.fn_inv
    split at hr
    case h_2 => cases hr
    rename_i v h1' hcall
    cases hr
    have happ : Rels imm L ((c.args.toList.map compOpd).map (ev s.1) ++ caps) (c.args.map a.eval ++ arr) := by
      refine ⟨by rw [List.length_append, Array.size_append, hargs.1, hcr.1], fun j b y hb hy => ?_⟩
      rw [List.getElem?_append] at hb
      rw [Array.getElem?_append, ← hargs.1] at hy
      split at hb
      · rename_i hj; rw [if_pos hj] at hy; exact hargs.2 j b y hb hy
      · rename_i hj; rw [if_neg hj] at hy; exact hcr.2 _ b y hb hy
    have q2 := hcal (h' := h1') hcall happ (callv_run ho hx hxe) (fun x => .inl rfl) rfl (fun x => .inr rfl) rfl
    exact ⟨v, rfl, q2⟩
end
end Go.Pv

namespace Go.Pv
open Go

section
variable {P : Program}

/-- A state of the run against one of the interpreter's, seen from where the function began. -/
def At (imm0 : Imm) (L0 : Locs) (h0 : Hp) (w0 : World) (s : St) (a : Act) (w : World) : Prop :=
  ∃ imm L, Inv imm L s.2 w ∧ Rels imm L s.1 a.tmps ∧ Step (h0.nx ≤ ·) imm0 L0 h0 w0 imm L s.2 w ∧ h0.nx ≤ s.2.nx ∧ a.defers = []

variable {imm0 : Imm} {L0 : Locs} {h0 : Hp} {w0 : World}

theorem At.shrink {s : St} {a : Act} {w : World} (h : At imm0 L0 h0 w0 s a w) {h' : Hp} (hg : ∀ x, h'.get x = s.2.get x ∨ h'.get x = .dead) (hnx : s.2.nx ≤ h'.nx) : At imm0 L0 h0 w0 (s.1, h') a w := by
  obtain ⟨imm, L, k1, k2, k3, k4, k5⟩ := h
  exact ⟨imm, L, k1.shrink hg hnx, k2, k3.shrink hg, Nat.le_trans k4 hnx, k5⟩

theorem At.drawn {s : St} {a : Act} {w : World} (h : At imm0 L0 h0 w0 s a w) (n : Nat) : At imm0 L0 h0 w0 s a { w with drawn := n } := by
  obtain ⟨imm, L, k1, k2, k3, k4, k5⟩ := h
  exact ⟨imm, L, k1.world rfl, k2, ⟨k3.le, k3.leN, k3.lle, k3.lleN, k3.own, ⟨k3.keep.os, k3.keep.tape, k3.keep.output, k3.keep.size, k3.keep.block⟩⟩, k4, k5⟩

/-- The same, with marks that nobody bears yet. -/
def AtF (imm0 : Imm) (L0 : Locs) (h0 : Hp) (w0 : World) (fr : Nat → Prop) (s : St) (a : Act) (w : World) : Prop :=
  ∃ imm L, Inv imm L s.2 w ∧ Rels imm L s.1 a.tmps ∧ Step (h0.nx ≤ ·) imm0 L0 h0 w0 imm L s.2 w ∧ h0.nx ≤ s.2.nx ∧ a.defers = [] ∧ ∀ u, fr u → L u = none ∧ u < s.2.nx ∧ h0.nx ≤ u

theorem AtF.at {fr : Nat → Prop} {s : St} {a : Act} {w : World} (h : AtF imm0 L0 h0 w0 fr s a w) : At imm0 L0 h0 w0 s a w := by
  obtain ⟨imm, L, k1, k2, k3, k4, k5, _⟩ := h
  exact ⟨imm, L, k1, k2, k3, k4, k5⟩

theorem At.opened {s : St} {a : Act} {w : World} (h : At imm0 L0 h0 w0 s a w) (nb n : Nat) : AtF imm0 L0 h0 w0 (fun u => s.2.nx ≤ u ∧ u < s.2.nx + n) (s.1, opened nb n s.2) a w := by
  obtain ⟨imm, L, k1, k2, k3, k4, k5⟩ := h
  refine ⟨imm, L, k1.shrink (fun x => .inl (get_opened nb n x)) (Nat.le_add_right _ _), k2, k3.shrink fun x => .inl (get_opened nb n x), Nat.le_trans k4 (Nat.le_add_right _ _), k5, fun u hu => ⟨k1.nx u hu.1, hu.2, by omega⟩⟩

theorem mask_get : ∀ (m : List Bool) (F : List AV) (j : Nat) (a : AV), (mask m F)[j]? = some a → a = .top ∨ F[j]? = some a
  | [], F, j, a, h => .inr h
  | b :: m, [], j, a, h => by simp [mask] at h
  | b :: m, x :: F, j, a, h => by
    cases j with
    | zero =>
      simp only [mask, List.getElem?_cons_zero, Option.some.injEq] at h
      cases b
      · exact .inl h.symm
      · exact .inr (by simpa using h)
    | succ j => exact mask_get m F j a (by simpa [mask] using h)

theorem mask_length : ∀ (m : List Bool) (F : List AV), (mask m F).length = F.length
  | [], F => rfl
  | b :: m, [] => rfl
  | b :: m, x :: F => by simp [mask, mask_length m F]

theorem At.mask {s : St} {a : Act} {w : World} (h : At imm0 L0 h0 w0 s a w) (m : List Bool) : At imm0 L0 h0 w0 (Pv.mask m s.1, s.2) a w := by
  obtain ⟨imm, L, k1, k2, k3, k4, k5⟩ := h
  refine ⟨imm, L, k1, ⟨by rw [mask_length]; exact k2.1, fun j b x hb hx => ?_⟩, k3, k4, k5⟩
  rcases mask_get m s.1 j b hb with rfl | hb
  · exact .of .top
  · exact k2.2 j b x hb hx

/-- What an operation brings about, from there on. -/
theorem AtF.next {imm : Imm} {L : Locs} {fr : Nat → Prop} {u : Nat} {s s' : St} {o : Oper} {a : Act} {w w' : World} {v : AV} {x : Value} (hI : Inv imm L s.2 w) (hF : Rels imm L s.1 a.tmps) (hS : Step (h0.nx ≤ ·) imm0 L0 h0 w0 imm L s.2 w) (hnx : h0.nx ≤ s.2.nx) (hd : a.defers = [])
    (hfr : ∀ u, fr u → L u = none ∧ u < s.2.nx ∧ h0.nx ≤ u) (hu : fr u) (hnx' : s.2.nx ≤ s'.2.nx) (hs : s'.1 = put s.1 o.dst v) (hdo : Does imm L s.2 w (fun v => v = u ∨ s.2.nx ≤ v) v s'.2 x w') : AtF imm0 L0 h0 w0 (fun v => fr v ∧ v ≠ u) s' (a.put o.dst x) w' := by
  obtain ⟨imm', L', k1, k2, k3⟩ := hdo
  refine ⟨imm', L', k2, ?_, hS.trans (k3.weaken fun v hv => ?_), Nat.le_trans hnx hnx', by rw [act_put_defers]; exact hd, fun v hv => ?_⟩
  · rw [hs]; exact (hF.mono k3.le k3.lle).put' o.dst k1
  · rcases hv with rfl | hv
    · exact (hfr _ hu).2.2
    · exact Nat.le_trans hnx hv
  · obtain ⟨q1, q2, q3⟩ := hfr v hv.1
    refine ⟨?_, Nat.lt_of_lt_of_le q2 hnx', q3⟩
    rw [k3.lleN v (fun h => by rcases h with h | h; exact hv.2 h; omega)]
    exact q1

/-- Operations in the text's order. -/
theorem runOps_go {call : Nat → List AV → Hp → Option (AV × Hp)} (hs : Sound P call) {md : Nat → Nat} {ops : Array Oper} {nb u : Nat} {Q : Exit → Act → World → Prop} : ∀ (l : List Oper) (k : Nat) (as : List AOper) (i : Nat) (s s' : St) (a : Act) (w : World),
    compOps P md ops l k = some as → runOps call nb u as i s = some s' → AtF imm0 L0 h0 w0 (fun v => u + i ≤ v ∧ v < u + i + as.length) s a w → (∀ a' w', At imm0 L0 h0 w0 s' a' w' → Q .normal a' w') → wpList P ops Q l a w
  | [], k, as, i, s, s', a, w, hc, hr, hA, hQ => by
    cases hc; cases hr
    exact hQ a w hA.at
  | o :: l, k, as, i, s, s', a, w, hc, hr, hA, hQ => by
    unfold compOps at hc
    split at hc
    case h_2 => cases hc
    rename_i ao al h1 h2
    obtain ⟨g, rfl, hg⟩ : ∃ g, as = ⟨o.dst, ao, g⟩ :: al ∧ (match o.guard with
      | none => some none
      | some (j, w) => match (ops[j]?).bind (·.dst) with
        | some d => some (some (d, w))
        | none => none) = some g := by
      split at hc
      · rename_i e; cases hc; exact ⟨none, rfl, by rw [e]⟩
      · rename_i j w e
        split at hc
        case h_2 => cases hc
        rename_i d hd
        cases hc
        refine ⟨some (d, w), rfl, ?_⟩
        rw [e]
        simp only
        rw [hd]
    obtain ⟨imm, L, k1, k2, k3, k4, k5, k6⟩ := hA
    have hlen : (⟨o.dst, ao, g⟩ :: al : List AOper).length = al.length + 1 := rfl
    have hfr0 : u + i ≤ u + i ∧ u + i < u + i + (⟨o.dst, ao, g⟩ :: al : List AOper).length := ⟨Nat.le_refl _, by omega⟩
    unfold runOps at hr
    simp only at hr
    split at hr
    · rename_i hw
      have hwt := wanted_ok k2 hg hw
      split at hr
      case h_2 => cases hr
      rename_i s1 hs1
      obtain ⟨v, q2, q3⟩ := step1_go hs k1 k2 (k6 _ hfr0).1 (k6 _ hfr0).2.1 h1 rfl hs1
      unfold wpList
      rw [hwt, if_pos rfl]
      refine .inl (q3 _ _ fun x w' q1 hdo => ?_)
      have hn := AtF.next (o := o) k1 k2 k3 k4 k5 k6 hfr0 q1 q2 hdo
      refine runOps_go hs l _ al (i + 1) s1 s' _ w' h2 hr ?_ hQ
      obtain ⟨imm', L', j1, j2, j3, j4, j5, j6⟩ := hn
      exact ⟨imm', L', j1, j2, j3, j4, j5, fun v hv => j6 v ⟨⟨by omega, by omega⟩, by omega⟩⟩
    · rename_i hw
      have hwt := wanted_ok k2 hg hw
      unfold wpList
      rw [hwt, if_neg (by simp)]
      refine runOps_go hs l _ al (i + 1) _ s' _ w h2 hr ?_ hQ
      exact ⟨imm, L, k1, k2.put' o.dst (.of Ro.undef), k3, k4, by rw [act_put_defers]; exact k5, fun v hv => k6 v ⟨by omega, by omega⟩⟩
    · cases hr

def exitOf : Ex → Exit
  | .nrm => .normal
  | .ex id => .exit id
  | .ret => .ret

/-- Regions whose order is open. -/
def DrawOK (P : Program) (md : Nat → Nat) (call : Nat → List AV → Hp → Option (AV × Hp)) : Prop :=
  ∀ (id : Nat) (ops : Array Oper) (nb : Nat) (as : List AOper) (prs : List (Nat × Nat)), compCode P md (.region id ops true) = some (.dreg nb as prs) → ∀ (imm0 : Imm) (L0 : Locs) (h0 : Hp) (w0 : World) (s s' : St) (fps : List FP) (a : Act) (w : World) (Q : Exit → Act → World → Prop),
    runD call s.2.bs.length s.2.nx s.2.rs.length as 0 (s.1, opened nb as.length s.2) = some (s', fps) → clash fps prs = true → At imm0 L0 h0 w0 s a w → (∀ a' w', At imm0 L0 h0 w0 s' a' w' → Q .normal a' w') → (Code.region id ops true).wp P Q a w

theorem compCode_region {md : Nat → Nat} {id : Nat} {ops : Array Oper} {d : Bool} {ac : AC} (hc : compCode P md (.region id ops d) = some ac) : (d = false ∧ ∃ as, compOps P md ops ops.toList 0 = some as ∧ ac = .reg (allocs ops) as) ∨ (d = true ∧ ∃ nb as prs, ac = .dreg nb as prs) := by
  unfold compCode at hc
  split at hc
  case h_2 => cases hc
  rename_i as has
  cases d
  · simp only [Bool.false_eq_true, if_false] at hc has
    cases hc
    exact .inl ⟨rfl, as, has, rfl⟩
  · simp only [if_true] at hc
    split at hc
    · cases hc; exact .inr ⟨rfl, _, _, _, rfl⟩
    · cases hc

theorem code_go {call : Nat → List AV → Hp → Option (AV × Hp)} (hs : Sound P call) {md : Nat → Nat} (hd : DrawOK P md call) (n : Nat) : ∀ (c : Code) (ac : AC), compCode P md c = some ac.erase → ∀ (s s' : St) (e : Ex) (a : Act) (w : World) (Q : Exit → Act → World → Prop),
    acode call n ac s = some (e, s') → At imm0 L0 h0 w0 s a w → (∀ a' w', At imm0 L0 h0 w0 s' a' w' → Q (exitOf e) a' w') → c.wp P Q a w := by
  intro c
  induction c with
  | skip =>
    intro ac hc s s' e a w Q hr hA hQ
    cases ac <;> simp only [compCode, AC.erase, Option.some.injEq, reduceCtorEq] at hc
    cases hr
    exact wp_skip (hQ a w hA)
  | region id ops d =>
    intro ac hc s s' e a w Q hr hA hQ
    rcases compCode_region hc with ⟨rfl, as, has, he⟩ | ⟨rfl, nb, as, prs, he⟩
    · cases ac <;> simp only [AC.erase, reduceCtorEq] at he
      cases he
      unfold acode at hr
      split at hr
      case h_2 => cases hr
      rename_i s1 hs1
      cases hr
      refine wp_region_list (runOps_go hs ops.toList 0 as 0 _ s' a w has hs1 ?_ hQ)
      have := hA.opened (allocs ops) as.length
      exact this
    · cases ac <;> simp only [AC.erase, reduceCtorEq] at he
      cases he
      unfold acode at hr
      split at hr
      case h_2 => cases hr
      rename_i s1 fps hs1
      split at hr
      case isFalse => cases hr
      rename_i hcl
      cases hr
      exact hd id ops nb as prs hc imm0 L0 h0 w0 s s' fps a w Q hs1 hcl hA hQ
  | seq x y ihx ihy =>
    intro ac hc s s' e a w Q hr hA hQ
    unfold compCode at hc
    split at hc
    case h_2 => cases hc
    rename_i ax ay hx hy
    cases ac <;> simp only [AC.erase, Option.some.injEq, reduceCtorEq] at hc
    rename_i ax' ay'
    cases hc
    unfold acode at hr
    refine wp_seq ?_
    split at hr
    · rename_i s1 h1
      exact ihx ax' hx s s1 .nrm a w _ h1 hA fun a' w' hA' => ihy ay' hy s1 s' e a' w' Q hr hA' hQ
    · rename_i hne
      refine ihx ax' hx s s' e a w _ hr hA fun a' w' hA' => ?_
      cases e with
      | nrm => exact absurd hr (hne s')
      | ex id => exact hQ a' w' hA'
      | ret => exact hQ a' w' hA'
  | cond c x y ihx ihy =>
    intro ac hc s s' e a w Q hr hA hQ
    unfold compCode at hc
    split at hc
    case h_2 => cases hc
    rename_i ax ay hx hy
    cases ac <;> simp only [AC.erase, Option.some.injEq, reduceCtorEq] at hc
    rename_i c' ax' ay'
    cases hc
    unfold acode at hr
    split at hr
    case h_2 => cases hr
    rename_i t ht
    have hA' := hA
    obtain ⟨imm, L, k1, k2, k3, k4, k5⟩ := hA'
    have hcv := ev_rel k2 c
    rw [ht] at hcv
    refine wp_cond hcv.v_inv.1 ?_
    cases t
    · simp only [Bool.false_eq_true, if_false] at hr ⊢
      exact ihy ay' hy s s' e a w Q hr hA hQ
    · simp only [if_true] at hr ⊢
      exact ihx ax' hx s s' e a w Q hr hA hQ
  | block id x ih =>
    intro ac hc s s' e a w Q hr hA hQ
    unfold compCode at hc
    rw [Option.map_eq_some_iff] at hc
    obtain ⟨ax, hx, he⟩ := hc
    cases ac <;> simp only [AC.erase, reduceCtorEq] at he
    rename_i id0 ax'
    cases he
    unfold acode at hr
    refine wp_block ?_
    split at hr
    · rename_i id' s1 h1
      split at hr
      · rename_i hid
        cases hr; subst hid
        refine ih ax' hx s s' (.ex id') a w _ h1 hA fun a' w' hA' => ?_
        simpa [exitOf, Exit.inBlock] using hQ a' w' hA'
      · rename_i hid
        cases hr
        refine ih ax' hx s s' (.ex id') a w _ h1 hA fun a' w' hA' => ?_
        simpa [exitOf, Exit.inBlock, hid] using hQ a' w' hA'
    · rename_i hne
      refine ih ax' hx s s' e a w _ hr hA fun a' w' hA' => ?_
      cases e with
      | nrm => exact hQ a' w' hA'
      | ex id' => exact absurd hr (hne id' s')
      | ret => exact hQ a' w' hA'
  | loop x ih =>
    intro ac hc s s' e a w Q hr hA hQ
    unfold compCode at hc
    rw [Option.map_eq_some_iff] at hc
    obtain ⟨ax, hx, he⟩ := hc
    cases ac <;> simp only [AC.erase, reduceCtorEq] at he
    rename_i m ax'
    cases he
    unfold acode at hr
    have key : ∀ (j : Nat) (s : St) (a : Act) (w : World) (k : Nat), iter (acode call n ax') k m j s = some (e, s') → At imm0 L0 h0 w0 s a w → Code.rounds P x Q j a w := by
      intro j
      induction j with
      | zero => intro s a w k h; cases h
      | succ j ihj =>
        intro s a w k h hA
        rw [rounds_succ]
        unfold iter at h
        split at h
        · rename_i s1 h1
          refine ih ax' hx s s1 .nrm a w _ h1 hA fun a' w' hA' => ?_
          exact ihj _ a' w' k h ((hA'.shrink (h' := { s1.2 with bs := s1.2.bs.take k }) (get_take k) (Nat.le_refl _)).mask m)
        · rename_i hne
          refine ih ax' hx s s' e a w _ h hA fun a' w' hA' => ?_
          cases e with
          | nrm => exact absurd h (hne s')
          | ex id => exact hQ a' w' hA'
          | ret => exact hQ a' w' hA'
    exact wp_loop_rounds n (key n _ a w _ hr (hA.mask m))
  | exit id =>
    intro ac hc s s' e a w Q hr hA hQ
    cases ac <;> simp only [compCode, AC.erase, Option.some.injEq, reduceCtorEq] at hc
    cases hc; cases hr
    exact wp_exit (hQ a w hA)
  | ret =>
    intro ac hc s s' e a w Q hr hA hQ
    cases ac <;> simp only [compCode, AC.erase, Option.some.injEq, reduceCtorEq] at hc
    cases hr
    exact wp_ret (hQ a w hA)
  | _ => intro ac hc; cases hc
end
end Go.Pv

namespace Go.Pv
open Go

section
variable {P : Program} {imm : Imm} {L : Locs} {h : Hp} {w : World}

def resF (t : Array Value) (r : ResultVar) : Sem Value :=
  match r with
  | .tmp t' => Pure.pure (t.getD t' undef)
  | .cell a ty => do loadVar ty (← asAddr (t.getD a undef))

theorem loadAt_asAddr {ty : TypeId} {x y : Value} (h : (Instr.loadAt ty x).run P w = .ok y w) : (do loadVar ty (← asAddr x) : Sem Value).run P w = .ok y w := by
  cases x with
  | pointer A =>
    cases A with
    | none => simp [Instr.loadAt, Instr.sureAddr, stuck] at h
    | some A => simpa [Instr.loadAt, Instr.sureAddr, asAddr] using h
  | _ => simp [Instr.loadAt, Instr.sureAddr, stuck] at h

theorem rv_run (hI : Inv imm L h w) {F : List AV} {t : Array Value} (hF : Rels imm L F t) {r : ResultVar} {r' : RV} {v : AV} (hc : compRV P r = some r') (hv : rvA F h r' = some v) :
    ∃ y, (resF t r).run P w = .ok y w ∧ Rel imm L v y := by
  have hget : ∀ i, Rel imm L (F.getD i .top) (t.getD i undef) := fun i => by
    have := ev_rel (a := { tmps := t, defers := [] }) hF (.tmp i)
    exact this
  cases r with
  | tmp i =>
    cases hc; cases hv
    exact ⟨_, rfl, hget i⟩
  | cell i ty =>
    simp only [compRV] at hc
    split at hc
    case h_2 => cases hc
    rename_i ag n hag hn
    cases hc
    obtain ⟨y, h1, h2⟩ := load_ok hI hag hn (hget i) hv
    exact ⟨y, loadAt_asAddr h1, h2⟩

theorem results_run (hI : Inv imm L h w) {F : List AV} {t : Array Value} (hF : Rels imm L F t) {fn : Func} {rs : List RV} {v : AV} (hc : fn.results.toList.mapM (compRV P) = some rs) (hv : resA F h rs = some v) : ∃ y, (results fn t).run P w = .ok y w ∧ Rel imm L v y := by
  have key : ∀ (l : List ResultVar) (rs : List RV) (vs : List AV), l.mapM (compRV P) = some rs → rs.mapM (rvA F h) = some vs → ∃ ys : List Value, (l.mapM (m := Sem) (resF t)).run P w = .ok ys w ∧ vs.length = ys.length ∧ ∀ (j : Nat) (a : AV) (x : Value), vs[j]? = some a → ys[j]? = some x → Rel imm L a x := by
    intro l
    induction l with
    | nil =>
      intro rs vs h1 h2
      simp at h1
      subst h1
      simp at h2
      subst h2
      exact ⟨[], by simp, rfl, fun j a x ha => by simp at ha⟩
    | cons r l ih =>
      intro rs vs h1 h2
      simp only [List.mapM_cons, Option.bind_eq_bind, Option.bind_eq_some_iff, Option.pure_def, Option.some.injEq] at h1
      obtain ⟨r', q1, rs', q2, rfl⟩ := h1
      simp only [List.mapM_cons, Option.bind_eq_bind, Option.bind_eq_some_iff, Option.pure_def, Option.some.injEq] at h2
      obtain ⟨v, q3, vs', q4, rfl⟩ := h2
      obtain ⟨ys, q5, q6, q7⟩ := ih rs' vs' q2 q4
      obtain ⟨y, q8, q9⟩ := rv_run hI hF q1 q3
      refine ⟨y :: ys, ?_, by simp [q6], fun j a x ha hx => ?_⟩
      · rw [List.mapM_cons, Sem.run_bind, q8, Result.andThen_ok, Sem.run_bind, q5]
        rfl
      · cases j with
        | zero => cases ha; cases hx; exact q9
        | succ j => exact q7 j a x ha hx
  have hall : ∃ vs, rs.mapM (rvA F h) = some vs ∧ ((∃ x, vs = [x] ∧ v = x) ∨ (vs.length ≠ 1 ∧ v = .tup vs)) := by
    unfold resA at hv
    split at hv
    · rename_i r
      exact ⟨[v], by simp [hv], .inl ⟨v, rfl, rfl⟩⟩
    · rename_i hne
      rw [Option.map_eq_some_iff] at hv
      obtain ⟨vs, h1, rfl⟩ := hv
      refine ⟨vs, h1, .inr ⟨fun hl => ?_, rfl⟩⟩
      have hlen : ∀ (l : List RV) (vs : List AV), l.mapM (rvA F h) = some vs → vs.length = l.length := fun l => by
        induction l with
        | nil => intro vs h; simp at h; subst h; rfl
        | cons r l ih =>
          intro vs h
          simp only [List.mapM_cons, Option.bind_eq_bind, Option.bind_eq_some_iff, Option.pure_def, Option.some.injEq] at h
          obtain ⟨x, _, xs, h2, rfl⟩ := h
          simp [ih xs h2]
      have := hlen rs vs h1
      rw [hl] at this
      obtain ⟨r, rfl⟩ : ∃ r, rs = [r] := by
        match rs, this with
        | [r], _ => exact ⟨r, rfl⟩
      exact hne r rfl
  obtain ⟨vs, k1, k2⟩ := hall
  obtain ⟨ys, k3, k4, k5⟩ := key fn.results.toList rs vs hc k1
  have hrun : (fn.results.mapM (m := Sem) (resF t)).run P w = .ok ys.toArray w := by
    rw [Array.mapM_eq_mapM_toList, Sem.run_map, k3]
    rfl
  have hres : (results fn t).run P w = .ok (if h : ys.toArray.size = 1 then ys.toArray[0] else .tuple ys.toArray) w := by
    have e : results fn t = (do let vs ← fn.results.mapM (resF t); Pure.pure (if h : vs.size = 1 then vs[0] else .tuple vs)) := by
      rfl
    rw [e, Sem.run_bind, hrun]
    rfl
  rcases k2 with ⟨x, rfl, rfl⟩ | ⟨hne, rfl⟩
  · obtain ⟨y, rfl⟩ : ∃ y, ys = [y] := by
      match ys, k4 with
      | [y], _ => exact ⟨y, rfl⟩
    exact ⟨y, hres, k5 0 _ y rfl rfl⟩
  · refine ⟨.tuple ys.toArray, ?_, .tup (by simpa using k4) (fun j a x ha hx => k5 j a x ha (by simpa using hx))⟩
    rw [hres, dif_neg (by simp; omega)]

/-- The functions' codes are the program's. -/
def CodeOK (P : Program) (md : Nat → Nat) (code : Nat → Option AFn) : Prop := ∀ f A, code f = some A → ∃ fn, P.funcs[f]? = some fn ∧ compFn P md fn = some { A with code := A.code.erase }

def ExtOK (P : Program) (ext : Nat → Option (List AV → Hp → Option (AV × Hp))) : Prop := ∀ f e, ext f = some e → ∀ (args : List AV) (h : Hp) (v : AV) (h' : Hp), e args h = some (v, h') →
    ∀ (imm : Imm) (L : Locs) (w : World) (cargs : Array Value), Inv imm L h w → Rels imm L args cargs →
      CallsX P f cargs w fun x w' => h.nx ≤ h'.nx ∧ ∃ imm' L', Rel imm' L' v x ∧ Inv imm' L' h' w' ∧ Step (h.nx ≤ ·) imm L h w imm' L' h' w'

/-- What the interpreter says of a function's body. -/
theorem body_calls {md : Nat → Nat} {call : Nat → List AV → Hp → Option (AV × Hp)} (hs : Sound P call) (hd : DrawOK P md call) {n f : Nat} {fn : Func} {A : AFn} {args : List AV} {cargs : Array Value} {e : Ex} {F : List AV} {h' : Hp} {v : AV} (hf : P.funcs[f]? = some fn) (hc : compFn P md fn = some { A with code := A.code.erase })
    (hI : Inv imm L h w) (hargs : Rels imm L args cargs) (hr : acode call n A.code (args ++ List.replicate (A.nt - args.length) .top, h) = some (e, (F, h'))) (he : e = .nrm ∨ e = .ret) (hv : resA F h' A.res = some v) :
    Calls P f cargs w fun e w' => ∃ x, e = .returned x ∧ h.nx ≤ h'.nx ∧ ∃ imm' L', Rel imm' L' v x ∧ Inv imm' L' { h' with bs := h'.bs.take h.bs.length } w' ∧ Step (h.nx ≤ ·) imm L h w imm' L' { h' with bs := h'.bs.take h.bs.length } w' := by
  unfold compFn at hc
  split at hc
  case h_2 => cases hc
  rename_i c hb
  split at hc
  case h_2 => cases hc
  rename_i ac rs hac hrs
  split at hc
  · cases hc
  obtain ⟨nt, res, cd⟩ := A
  simp only [Option.some.injEq, AFn.mk.injEq] at hc
  obtain ⟨rfl, rfl, rfl⟩ := hc
  refine calls_of_wp hf hb (code_go hs hd n c cd hac _ _ e _ w _ hr ⟨imm, L, hI, ?_, .refl _ _ _ _ _, Nat.le_refl _, rfl⟩ fun a' w' hA => ?_)
  · refine ⟨by simp [hargs.1], fun j a x ha hx => ?_⟩
    rw [List.getElem?_append] at ha
    split at ha
    · rename_i hj
      simp only at hx
      rw [Array.getElem?_append, if_pos (by rw [← hargs.1]; exact hj)] at hx
      exact hargs.2 j a x ha hx
    · rw [List.getElem?_replicate] at ha
      split at ha
      · cases ha; exact .of .top
      · cases ha
  · obtain ⟨imm', L', k1, k2, k3, k4, k5⟩ := hA
    obtain ⟨y, q1, q2⟩ := results_run (fn := fn) k1 k2 hrs hv
    have hfin : a'.defers = [] ∧ ∃ v', (results fn a'.tmps).run P w' = .ok v' w' ∧ ∃ x, Ending.returned v' = .returned x ∧ h.nx ≤ h'.nx ∧ ∃ imm' L', Rel imm' L' v x ∧ Inv imm' L' { h' with bs := h'.bs.take h.bs.length } w' ∧ Step (h.nx ≤ ·) imm L h w imm' L' { h' with bs := h'.bs.take h.bs.length } w' :=
      ⟨k5, y, q1, y, rfl, k4, imm', L', q2, k1.shrink (get_take _) (Nat.le_refl _), k3.shrink (get_take _)⟩
    rcases he with rfl | rfl
    · exact hfin
    · exact hfin

/-- The interpreter is sound. -/
theorem abs_sound {md : Nat → Nat} {code : Nat → Option AFn} {ext : Nat → Option (List AV → Hp → Option (AV × Hp))} (hcode : CodeOK P md code) (hext : ExtOK P ext) (hd : ∀ call, Sound P call → DrawOK P md call) : ∀ n, Sound P (absCall code ext n)
  | 0 => fun f args h v h' hc => by cases hc
  | n + 1 => fun f args h v h' hc imm L w cargs hI hargs => by
    have hs := abs_sound hcode hext hd n
    unfold absCall at hc
    split at hc
    · rename_i e he
      exact hext f e he args h v h' hc imm L w cargs hI hargs
    · split at hc
      case h_1 => cases hc
      rename_i A hA
      split at hc
      · cases hc
      · rename_i e F h1 hne hr
        split at hc
        case h_2 => cases hc
        rename_i v1 hv
        cases hc
        obtain ⟨fn, hf, hcf⟩ := hcode f A hA
        have he : e = .nrm ∨ e = .ret := by
          cases e with
          | nrm => exact .inl rfl
          | ret => exact .inr rfl
          | ex id => exact (hne id rfl).elim
        have hcalls := body_calls hs (hd _ hs) hf hcf hI hargs hr he hv
        have hbody : ∃ c, fn.body = some c ∧ (fn.name == "runtime.NumGoroutine") = false := by
          unfold compFn at hcf
          split at hcf
          case h_2 => cases hcf
          rename_i c hb
          split at hcf
          case h_2 => cases hcf
          split at hcf
          · cases hcf
          · rename_i hnm; exact ⟨c, hb, by simpa using hnm⟩
        obtain ⟨c, hb, hnm⟩ := hbody
        intro o a next Q hn
        have hrun : (callFunc f cargs).run P w = .ok (.enter f cargs) w := by
          have hnm' : ¬ fn.name = "runtime.NumGoroutine" := by simpa using hnm
          simp [callFunc, hf, hnm', hb]
        rw [hrun, Oper.upon_enter]
        refine hcalls.mono fun e w' => ?_
        rintro ⟨x, rfl, hR⟩
        exact hn x w' hR
      · cases hc
end
end Go.Pv
