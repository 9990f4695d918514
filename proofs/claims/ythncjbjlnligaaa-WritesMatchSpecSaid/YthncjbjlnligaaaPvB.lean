/-
  Operations of the interpreter against the model: values, strings, addresses. Conditions: none.
-/
import Derived.Test.YthncjbjlnligaaaPvA
import Derived.Laws.StructEq
import Derived.Laws.Append
import Derived.Deep.MidRow
import Derived.Great.BuildSlice
set_option linter.unusedVariables false
set_option linter.unusedSimpArgs false
namespace Go.Pv
open Go

section
variable {P : Program} {imm : Imm} {L : Locs}

theorem ofV1_rel (x : Value) : Ro imm (ofV1 x) x := by
  unfold ofV1
  split <;> first | exact .v rfl | exact .nils | exact .top

theorem ofV_ro (x : Value) : Ro imm (ofV x) x := by
  unfold ofV
  split
  · rename_i cs
    refine .agg (by simp) fun j a y ha hy => ?_
    simp only [List.getElem?_map, Option.map_eq_some_iff] at ha
    obtain ⟨z, hz, rfl⟩ := ha
    simp only [Array.getElem?_toList] at hz
    rw [hy] at hz; cases hz
    exact ofV1_rel _
  · exact ofV1_rel _

theorem ofV_rel (x : Value) : Rel imm L (ofV x) x := .of (ofV_ro x)

theorem ev_rel {F : List AV} {a : Act} (hF : Rels imm L F a.tmps) (x : Operand) : Rel imm L (ev F (compOpd x)) (a.eval x) := by
  cases x with
  | tmp t =>
    show Rel imm L (F.getD t .top) (a.tmps.getD t undef)
    rw [List.getD_eq_getElem?_getD, Array.getD_eq_getD_getElem?]
    rcases Nat.lt_or_ge t F.length with h | h
    · have h2 : t < a.tmps.size := by rw [← hF.1]; exact h
      rw [List.getElem?_eq_getElem h, Array.getElem?_eq_getElem h2]
      exact hF.2 t _ _ (List.getElem?_eq_getElem h) (Array.getElem?_eq_getElem h2)
    · rw [List.getElem?_eq_none h]
      exact .of .top
  | const v => exact ofV_rel v
  | global g => exact .of .top
  | func f => exact .of (.fn (by simp) (by simp))

theorem evs_rel {F : List AV} {a : Act} (hF : Rels imm L F a.tmps) (xs : Array Operand) : Rels imm L ((xs.toList.map compOpd).map (ev F)) (xs.map a.eval) := by
  refine ⟨by simp, fun j x y hx hy => ?_⟩
  simp only [List.getElem?_map, Option.map_eq_some_iff, Array.getElem?_toList, Array.getElem?_map] at hx hy
  obtain ⟨o, ⟨o', h1, rfl⟩, rfl⟩ := hx
  obtain ⟨o2, h2, rfl⟩ := hy
  rw [h1] at h2; cases h2
  exact ev_rel hF _

theorem Rels.put {F : List AV} {t : Array Value} (hF : Rels imm L F t) (d : Option Nat) {v : AV} {x : Value} (hv : Rel imm L v x) :
    Rels imm L (Pv.put F d v) (match d with | some d => t.setIfInBounds d x | none => t) := by
  cases d with
  | none => exact hF
  | some d =>
    refine ⟨by simp [Pv.put, hF.1], fun j a y ha hy => ?_⟩
    simp only [Pv.put, List.getElem?_set, Array.getElem?_setIfInBounds] at ha hy
    by_cases hj : d = j
    · subst hj
      simp only [if_true] at ha hy
      split at ha
      · cases ha
        split at hy
        · cases hy; exact hv
        · cases hy
      · cases ha
    · rw [if_neg hj] at ha hy
      exact hF.2 j a y ha hy

theorem act_put_tmps (a : Act) (d : Option Nat) (x : Value) : (a.put d x).tmps = match d with | some d => a.tmps.setIfInBounds d x | none => a.tmps := by
  cases d <;> rfl
theorem act_put_defers (a : Act) (d : Option Nat) (x : Value) : (a.put d x).defers = a.defers := by
  cases d <;> rfl

theorem Rels.put' {F : List AV} {a : Act} (hF : Rels imm L F a.tmps) (d : Option Nat) {v : AV} {x : Value} (hv : Rel imm L v x) : Rels imm L (Pv.put F d v) (a.put d x).tmps := by
  rw [act_put_tmps]; exact hF.put d hv

theorem cells_rel {a : AV} {x : Value} {cs : List AV} (h : Rel imm L a x) (hc : cells a = some cs) : Rels imm L cs x.cells := by
  have one (h1 : cs = [a]) (h2 : x.cells = #[x]) : Rels imm L cs x.cells := by
    subst h1; rw [h2]
    refine ⟨rfl, fun j b y hb hy => ?_⟩
    cases j with
    | zero => simp at hb hy; subst hb; subst hy; exact h
    | succ j => simp at hb
  cases a with
  | agg xs =>
    obtain ⟨arr, rfl, hr⟩ := h.agg_inv
    cases hc; exact hr
  | top => cases hc
  | tup xs => cases hc
  | v y => obtain ⟨rfl, hs⟩ := h.v_inv; cases hc; exact one rfl (by cases x <;> first | rfl | cases hs)
  | nils => obtain ⟨A, rfl⟩ := h.nils_inv; cases hc; exact one rfl rfl
  | em b => obtain ⟨A, c, rfl, _⟩ := h.em_inv; cases hc; exact one rfl rfl
  | emp => obtain ⟨b, o, rfl⟩ := h.emp_inv; cases hc; exact one rfl rfl
  | ro xs => cases hc; exact one rfl (by cases h.ro_inv; rfl)
  | own r u s n => obtain ⟨l, b, _, _, _, _, rfl⟩ := h.own_inv; cases hc; exact one rfl rfl
  | ptr i u o => obtain ⟨l, _, rfl⟩ := h.ptr_inv; cases hc; exact one rfl rfl
  | rop xs o => cases hc; exact one rfl (by cases h.rop_inv; rfl)
  | rowp r u k o => obtain ⟨l, _, rfl⟩ := h.rowp_inv; cases hc; exact one rfl rfl
  | mp r u => obtain ⟨l, _, rfl⟩ := h.mp_inv; cases hc; exact one rfl rfl
  | fn f xs => obtain ⟨arr, rfl, _⟩ := h.fn_inv; cases hc; exact one rfl rfl

theorem one_rel {a : AV} {x : Value} (h : Rel imm L a x) (hc : one a = true) : x.oneCell' = true := by
  cases a with
  | agg xs => cases hc
  | top => cases hc
  | tup xs => cases hc
  | v y => obtain ⟨rfl, hs⟩ := h.v_inv; cases x <;> first | rfl | cases hs
  | nils => obtain ⟨A, rfl⟩ := h.nils_inv; rfl
  | em b => obtain ⟨A, c, rfl, _⟩ := h.em_inv; rfl
  | emp => obtain ⟨b, o, rfl⟩ := h.emp_inv; rfl
  | ro xs => cases h.ro_inv; rfl
  | own r u s n => obtain ⟨l, b, _, _, _, _, rfl⟩ := h.own_inv; rfl
  | ptr i u o => obtain ⟨l, _, rfl⟩ := h.ptr_inv; rfl
  | rop xs o => cases h.rop_inv; rfl
  | rowp r u k o => obtain ⟨l, _, rfl⟩ := h.rowp_inv; rfl
  | mp r u => obtain ⟨l, _, rfl⟩ := h.mp_inv; rfl
  | fn f xs => obtain ⟨arr, rfl, _⟩ := h.fn_inv; rfl
end

end Go.Pv

namespace Go.Pv
open Go

def setArr : Array Value → Nat → List Value → Array Value
  | arr, _, [] => arr
  | arr, o, v :: r => setArr (arr.setIfInBounds o v) (o + 1) r

@[simp] theorem size_setArr : ∀ (vs : List Value) (arr : Array Value) (o : Nat), (setArr arr o vs).size = arr.size
  | [], _, _ => rfl
  | v :: r, arr, o => by rw [setArr, size_setArr r]; simp

theorem getElem_setArr : ∀ (vs : List Value) (arr : Array Value) (o k : Nat), o + vs.length ≤ arr.size →
    (setArr arr o vs)[k]? = if o ≤ k ∧ k < o + vs.length then vs[k - o]? else arr[k]?
  | [], arr, o, k, _ => by simp [setArr]; omega
  | v :: r, arr, o, k, h => by
    rw [setArr, getElem_setArr r _ _ _ (by simp at h ⊢; omega)]
    simp only [List.length_cons] at h ⊢
    by_cases h1 : o = k
    · subst h1
      rw [if_neg (by omega), if_pos (by omega), Nat.sub_self]
      simp [Array.getElem?_setIfInBounds]; omega
    · by_cases h2 : o + 1 ≤ k ∧ k < o + 1 + r.length
      · rw [if_pos h2, if_pos (by omega), show k - o = (k - (o + 1)) + 1 by omega]
        simp
      · rw [if_neg h2, if_neg (by omega), Array.getElem?_setIfInBounds, if_neg h1]

theorem heap_setCells (b : Nat) (T : TypeId) (fr : Nat × Nat) : ∀ (vs : List Value) (arr : Array Value) (o : Nat) (w : World), w.heap[b]? = some (.cells arr T fr) →
    (w.setCells b o vs).heap[b]? = some (.cells (setArr arr o vs) T fr)
  | [], _, _, _, h => h
  | v :: r, arr, o, w, h => by
    rw [World.setCells, setArr]
    refine heap_setCells b T fr r _ _ _ ?_
    simp [World.setCell, Array.getElem?_modify, h]

theorem heap_setCells_ne (b k : Nat) (hk : k ≠ b) : ∀ (vs : List Value) (o : Nat) (w : World), (w.setCells b o vs).heap[k]? = w.heap[k]?
  | [], _, _ => rfl
  | v :: r, o, w => by
    rw [World.setCells, heap_setCells_ne b k hk r]
    simp only [World.setCell, Array.getElem?_modify]
    rw [if_neg (by omega)]

theorem setCells_rest (b : Nat) : ∀ (vs : List Value) (o : Nat) (w : World), (w.setCells b o vs).os = w.os ∧ (w.setCells b o vs).tape = w.tape ∧ (w.setCells b o vs).output = w.output ∧ (w.setCells b o vs).heap.size = w.heap.size
  | [], _, _ => ⟨rfl, rfl, rfl, rfl⟩
  | v :: r, o, w => by
    obtain ⟨h1, h2, h3, h4⟩ := setCells_rest b r (o + 1) (w.setCell ⟨b, o, none⟩ v)
    exact ⟨h1, h2, h3, by rw [World.setCells, h4]; simp⟩

section
variable {P : Program} {imm : Imm} {L : Locs} {h : Hp} {w : World}

/-- The cells from o on in block b stand for these values. -/
def CR (imm : Imm) (L : Locs) (w : World) (b o : Nat) (cs : List AV) : Prop := ∀ (j : Nat) (a : AV), cs[j]? = some a → ∃ x, w.cell? ⟨b, o + j, none⟩ = some x ∧ Rel imm L a x

theorem loadVar_ok {t : TypeId} {ag : Bool} {n b o0 o : Nat} {cs : List AV} {v : AV} (hag : isAggT P t = some ag) (hn : szOf P t = some n) (hc : CR imm L w b o0 cs)
    (hv : cellsVal ag cs o n = some v) : ∃ y, (loadVar t ⟨b, o0 + o, none⟩).run P w = .ok y w ∧ Rel imm L v y := by
  have hisAgg : (isAgg t).run P w = .ok ag w := by
    unfold isAggT at hag
    unfold isAgg
    cases hu : P.underlying t with
    | none => rw [hu] at hag; cases hag
    | some d => rw [hu] at hag; rw [Sem.run_bind, run_underlying hu w]; cases d <;> simp_all
  have hsize : (sizeOf t).run P w = .ok n w := by
    unfold szOf at hn
    cases hi : P.info? t with
    | none => rw [hi] at hn; cases hn
    | some i => rw [hi] at hn; simp at hn; subst hn; simp [sizeOf, typeInfo, hi]
  unfold cellsVal at hv
  cases ag with
  | false =>
    simp only [Bool.false_eq_true, if_false] at hv
    obtain ⟨x, hx, hr⟩ := hc o v hv
    refine ⟨x, ?_, hr⟩
    simp [loadVar, hisAgg, hx]
  | true =>
    simp only [if_true] at hv
    split at hv
    · rename_i hle
      cases hv
      have hf : ∀ j, ∃ x, j < n → w.cell? ⟨b, o0 + o + j, none⟩ = some x ∧ ∀ a, ((cs.drop o).take n)[j]? = some a → Rel imm L a x := fun j => by
        by_cases hj : j < n
        · obtain ⟨x, hx, hr⟩ := hc (o + j) cs[o + j] (List.getElem?_eq_getElem (by omega))
          refine ⟨x, fun _ => ⟨by rw [Nat.add_assoc]; exact hx, fun a ha => ?_⟩⟩
          rw [List.getElem?_take, if_pos hj, List.getElem?_drop, List.getElem?_eq_getElem (by omega)] at ha
          cases ha; exact hr
        · exact ⟨undef, fun h => absurd h hj⟩
      refine ⟨.agg ((List.range n).map fun j => Classical.choose (hf j)).toArray, ?_, ?_⟩
      · have := run_loadCells (P := P) (w := w) ⟨b, o0 + o, none⟩ n (fun j => Classical.choose (hf j)) (fun j hj => by rw [Addr.add_mid]; exact (Classical.choose_spec (hf j) hj).1)
        simp only [loadVar, Sem.run_bind, hisAgg, Result.andThen_ok, hsize, if_true, Sem.run_map, this, Sem.run_pure]
      · refine .agg (by simp; omega) fun j a x ha hx => ?_
        have hj : j < n := by
          have := (List.getElem?_eq_some_iff.1 ha).1
          simp at this; omega
        rw [List.getElem?_toArray, List.getElem?_map, List.getElem?_range hj] at hx
        cases hx
        exact (Classical.choose_spec (hf j) hj).2 a ha
    · cases hv

theorem cell_of_block {b : Nat} {arr : Array Value} {T : TypeId} {fr : Nat × Nat} (hb : w.heap[b]? = some (.cells arr T fr)) (k : Nat) : w.cell? ⟨b, k, none⟩ = arr[k]? := by simp [World.cell?, hb]

theorem cell_of_imm (hI : Inv imm L h w) {b k : Nat} {x : Value} (hc : immCell imm b k = some x) : w.cell? ⟨b, k, none⟩ = some x := by
  unfold immCell at hc
  cases hb : imm b with
  | none => rw [hb] at hc; cases hc
  | some o =>
    rw [hb] at hc
    cases o with
    | cells c T fr => rw [cell_of_block (hI.fit b _ hb)]; exact hc
    | _ => cases hc

theorem CR.box (hI : Inv imm L h w) {i u : Nat} {cs : List AV} {l : Loc} (hg : h.get (.b i) = .box u cs) (hl : L u = some l) : l.off = 0 ∧ CR imm L w l.blk 0 cs := by
  have := hI.obs (.b i)
  rw [hg] at this
  obtain ⟨l', arr, T, h1, h2, h3, h4⟩ := this
  rw [hl] at h1; cases h1
  refine ⟨h2, fun j a ha => ?_⟩
  have hj : j < arr.size := by rw [← h4.1]; exact (List.getElem?_eq_some_iff.1 ha).1
  exact ⟨arr[j], by rw [cell_of_block h3]; simp [hj], h4.2 j a _ ha (Array.getElem?_eq_getElem hj)⟩

theorem CR.row (hI : Inv imm L h w) {r u sz k : Nat} {xs : List (List AV)} {cs : List AV} {l : Loc} (hg : h.get (.r r) = .row u sz xs) (hl : L u = some l) (hk : xs[k]? = some cs) : CR imm L w l.blk (l.off + k * l.sz) cs := by
  have := hI.obs (.r r)
  rw [hg] at this
  obtain ⟨l', arr, T, h1, h2, h3, h4, h5, h6⟩ := this
  rw [hl] at h1; cases h1
  intro j a ha
  obtain ⟨x, hx, hr⟩ := (h6 k cs hk).2 j a ha
  exact ⟨x, by rw [cell_of_block h3, h2]; exact hx, hr⟩

theorem load_ok (hI : Inv imm L h w) {t : TypeId} {ag : Bool} {n : Nat} {p v : AV} {x : Value} (hag : isAggT P t = some ag) (hn : szOf P t = some n) (hp : Rel imm L p x)
    (hv : (loadA n ag p).run h = some v) : ∃ y, (Instr.loadAt t x).run P w = .ok y w ∧ Rel imm L v y := by
  have key {b o0 o : Nat} {cs : List AV} (hx : x = .pointer (some ⟨b, o0 + o, none⟩)) (hc : CR imm L w b o0 cs) (hcv : cellsVal ag cs o n = some v) : ∃ y, (Instr.loadAt t x).run P w = .ok y w ∧ Rel imm L v y := by
    subst hx
    obtain ⟨y, h1, h2⟩ := loadVar_ok hag hn hc hcv
    exact ⟨y, by simp only [Instr.loadAt, Instr.sureAddr, Sem.run_bind, Sem.run_pure, Result.andThen_ok]; exact h1, h2⟩
  have ofo {o : Option AV} (ho : (Pr.ofOption o).run h = some v) : o = some v := by cases o <;> simp_all [Pr.ofOption, Pr.run]
  cases p with
  | ptr i u o =>
    obtain ⟨l, hl, hx⟩ := hp.ptr_inv
    simp only [loadA, Pr.run] at hv
    cases hg : h.get (.b i) with
    | box u' cs =>
      rw [hg] at hv
      simp only at hv
      split at hv
      · rename_i hu; subst hu
        obtain ⟨h0, hc⟩ := CR.box hI hg hl
        exact key (by rw [hx, h0]) hc (ofo hv)
      · cases hv
    | _ => rw [hg] at hv; cases hv
  | rop cs o =>
    simp only [loadA] at hv
    cases hp.rop_inv with
    | rop val h1 h2 =>
      refine key rfl (fun j a ha => ?_) (ofo hv)
      have hj := (List.getElem?_eq_some_iff.1 ha).1
      exact ⟨val j, cell_of_imm hI (h1 j hj), .of (h2 j a ha)⟩
  | rowp r u k o =>
    obtain ⟨l, hl, hx⟩ := hp.rowp_inv
    simp only [loadA, Pr.run] at hv
    cases hg : h.get (.r r) with
    | row u' sz xs =>
      rw [hg] at hv
      simp only at hv
      split at hv
      · rename_i hu; subst hu
        have := ofo hv
        rw [Option.bind_eq_some_iff] at this
        obtain ⟨cs, hk, hcv⟩ := this
        exact key hx (CR.row hI hg hl hk) hcv
      · cases hv
    | _ => rw [hg] at hv; cases hv
  | _ => simp only [loadA, Pr.run] at hv; cases hv

theorem getElem_splice {cs xs : List AV} {o : Nat} (ho : o + xs.length ≤ cs.length) (k : Nat) : (splice cs o xs)[k]? = if o ≤ k ∧ k < o + xs.length then xs[k - o]? else cs[k]? := by
  unfold splice
  have hl : (cs.take o).length = o := by simp; omega
  by_cases h1 : k < o
  · rw [if_neg (by omega), List.getElem?_append_left (by simp; omega), List.getElem?_append_left (by omega), List.getElem?_take, if_pos h1]
  · by_cases h2 : k < o + xs.length
    · rw [if_pos (by omega), List.getElem?_append_left (by simp; omega), List.getElem?_append_right (by omega), hl]
    · rw [if_neg (by omega), List.getElem?_append_right (by simp; omega), List.getElem?_drop]
      congr 1
      simp; omega

theorem length_splice {cs xs : List AV} {o : Nat} (ho : o + xs.length ≤ cs.length) : (splice cs o xs).length = cs.length := by
  unfold splice; simp; omega

/-- The store itself. -/
theorem storeVar_ok {t : TypeId} {n b o : Nat} {arr : Array Value} {T : TypeId} {xs : List AV} {y : Value} (hn : szOf P t = some n) (hb : w.heap[b]? = some (.cells arr T (0, 0)))
    (hy : Rels imm L xs y.cells) (hl : xs.length = n) (h1 : xs.all one = true) (ho : o + n ≤ arr.size) :
    (storeVar t ⟨b, o, none⟩ y).run P w = .ok () (w.setCells b o y.cells.toList) := by
  have hsize : (sizeOf t).run P w = .ok n w := by
    unfold szOf at hn
    cases hi : P.info? t with
    | none => rw [hi] at hn; cases hn
    | some i => rw [hi] at hn; simp at hn; subst hn; simp [sizeOf, typeInfo, hi]
  have hsz : y.cells.size = n := by rw [← hy.1]; exact hl
  have := run_storeCells_cells (P := P) b o y.cells.toList 0 w (fun j hj => by
      simp only [Array.length_toList] at hj
      rw [Nat.add_zero, cell_of_block hb, Array.getElem?_eq_getElem (by omega)]; rfl) (fun j _ => by simp [World.frozen?, hb])
    (fun v hv => by
      obtain ⟨j, hj, e⟩ := List.getElem_of_mem hv
      simp only [Array.length_toList] at hj
      have ha : xs[j]? = some (xs[j]'(by rw [hy.1]; exact hj)) := List.getElem?_eq_getElem _
      have hr := hy.2 j _ v ha (by rw [Array.getElem?_eq_getElem hj]; simpa using e)
      exact one_rel hr ((List.all_eq_true.1 h1) _ (List.getElem_mem _)))
  simp only [Nat.add_zero] at this
  simp only [storeVar, Sem.run_bind, hsize, Result.andThen_ok, hsz, ne_eq, not_true, if_false, Sem.run_pure]
  simpa using this

theorem store_ok (hI : Inv imm L h w) {t : TypeId} {n u0 : Nat} {p : AV} {xs : List AV} {x y : Value} {ef : Eff} (hn : szOf P t = some n) (hp : Rel imm L p x)
    (hy : Rels imm L xs y.cells) (hv : (storeA n p xs).run h = some ef) :
    ef.v = .top ∧ ∃ w', (Instr.storeAt t x y).run P w = .ok () w' ∧ Inv imm L (h.app ef) w' ∧ Step (· = u0) imm L h w imm L (h.app ef) w' := by
  unfold storeA at hv
  split at hv
  case isFalse => cases hv
  rename_i hh
  obtain ⟨hl, h1⟩ := hh
  have hst {b o : Nat} (hx : x = .pointer (some ⟨b, o, none⟩)) {w' : World} (hs : (storeVar t ⟨b, o, none⟩ y).run P w = .ok () w') : (Instr.storeAt t x y).run P w = .ok () w' := by
    subst hx
    simp only [Instr.storeAt, Instr.sureAddr, Sem.run_bind, Sem.run_pure, Result.andThen_ok]; exact hs
  have hys : y.cells.toList.length = xs.length := by rw [Array.length_toList, ← hy.1]
  cases p with
  | ptr i u o =>
    obtain ⟨l, hl', hx⟩ := hp.ptr_inv
    simp only [Pr.run] at hv
    cases hg : h.get (.b i) with
    | box u' cs =>
      rw [hg] at hv
      simp only at hv
      split at hv
      case isFalse => cases hv
      rename_i hc
      obtain ⟨hu, hon⟩ := hc
      subst hu
      simp only [Pr.run, Option.some.injEq] at hv
      subst hv
      have hob := hI.obs (.b i)
      rw [hg] at hob
      obtain ⟨l', arr, T, k1, k2, k3, k4⟩ := hob
      rw [hl'] at k1; cases k1
      rw [k2, Nat.zero_add] at hx
      have hoa : o + n ≤ arr.size := by rw [← k4.1]; exact hon
      refine ⟨rfl, _, hst hx (storeVar_ok hn k3 hy hl h1 hoa), ?_, ?_⟩
      all_goals rw [show ({ wr := [(.b i, .box u (splice cs o xs))] } : Eff) = { v := .top, wr := [(.b i, .box u (splice cs o xs))] } from rfl, Hp.app_one]
      · refine hI.upd (x := .b i) (ob := .box u (splice cs o xs)) (B := l.blk) (.refl _) hI.nx (Hp.nx_set ..) (Hp.get_set _ (by rw [hg]; simp)) (fun z hz => Hp.get_set_ne h _ z _ hz) ?_
          (fun b _ hb => heap_setCells_ne _ _ hb _ _ _) (fun v m hv hm => by cases hv; rw [hl'] at hm; cases hm; rfl) (hI.free (.b i) u l (by rw [hg]; rfl) hl') (fun z v m hz hv hm => hI.apart z (.b i) v u m l hz hv (by rw [hg]; rfl) hm hl')
        refine ⟨l, _, T, hl', k2, heap_setCells _ _ _ _ _ _ _ k3, by rw [length_splice (by omega), size_setArr]; exact k4.1, fun j a z ha hz => ?_⟩
        rw [getElem_splice (by omega)] at ha
        rw [getElem_setArr _ _ _ _ (by omega), hys] at hz
        split at ha
        · rename_i hj
          rw [if_pos hj] at hz
          exact hy.2 _ a z ha (by simpa using hz)
        · rename_i hj
          rw [if_neg hj] at hz
          exact k4.2 j a z ha hz
      · obtain ⟨r1, r2, r3, r4⟩ := setCells_rest l.blk y.cells.toList o w
        exact Step.upd hI (x := .b i) (ob := .box u (splice cs o xs)) (B := l.blk) (.refl _) (fun _ _ => rfl) (Hp.get_set _ (by rw [hg]; simp)) (fun z hz => Hp.get_set_ne h _ z _ hz)
          (fun b _ hb => heap_setCells_ne _ _ hb _ _ _) (fun v m hv hm => by cases hv; rw [hl'] at hm; cases hm; rfl) (.inl ⟨.b i, u, l, by rw [hg]; rfl, hl', rfl⟩) r1 r2 r3 (by omega)
    | _ => rw [hg] at hv; cases hv
  | rowp r u k o =>
    obtain ⟨l, hl', hx⟩ := hp.rowp_inv
    simp only [Pr.run] at hv
    cases hg : h.get (.r r) with
    | row u' sz ys =>
      rw [hg] at hv
      simp only at hv
      split at hv
      case isFalse => cases hv
      rename_i hu
      subst hu
      cases hk : ys[k]? with
      | none => rw [hk] at hv; cases hv
      | some cs =>
        rw [hk] at hv
        simp only at hv
        split at hv
        case isFalse => cases hv
        rename_i hon
        simp only [Pr.run, Option.some.injEq] at hv
        subst hv
        have hob := hI.obs (.r r)
        rw [hg] at hob
        obtain ⟨l', arr, T, k1, k2, k3, k4, k5, k6⟩ := hob
        rw [hl'] at k1; cases k1
        have hkl : k < ys.length := (List.getElem?_eq_some_iff.1 hk).1
        have hcs : cs.length = sz := (k6 k cs hk).1
        have hkz : k * sz + sz ≤ l.cap * sz := by rw [← Nat.succ_mul]; exact Nat.mul_le_mul_right _ (by omega)
        have hoa : l.off + k * l.sz + o + n ≤ arr.size := by rw [k2]; omega
        refine ⟨rfl, _, hst hx (storeVar_ok hn k3 hy hl h1 hoa), ?_, ?_⟩
        all_goals rw [show ({ wr := [(.r r, .row u sz (ys.set k (splice cs o xs)))] } : Eff) = { v := .top, wr := [(.r r, .row u sz (ys.set k (splice cs o xs)))] } from rfl, Hp.app_one]
        · refine hI.upd (x := .r r) (ob := .row u sz (ys.set k (splice cs o xs))) (B := l.blk) (.refl _) hI.nx (Hp.nx_set ..) (Hp.get_set _ (by rw [hg]; simp)) (fun z hz => Hp.get_set_ne h _ z _ hz) ?_
            (fun b _ hb => heap_setCells_ne _ _ hb _ _ _) (fun v m hv hm => by cases hv; rw [hl'] at hm; cases hm; rfl) (hI.free (.r r) u l (by rw [hg]; rfl) hl') (fun z v m hz hv hm => hI.apart z (.r r) v u m l hz hv (by rw [hg]; rfl) hm hl')
          refine ⟨l, _, T, hl', k2, heap_setCells _ _ _ _ _ _ _ k3, by rw [size_setArr]; exact k4, by simpa using k5, fun i ds hi => ?_⟩
          rw [List.getElem?_set] at hi
          by_cases hik : k = i
          · subst hik
            rw [if_pos rfl, if_pos hkl] at hi
            cases hi
            refine ⟨by rw [length_splice (by omega)]; exact hcs, fun j a ha => ?_⟩
            rw [getElem_splice (by omega)] at ha
            rw [getElem_setArr _ _ _ _ (by rw [hys, k2]; omega), hys, k2]
            split at ha
            · rename_i hj
              rw [if_pos (by omega)]
              have hjl : j - o < y.cells.size := by rw [← hy.1]; omega
              refine ⟨y.cells[j - o], ?_, hy.2 _ a _ ha (Array.getElem?_eq_getElem hjl)⟩
              rw [show l.off + k * sz + j - (l.off + k * sz + o) = j - o by omega]
              simp [hjl]
            · rename_i hj
              rw [if_neg (by omega)]
              exact (k6 k cs hk).2 j a ha
          · rw [if_neg hik] at hi
            refine ⟨(k6 i ds hi).1, fun j a ha => ?_⟩
            obtain ⟨z, hz, hr⟩ := (k6 i ds hi).2 j a ha
            refine ⟨z, ?_, hr⟩
            have hjs : j < sz := by rw [← (k6 i ds hi).1]; exact (List.getElem?_eq_some_iff.1 ha).1
            rw [getElem_setArr _ _ _ _ (by rw [hys, k2]; omega), if_neg, hz]
            rw [hys, k2]
            rcases Nat.lt_or_gt_of_ne hik with hlt | hgt
            · have : k * sz + sz ≤ i * sz := by rw [← Nat.succ_mul]; exact Nat.mul_le_mul_right _ hlt
              omega
            · have : i * sz + sz ≤ k * sz := by rw [← Nat.succ_mul]; exact Nat.mul_le_mul_right _ hgt
              omega
        · obtain ⟨r1, r2, r3, r4⟩ := setCells_rest l.blk y.cells.toList (l.off + k * l.sz + o) w
          exact Step.upd hI (x := .r r) (ob := .row u sz (ys.set k (splice cs o xs))) (B := l.blk) (.refl _) (fun _ _ => rfl) (Hp.get_set _ (by rw [hg]; simp)) (fun z hz => Hp.get_set_ne h _ z _ hz)
            (fun b _ hb => heap_setCells_ne _ _ hb _ _ _) (fun v m hv hm => by cases hv; rw [hl'] at hm; cases hm; rfl) (.inl ⟨.r r, u, l, by rw [hg]; rfl, hl', rfl⟩) r1 r2 r3 (by omega)
    | _ => rw [hg] at hv; cases hv
  | _ => simp only [Pr.run] at hv; cases hv

end
end Go.Pv

namespace Go.Pv
open Go

section
variable {P : Program} {imm : Imm} {L : Locs} {h : Hp} {w : World}

theorem ofo {α : Type} {o : Option α} {v : α} (ho : (Pr.ofOption o).run h = some v) : o = some v := by cases o <;> simp_all [Pr.ofOption, Pr.run]

theorem run_pbind {α β : Type} (p : Pr α) (f : α → Pr β) (h : Hp) : (p.bind f).run h = (p.run h).bind fun a => (f a).run h := by
  induction p with
  | ret a => rfl
  | get x k ih => exact ih _
  | fail => rfl

theorem run_pmap {α β : Type} (f : α → β) (p : Pr α) (h : Hp) : (p.map f).run h = (p.run h).map f := by
  unfold Pr.map
  rw [run_pbind]
  cases p.run h <;> rfl

theorem binV_ok {op : BinOp} {xt : TypeId} {X Y : Operand} {A B v : AV} {a b : Value} (hv : binV op A B = some v) (hA : Rel imm L A a) (hB : Rel imm L B b) :
    ∃ z, (do eqGuard op xt X Y a b; binOp op xt a b).run P w = .ok z w ∧ Rel imm L v z := by
  unfold binV at hv
  split at hv
  · rename_i k n k' m
    obtain ⟨rfl, _⟩ := hA.v_inv
    obtain ⟨rfl, _⟩ := hB.v_inv
    split at hv
    · rename_i hk; subst hk
      cases op <;> simp only [binInt] at hv <;> (try split at hv) <;> simp only [Option.map_some, Option.map_none, Option.some.injEq, reduceCtorEq] at hv <;>
        (subst hv; refine ⟨_, ?_, .of (.v rfl)⟩; simp_all [eqGuard, binOp, Op.intArith, Op.intDiv, Op.intCmp])
    · cases hv
  · rename_i s t
    obtain ⟨rfl, _⟩ := hA.v_inv
    obtain ⟨rfl, _⟩ := hB.v_inv
    cases op <;> simp only [binStr] at hv <;> (try split at hv) <;> simp only [Option.map_some, Option.map_none, Option.some.injEq, reduceCtorEq] at hv <;>
      (subst hv; refine ⟨_, ?_, .of (.v rfl)⟩; simp_all [eqGuard, binOp, Op.stringOp])
  · cases hv

theorem eql_of_equalIn {neg : Bool} {xt : TypeId} {x y : Value} {b : Bool} (hx : ∀ op, binOp op xt x y = match op with
      | .eql => (do pure (.bool (← Op.equalIn (9999 + 1) xt x y)))
      | .neq => (do pure (.bool (!(← Op.equalIn (9999 + 1) xt x y))))
      | _ => binOp op xt x y) (he : (Op.equalIn (9999 + 1) xt x y).run P w = .ok b w) :
    (binOp (if neg then .neq else .eql) xt x y).run P w = .ok (.bool (if neg then !b else b)) w := by
  cases neg
  · simp only [Bool.false_eq_true, if_false]
    rw [hx]
    simp only [Sem.run_bind, he, Result.andThen_ok, Sem.run_pure]
  · simp only [if_true]
    rw [hx]
    simp only [Sem.run_bind, he, Result.andThen_ok, Sem.run_pure]

theorem beq_ok {neg : Bool} {xt : TypeId} {X Y : Operand} {p q : Bool} (hu : P.underlying xt = some .bool) :
    (do eqGuard (if neg then .neq else .eql) xt X Y (.bool p) (.bool q); binOp (if neg then .neq else .eql) xt (.bool p) (.bool q)).run P w = .ok (.bool (if neg then !(p == q) else p == q)) w := by
  have hg : (eqGuard (if neg then .neq else .eql) xt X Y (.bool p) (.bool q)).run P w = .ok () w := by cases neg <;> simp [eqGuard]
  rw [Sem.run_bind, hg, Result.andThen_ok]
  exact eql_of_equalIn (fun op => by cases op <;> rfl) (run_equalIn_bool' w 9999 xt p q hu)

theorem run_eq_nil (d : Nat) {xt e : TypeId} {A : Option Addr} {n c : Nat} (hu : P.underlying xt = some (.slice e)) : (Op.equalIn (d + 1) xt (.slice A n c) (.slice none 0 0)).run P w = .ok A.isNone w := by
  cases A <;> simp [Op.equalIn, run_underlying hu]

theorem nilq_ok {neg : Bool} {xt e : TypeId} {X Y : Operand} {A : Option Addr} {n c : Nat} (hu : P.underlying xt = some (.slice e)) :
    (do eqGuard (if neg then .neq else .eql) xt X Y (.slice A n c) (.slice none 0 0); binOp (if neg then .neq else .eql) xt (.slice A n c) (.slice none 0 0)).run P w = .ok (.bool (if neg then !A.isNone else A.isNone)) w := by
  have hg : (eqGuard (if neg then .neq else .eql) xt X Y (.slice A n c) (.slice none 0 0)).run P w = .ok () w := by cases neg <;> simp [eqGuard]
  rw [Sem.run_bind, hg, Result.andThen_ok]
  refine eql_of_equalIn (fun op => by cases op <;> rfl) ?_
  exact run_eq_nil 9999 hu

/-! ### '==' of structs -/
def valT (ag : Bool) (X : Array Value) : Value := if ag then .agg X else X.getD 0 undef

theorem eqAll_split : ∀ (kl : List EK) (km : List EK) (xs ys : List AV) (b : Bool), eqAll (kl ++ km) xs ys = some b →
    ∃ p q, eqAll kl (xs.take kl.length) (ys.take kl.length) = some p ∧ eqAll km (xs.drop kl.length) (ys.drop kl.length) = some q ∧ b = (p && q)
  | [], km, xs, ys, b, h => ⟨true, b, by simp [eqAll], by simpa using h, by simp⟩
  | k :: kl, km, [], ys, b, h => by simp [eqAll] at h
  | k :: kl, km, x :: xs, [], b, h => by simp [eqAll] at h
  | k :: kl, km, x :: xs, y :: ys, b, h => by
    simp only [List.cons_append, eqAll] at h
    split at h
    · rename_i u v h1 h2
      obtain ⟨p, q, e1, e2, e3⟩ := eqAll_split kl km xs ys v h2
      cases h
      refine ⟨u && p, q, by simp [eqAll, h1, e1], by simpa using e2, by rw [e3, Bool.and_assoc]⟩
    · cases h

theorem eqAll_length : ∀ (ks : List EK) (xs ys : List AV) (b : Bool), eqAll ks xs ys = some b → xs.length = ks.length ∧ ys.length = ks.length
  | [], [], [], _, _ => ⟨rfl, rfl⟩
  | [], [], _ :: _, _, h => by simp [eqAll] at h
  | [], _ :: _, _, _, h => by simp [eqAll] at h
  | _ :: _, [], _, _, h => by simp [eqAll] at h
  | _ :: _, _ :: _, [], _, h => by simp [eqAll] at h
  | k :: ks, x :: xs, y :: ys, b, h => by
    simp only [eqAll] at h
    split at h
    · rename_i u v h1 h2
      have := eqAll_length ks xs ys v h2
      simp [this]
    · cases h

theorem Rels.part {xs : List AV} {X : Array Value} (hx : Rels imm L xs X) (m k : Nat) (hk : m + k ≤ xs.length) : Rels imm L ((xs.drop m).take k) (X.extract m (m + k)) := by
  refine ⟨by simp; have := hx.1; omega, fun j a x ha hx' => ?_⟩
  rw [List.getElem?_take] at ha
  split at ha
  · rename_i hj
    rw [List.getElem?_drop] at ha
    rw [Array.getElem?_extract] at hx'
    split at hx'
    · exact hx.2 _ a x ha hx'
    · cases hx'
  · cases ha

theorem szOf_run {t : TypeId} {n : Nat} (hn : szOf P t = some n) : (sizeOf t).run P w = .ok n w := by
  unfold szOf at hn
  cases hi : P.info? t with
  | none => rw [hi] at hn; cases hn
  | some i => rw [hi] at hn; simp at hn; subst hn; simp [sizeOf, typeInfo, hi]

theorem isAggT_run {t : TypeId} {ag : Bool} (hag : isAggT P t = some ag) : (isAgg t).run P w = .ok ag w := by
  unfold isAggT at hag
  unfold isAgg
  cases hu : P.underlying t with
  | none => rw [hu] at hag; cases hag
  | some d => rw [hu] at hag; rw [Sem.run_bind, run_underlying hu w]; cases d <;> simp_all

/-- A part of a struct's value. -/
theorem part_run {t : TypeId} {ag : Bool} {n m : Nat} {X : Array Value} (hag : isAggT P t = some ag) (hn : szOf P t = some n) (hX : m + n ≤ X.size) (h1 : ag = false → 0 < n) :
    (part t X m).run P w = .ok (valT ag (X.extract m (m + n))) w := by
  unfold part
  rw [Sem.run_bind, isAggT_run hag]
  cases ag with
  | true => simp [szOf_run hn, valT]
  | false =>
    have h0 := h1 rfl
    have hm : m < X.size := by omega
    have h2 : (X.extract m (m + n)).getD 0 undef = X[m] := by
      rw [Array.getD_eq_getD_getElem?, Array.getElem?_extract]
      simp [h0, hm]
      rw [if_pos (by omega)]; rfl
    simp [valT, hm, h2]

theorem eqT_agg {d : Nat} {t : TypeId} {ks : List EK} (ht : eqT P d t = some ks) : ∃ ag, isAggT P t = some ag ∧ (ag = false → ks.length = 1) := by
  cases d with
  | zero => cases ht
  | succ d =>
    unfold eqT at ht
    unfold isAggT
    cases hu : P.underlying t with
    | none => rw [hu] at ht; cases ht
    | some u =>
      rw [hu] at ht
      cases u <;> simp only [reduceCtorEq] at ht <;> first
        | exact ⟨false, rfl, fun _ => by cases ht; rfl⟩
        | exact ⟨true, rfl, fun h => by cases h⟩

theorem eq1_run {d : Nat} {t : TypeId} {k : EK} {A B : AV} {x y : Value} {b : Bool} (ht : P.underlying t = some .bool ∧ k = .b ∨ (∃ q, P.underlying t = some (.int q)) ∧ k = .i ∨ P.underlying t = some .string ∧ k = .s)
    (hA : Rel imm L A x) (hB : Rel imm L B y) (he : eq1 k A B = some b) : (Op.equalIn (d + 1) t x y).run P w = .ok b w := by
  rcases ht with ⟨hu, rfl⟩ | ⟨⟨q, hu⟩, rfl⟩ | ⟨hu, rfl⟩
  all_goals
    unfold eq1 at he
    split at he <;> first
      | cases he; done
      | (rename_i e1; cases e1; done)
      | (obtain ⟨rfl, _⟩ := hA.v_inv
         obtain ⟨rfl, _⟩ := hB.v_inv
         (try split at he) <;> cases he <;> simp_all [Op.equalIn, run_underlying hu])

theorem foldl_none {α β : Type} (f : Option β → α → Option β) (hf : ∀ a, f none a = none) : ∀ l : List α, l.foldl f none = none
  | [] => rfl
  | a :: l => by rw [List.foldl_cons, hf, foldl_none f hf l]

theorem eqT_run : ∀ (d : Nat) (t : TypeId) (ks : List EK) (ag : Bool) (xs ys : List AV) (X Y : Array Value) (b : Bool), eqT P d t = some ks → isAggT P t = some ag → Rels imm L xs X → Rels imm L ys Y →
    eqAll ks xs ys = some b → ∀ d', d ≤ d' → (Op.equalIn d' t (valT ag X) (valT ag Y)).run P w = .ok b w
  | 0, _, _, _, _, _, _, _, _, ht, _, _, _, _, _, _ => by cases ht
  | d + 1, t, ks, ag, xs, ys, X, Y, b, ht, hag, hX, hY, he, d', hd => by
    obtain ⟨d', rfl⟩ : ∃ m, d' = m + 1 := ⟨d' - 1, by omega⟩
    have hl := eqAll_length ks xs ys b he
    unfold eqT at ht
    have hag0 := hag
    unfold isAggT at hag
    cases hu : P.underlying t with
    | none => rw [hu] at ht; cases ht
    | some u =>
      rw [hu] at ht hag
      have scalar {k : EK} (hk : ks = [k]) (hag' : ag = false) (h1 : P.underlying t = some .bool ∧ k = .b ∨ (∃ q, P.underlying t = some (.int q)) ∧ k = .i ∨ P.underlying t = some .string ∧ k = .s) :
          (Op.equalIn (d' + 1) t (valT ag X) (valT ag Y)).run P w = .ok b w := by
        subst hk; subst hag'
        simp only [List.length_singleton] at hl
        obtain ⟨x, rfl⟩ := List.length_eq_one_iff.1 hl.1
        obtain ⟨y, rfl⟩ := List.length_eq_one_iff.1 hl.2
        simp only [eqAll] at he
        split at he
        · rename_i p q h2 h3
          cases h3; cases he
          have hx : 0 < X.size := by rw [← hX.1]; simp
          have hy : 0 < Y.size := by rw [← hY.1]; simp
          simp only [valT, Bool.false_eq_true, if_false, Bool.and_true]
          refine eq1_run h1 (hX.2 0 x _ rfl ?_) (hY.2 0 y _ rfl ?_) h2
          · rw [Array.getD_eq_getD_getElem?, Array.getElem?_eq_getElem hx]; rfl
          · rw [Array.getD_eq_getD_getElem?, Array.getElem?_eq_getElem hy]; rfl
        · cases he
      cases u with
      | bool => cases ht; cases hag; exact scalar rfl rfl (.inl ⟨hu, rfl⟩)
      | int q => cases ht; cases hag; exact scalar rfl rfl (.inr (.inl ⟨⟨q, hu⟩, rfl⟩))
      | string => cases ht; cases hag; exact scalar rfl rfl (.inr (.inr ⟨hu, rfl⟩))
      | struct fs =>
        cases hag
        simp only at ht
        split at ht
        · cases ht
        rename_i hstood
        simp only [Bool.not_eq_true] at hstood
        have hfs : P.fieldsOf t = fs := by simp [Program.fieldsOf, hu]
        simp only [valT, if_true]
        rw [run_equalIn_struct w d' t X Y (by rw [hfs]; exact hu) hstood, hfs]
        have key : ∀ (l : List Field) (acc : List EK), l.foldl (fun acc f => match acc with
              | some l => if f.name ≠ "_" ∧ f.offset = l.length then (eqT P d f.type).bind fun m => if szOf P f.type = some m.length then some (l ++ m) else none else none
              | none => none) (some acc) = some ks → ∃ km, ks = acc ++ km ∧ ∀ c, eqAll km (xs.drop acc.length) (ys.drop acc.length) = some c → (Op.eqFields d' X Y l).run P w = .ok c w := by
          intro l
          induction l with
          | nil =>
            intro acc h
            cases h
            refine ⟨[], by simp, fun c hc => ?_⟩
            have : c = true := by
              generalize xs.drop _ = x1 at hc
              generalize ys.drop _ = y1 at hc
              cases x1 <;> cases y1 <;> simp [eqAll] at hc
              exact hc
            subst this
            simp [Op.eqFields]
          | cons f l ih =>
            intro acc h
            rw [List.foldl_cons] at h
            simp only at h
            split at h
            case isFalse => rw [foldl_none _ (fun _ => rfl)] at h; cases h
            rename_i hf
            cases hm : eqT P d f.type with
            | none => rw [hm] at h; simp only [Option.bind_none] at h; rw [foldl_none _ (fun _ => rfl)] at h; cases h
            | some m =>
              rw [hm] at h
              simp only [Option.bind_some] at h
              split at h
              case isFalse => rw [foldl_none _ (fun _ => rfl)] at h; cases h
              rename_i hsz
              obtain ⟨km, hks, hrest⟩ := ih (acc ++ m) h
              refine ⟨m ++ km, by rw [hks, List.append_assoc], fun c hc => ?_⟩
              obtain ⟨p, q, e1, e2, e3⟩ := eqAll_split m km _ _ c hc
              obtain ⟨agf, hagf, hone⟩ := eqT_agg hm
              have hlen : acc.length + m.length ≤ xs.length ∧ acc.length + m.length ≤ ys.length := by
                rw [hl.1, hl.2, hks]; simp
              have px := part_run (P := P) (w := w) (X := X) hagf hsz (m := acc.length) (by rw [← hX.1]; exact hlen.1) (fun h => by rw [hone h]; exact Nat.one_pos)
              have py := part_run (P := P) (w := w) (X := Y) hagf hsz (m := acc.length) (by rw [← hY.1]; exact hlen.2) (fun h => by rw [hone h]; exact Nat.one_pos)
              have hr := eqT_run d f.type m agf _ _ _ _ p hm hagf (hX.part acc.length m.length hlen.1) (hY.part acc.length m.length hlen.2) e1 d' (by omega)
              have hq := hrest q (by rw [List.length_append, ← List.drop_drop, ← List.drop_drop]; exact e2)
              rw [Op.eqFields, if_pos hf.1, hf.2, Sem.run_bind, px, Result.andThen_ok, Sem.run_bind, py, Result.andThen_ok, Sem.run_bind, hr, Result.andThen_ok]
              cases p with
              | true => simp only [Bool.not_true, Bool.false_eq_true, if_false]; rw [hq, e3]; simp
              | false => simp [e3]
        obtain ⟨km, hks, hrest⟩ := key fs.toList [] ht
        simp only [List.nil_append] at hks
        subst hks
        exact hrest b (by simpa using he)
      | _ => cases ht

theorem eqs_ok {neg : Bool} {xt : TypeId} {X Y : Operand} {ks : List EK} {xs ys : List AV} {A B : Array Value} {b : Bool} (hg : P.eqGuardType P.depth xt = false) (ht : eqT P 8 xt = some ks) (hs : isStructT P xt = true)
    (hA : Rels imm L xs A) (hB : Rels imm L ys B) (he : eqAll ks xs ys = some b) :
    (do eqGuard (if neg then .neq else .eql) xt X Y (.agg A) (.agg B); binOp (if neg then .neq else .eql) xt (.agg A) (.agg B)).run P w = .ok (.bool (if neg then !b else b)) w := by
  have hag : isAggT P xt = some true := by
    unfold isStructT at hs
    unfold isAggT
    split at hs <;> simp_all
  rw [Sem.run_bind, run_eqGuard_agg w _ xt X Y A B hg, Result.andThen_ok]
  exact eql_of_equalIn (fun op => by cases op <;> rfl) (eqT_run 8 xt ks true xs ys A B b ht hag hA hB he _ (by omega))
end
end Go.Pv

namespace Go.Pv
open Go

section
variable {P : Program} {imm : Imm} {L : Locs} {h : Hp} {w : World}

theorem vrun {s : Sem Value} {x : Value} {w' : World} (hs : s.run P w = .ok x w') : Sem.run P (do let y ← s; pure (Next.value y)) w = .ok (.value x) w' := by
  rw [Sem.run_bind, hs]; rfl
theorem urun {s : Sem Unit} {w' : World} (hs : s.run P w = .ok () w') : Sem.run P (do s; pure Next.skip) w = .ok .skip w' := by
  rw [Sem.run_bind, hs]; rfl

theorem fieldAt_run {t : TypeId} {i n : Nat} {f : Field} (hf : fieldOf P t i = some f) (hn : szOf P f.type = some n) (h0 : n ≠ 0) (b o : Nat) :
    (Instr.fieldAt t (.pointer (some ⟨b, o, none⟩)) i).run P w = .ok (.pointer (some ⟨b, o + f.offset, none⟩)) w := by
  have hu : ∃ fs, P.underlying t = some (.struct fs) ∧ fs[i]? = some f := by
    unfold fieldOf at hf
    split at hf
    · rename_i fs hu; exact ⟨fs, hu, hf⟩
    · cases hf
  obtain ⟨fs, hu, hfs⟩ := hu
  simp only [Instr.fieldAt, Sem.run_bind, run_underlying hu, Result.andThen_ok, hfs, Instr.sureAddr, Sem.run_pure, fieldPlace, szOf_run hn, h0, if_false, Addr.add_mid]

theorem Rel.ro_data {xs : List (List AV)} {y : Value} (h : Rel imm L (.ro xs) y) : ∃ (sz : Nat) (A : Option Addr) (c : Nat) (val : Nat → Nat → Value), y = .slice A xs.length c ∧ xs.length ≤ c ∧ (∀ x ∈ xs, x.length = sz) ∧
    (0 < xs.length → ∃ b o, A = some ⟨b, o, none⟩ ∧ ∀ i j, i < xs.length → j < sz → immCell imm b (o + i * sz + j) = some (val i j)) ∧
    ∀ (i j : Nat) (cs : List AV) (a : AV), xs[i]? = some cs → cs[j]? = some a → Ro imm a (val i j) := by
  cases h.ro_inv with
  | ro val h1 h2 h3 h4 => exact ⟨_, _, _, val, rfl, h1, h2, h3, h4⟩

theorem fld_ok {t : TypeId} {i n : Nat} {ag : Bool} {f : Field} {cs : List AV} {v : AV} {arr : Array Value} (hf : fieldOf P t i = some f) (hag : isAggT P f.type = some ag) (hn : szOf P f.type = some n)
    (hr : Rels imm L cs arr) (hv : cellsVal ag cs f.offset n = some v) : ∃ y, (Instr.field t (.agg arr) i).run P w = .ok y w ∧ Rel imm L v y := by
  have hu : ∃ fs, P.underlying t = some (.struct fs) ∧ fs[i]? = some f := by
    unfold fieldOf at hf
    split at hf
    · rename_i fs hu; exact ⟨fs, hu, hf⟩
    · cases hf
  obtain ⟨fs, hu, hfs⟩ := hu
  have hfld {y : Value} (hp : (part f.type arr f.offset).run P w = .ok y w) : (Instr.field t (.agg arr) i).run P w = .ok y w := by
    simp only [Instr.field, Sem.run_bind, run_underlying hu, Result.andThen_ok, hfs, asAgg, Sem.run_pure, hp]
  unfold cellsVal at hv
  cases ag with
  | true =>
    simp only [if_true] at hv
    split at hv
    · rename_i hle
      cases hv
      refine ⟨_, hfld (part_run hag hn (by rw [← hr.1]; exact hle) (fun h => by cases h)), ?_⟩
      have := hr.part f.offset n hle
      exact .agg this.1 this.2
    · cases hv
  | false =>
    simp only [Bool.false_eq_true, if_false] at hv
    have hlt := (List.getElem?_eq_some_iff.1 hv).1
    have hlt2 : f.offset < arr.size := by rw [← hr.1]; exact hlt
    refine ⟨arr[f.offset], hfld ?_, hr.2 _ v _ hv (Array.getElem?_eq_getElem hlt2)⟩
    unfold part
    rw [Sem.run_bind, isAggT_run hag]
    simp [hlt2]

theorem elemOfSlice_inv {t e : TypeId} (he : elemOfSlice P t = some e) : P.underlying t = some (.slice e) := by
  unfold elemOfSlice at he
  split at he
  · rename_i e' hu; cases he; exact hu
  · cases he

theorem indexAt_slice {t e : TypeId} {k : IntKind} {i : Int} {sz len cap : Nat} {a : Addr} (he : elemOfSlice P t = some e) (hn : szOf P e = some sz) (h0 : 0 ≤ i) (h1 : i < len) :
    (Instr.indexAt t (.slice (some a) len cap) (.int k i)).run P w = .ok (.pointer (some (a.add (i.toNat * sz)))) w := by
  have hu := elemOfSlice_inv he
  simp only [Instr.indexAt, asIntOf, Sem.run_bind, Sem.run_pure, Result.andThen_ok, run_underlying hu, h0, h1, and_self, if_true, szOf_run hn]

theorem ia_ro_ok {t e : TypeId} {k : IntKind} {i : Int} {sz : Nat} {xs : List (List AV)} {cs : List AV} {x : Value} (he : elemOfSlice P t = some e) (hn : szOf P e = some sz)
    (hx : Rel imm L (.ro xs) x) (h0 : 0 ≤ i) (hc : xs[i.toNat]? = some cs) (hcs : cs.length = sz) : ∃ y, (Instr.indexAt t x (.int k i)).run P w = .ok y w ∧ Rel imm L (.rop cs 0) y := by
  have hi := (List.getElem?_eq_some_iff.1 hc).1
  obtain ⟨sz', A, c, val, rfl, h1, h2, h3, h4⟩ := hx.ro_data
  obtain rfl : sz = sz' := hcs.symm.trans (h2 cs (List.mem_of_getElem? hc))
  obtain ⟨b, o, rfl, h5⟩ := h3 (by omega)
  refine ⟨_, indexAt_slice he hn h0 (by omega), ?_⟩
  rw [Addr.add_mid]
  have hl : cs.length = sz := h2 cs (List.mem_of_getElem? hc)
  exact .of (.rop (o0 := o + i.toNat * sz) (o := 0) (val i.toNat) (fun j hj => h5 _ _ hi (by omega)) (fun j a ha => h4 _ _ cs a hc ha))

theorem Inv.row_data (hI : Inv imm L h w) {r u sz : Nat} {xs : List (List AV)} {l : Loc} (hg : h.get (.r r) = .row u sz xs) (hl : L u = some l) : ∃ arr T, l.sz = sz ∧ w.heap[l.blk]? = some (.cells arr T (0, 0)) ∧
    l.off + l.cap * sz ≤ arr.size ∧ xs.length ≤ l.cap ∧ ∀ (i : Nat) (cs : List AV), xs[i]? = some cs → cs.length = sz ∧ ∀ (j : Nat) (a : AV), cs[j]? = some a → ∃ x, arr[l.off + i * sz + j]? = some x ∧ Rel imm L a x := by
  have := hI.obs (.r r)
  rw [hg] at this
  obtain ⟨l', arr, T, h1, h2, h3, h4, h5, h6⟩ := this
  rw [hl] at h1; cases h1
  exact ⟨arr, T, h2, h3, h4, h5, h6⟩

theorem ia_own_ok (hI : Inv imm L h w) {t e : TypeId} {k : IntKind} {i : Int} {sz r u s n : Nat} {xs : List (List AV)} {x : Value} (he : elemOfSlice P t = some e) (hn : szOf P e = some sz)
    (hx : Rel imm L (.own r u s n) x) (hg : h.get (.r r) = .row u sz xs) (h0 : 0 ≤ i) (h1 : i < n) : ∃ y, (Instr.indexAt t x (.int k i)).run P w = .ok y w ∧ Rel imm L (.rowp r u (s + i.toNat) 0) y := by
  obtain ⟨l, a, hl, h2, h3, h4, rfl⟩ := hx.own_inv
  obtain ⟨arr, T, k1, _⟩ := hI.row_data hg hl
  refine ⟨_, indexAt_slice he hn h0 h1, ?_⟩
  rw [h3 (by omega), Addr.add_mid]
  have := Rel.rowp (imm := imm) (r := r) (k := s + i.toNat) (o := 0) hl
  rw [k1, Nat.add_mul, Nat.add_zero] at this
  rw [k1, Nat.add_assoc]
  exact this

theorem ix_ok {t : TypeId} {k : IntKind} {i : Int} {s : ByteArray} {b : UInt8} (ht : isStringT P t = true) (h0 : 0 ≤ i) (hb : s[i.toNat]? = some b) :
    (Instr.index t (.string s) (.int k i)).run P w = .ok (.int .u8 b.toNat) w := by
  have hu : P.underlying t = some .string := by
    unfold isStringT at ht
    split at ht <;> simp_all
  simp only [Instr.index, asIntOf, Sem.run_bind, Sem.run_pure, Result.andThen_ok, run_underlying hu, h0, if_true, hb]

/-! ### Slices of slices and strings -/
theorem bnd_ok {F : List AV} {a : Act} (hF : Rels imm L F a.tmps) {d n : Nat} {x : Option Operand} (hb : bnd F d (x.map compOpd) = some n) :
    (x = none ∧ n = d) ∨ ∃ y k, x = some y ∧ a.eval y = .int k n := by
  cases x with
  | none => simp only [Option.map_none, bnd, Option.some.injEq] at hb; exact .inl ⟨rfl, hb.symm⟩
  | some y =>
    simp only [Option.map_some, bnd] at hb
    have hr := ev_rel hF y
    split at hb
    · rename_i k m hm
      rw [hm] at hr
      obtain ⟨hy, _⟩ := hr.v_inv
      split at hb
      · rename_i h0
        cases hb
        exact .inr ⟨y, k, rfl, by rw [hy]; congr 1; omega⟩
      · cases hb
    · cases hb

theorem sliceBound_run {k : IntKind} {n y : Nat} {c : BoundsCode} (hn : n ≤ y) : (Instr.sliceBound (.int k n) y c).run P w = .ok n w := by
  simp [Instr.sliceBound, asIntOf, hn]

theorem sliceBounds2 {F : List AV} {a : Act} (hF : Rels imm L F a.tmps) {isS : Bool} {len cap lo hi : Nat} {x y : Option Operand} (hx : bnd F 0 (x.map compOpd) = some lo) (hy : bnd F len (y.map compOpd) = some hi)
    (h1 : lo ≤ hi) (h2 : hi ≤ cap) : (Instr.sliceBounds isS len cap (x.map a.eval) (y.map a.eval) none).run P w = .ok (lo, hi, cap) w := by
  unfold Instr.sliceBounds
  rcases bnd_ok hF hx with ⟨rfl, rfl⟩ | ⟨x', kx, rfl, ex⟩ <;> rcases bnd_ok hF hy with ⟨rfl, rfl⟩ | ⟨y', ky, rfl, ey⟩
  · simp
  · simp [ey, sliceBound_run h2]
  · simp [ex, sliceBound_run h1]
  · simp [ex, ey, sliceBound_run h1, sliceBound_run h2]

theorem sliceBounds3 {isS : Bool} {len cap lo hi mx : Nat} {kx ky km : IntKind} (h1 : lo ≤ hi) (h2 : hi ≤ mx) (h3 : mx ≤ cap) :
    (Instr.sliceBounds isS len cap (some (.int kx lo)) (some (.int ky hi)) (some (.int km mx))).run P w = .ok (lo, hi, mx) w := by
  unfold Instr.sliceBounds
  simp [sliceBound_run h1, sliceBound_run h2, sliceBound_run h3]

theorem sliceBounds3' {isS : Bool} {len cap hi mx : Nat} {ky km : IntKind} (h2 : hi ≤ mx) (h3 : mx ≤ cap) :
    (Instr.sliceBounds isS len cap none (some (.int ky hi)) (some (.int km mx))).run P w = .ok (0, hi, mx) w := by
  unfold Instr.sliceBounds
  simp [sliceBound_run h2, sliceBound_run h3]

theorem slice_slice {t e : TypeId} {sz len cap lo hi mx : Nat} {A : Option Addr} {x y z : Option Value} (hu : P.underlying t = some (.slice e)) (hn : szOf P e = some sz)
    (hb : (Instr.sliceBounds true len cap x y z).run P w = .ok (lo, hi, mx) w) :
    (Instr.sliceAt t (.slice A len cap) x y z).run P w = .ok (.slice (if mx = lo then A else A.map (·.add (lo * sz))) (hi - lo) (mx - lo)) w := by
  simp only [Instr.sliceAt, Instr.slice, Sem.run_bind, run_underlying hu, Result.andThen_ok, hb, szOf_run hn, Sem.run_pure]

theorem sls_ok {t : TypeId} {F : List AV} {a : Act} (hF : Rels imm L F a.tmps) {s : ByteArray} {lo hi : Nat} {x y : Option Operand} (hu : P.underlying t = some .string)
    (hx : bnd F 0 (x.map compOpd) = some lo) (hy : bnd F s.size (y.map compOpd) = some hi) (h1 : lo ≤ hi) (h2 : hi ≤ s.size) :
    (Instr.sliceAt t (.string s) (x.map a.eval) (y.map a.eval) none).run P w = .ok (.string (s.extract lo hi)) w := by
  have hb := sliceBounds2 (P := P) (w := w) hF (isS := false) (cap := s.size) hx hy h1 h2
  simp only [Instr.sliceAt, Instr.slice, Sem.run_bind, run_underlying hu, Result.andThen_ok, hb, Option.isSome_none, Bool.false_eq_true, if_false, Sem.run_pure]

theorem sl_ok (hI : Inv imm L h w) {t e : TypeId} {F : List AV} {a : Act} (hF : Rels imm L F a.tmps) {sz : Nat} {p v : AV} {X : Value} {x y : Option Operand} (hu : P.underlying t = some (.slice e)) (hn : szOf P e = some sz)
    (hp : Rel imm L p X) (hv : (slA F sz p (x.map compOpd) (y.map compOpd)).run h = some v) : ∃ z, (Instr.sliceAt t X (x.map a.eval) (y.map a.eval) none).run P w = .ok z w ∧ Rel imm L v z := by
  unfold slA at hv
  split at hv
  · split at hv
    · rename_i e1 e2
      cases hv
      obtain ⟨A, rfl⟩ := hp.nils_inv
      exact ⟨_, slice_slice hu hn (sliceBounds2 hF (len := 0) (cap := 0) e1 e2 (Nat.le_refl _) (Nat.le_refl _)), .of (by simpa using .nils)⟩
    · cases hv
  · split at hv
    · rename_i e1 e2
      cases hv
      obtain ⟨b, o, rfl⟩ := hp.emp_inv
      exact ⟨_, slice_slice hu hn (sliceBounds2 hF (len := 0) (cap := 0) e1 e2 (Nat.le_refl _) (Nat.le_refl _)), .of (by simpa using .emp)⟩
    · cases hv
  · split at hv
    · rename_i xs _ _ l hh e1 e2
      split at hv
      case isFalse => cases hv
      rename_i hc
      obtain ⟨hlh, hhx, hall⟩ := hc
      cases hv
      obtain ⟨sz', A, c, val, rfl, h1, h2, h3, h4⟩ := hp.ro_data
      refine ⟨_, slice_slice hu hn (sliceBounds2 hF (len := xs.length) (cap := c) e1 e2 hlh (by omega)), ?_⟩
      have hlen : ((xs.take hh).drop l).length = hh - l := by simp; omega
      rw [← hlen]
      have hget : ∀ i cs, ((xs.take hh).drop l)[i]? = some cs → xs[l + i]? = some cs ∧ i < hh - l := fun i cs hi => by
        rw [List.getElem?_drop, List.getElem?_take] at hi
        split at hi
        · exact ⟨hi, by omega⟩
        · cases hi
      refine .of (.ro (fun i j => val (l + i) j) (by omega) (fun y hy => h2 y (List.mem_of_mem_take (List.mem_of_mem_drop hy))) (fun h0 => ?_) (fun i j cs a hi hj => h4 (l + i) j cs a (hget i cs hi).1 hj))
      obtain rfl : sz' = sz := by
        have hm : xs[0] ∈ xs := List.getElem_mem (by omega)
        have := List.all_eq_true.1 hall _ hm
        rw [← h2 _ hm]; simpa using this
      obtain ⟨b, o, rfl, h5⟩ := h3 (by omega)
      refine ⟨b, o + l * sz', by rw [if_neg (by omega)]; simp [Addr.add_mid], fun i j hi hj => ?_⟩
      have := h5 (l + i) j (by omega) hj
      rw [Nat.add_mul] at this
      rw [show o + l * sz' + i * sz' + j = o + (l * sz' + i * sz') + j by omega]
      exact this
    · cases hv
  · split at hv
    · rename_i r u s n _ _ l hh e1 e2
      simp only [Pr.run] at hv
      cases hg : h.get (.r r) with
      | row u' sz' xs =>
        rw [hg] at hv
        simp only at hv
        split at hv
        case isFalse => cases hv
        rename_i hc
        obtain ⟨rfl, rfl, hlh, hhx⟩ := hc
        cases hv
        obtain ⟨lc, A, hl, k2, k3, k4, rfl⟩ := hp.own_inv
        obtain ⟨arr, T, m1, m2, m3, m4, m5⟩ := hI.row_data hg hl
        refine ⟨_, slice_slice hu hn (sliceBounds2 hF (len := n) (cap := lc.cap - s) e1 e2 hlh (by omega)), ?_⟩
        have hcap : lc.cap - s - l = lc.cap - (s + l) := by omega
        rw [hcap]
        by_cases hcl : lc.cap - s = l
        · rw [if_pos hcl]
          exact .own hl (by omega) (fun hlt => by omega) k4
        · rw [if_neg hcl]
          refine .own (a := A.add (l * sz')) hl (by omega) (fun hlt => ?_) ?_
          · rw [k3 (by omega), Addr.add_mid, m1, Nat.add_mul, Nat.add_assoc]
          · unfold Addr.add
            split
            · exact k4
            · rfl
      | _ => rw [hg] at hv; cases hv
    · cases hv
  · cases hv

/-! ### A box -/
theorem getB_set_dead {i : Nat} (hi : i < h.bs.length) (o : Ob) : (h.set (.b i) o).get (.b i) = o := h.get_set_b i o hi

theorem box_ok (hI : Inv imm L h w) {i u : Nat} {cs : List AV} {arr : Array Value} {T : TypeId} (hu : L u = none) (hlt : u < h.nx) (hi : i < h.bs.length) (hr : Rels imm L cs arr) :
    ∃ L', Inv imm L' (h.set (.b i) (.box u cs)) (w.alloc (.cells arr T)) ∧ Step (· = u) imm L h w imm L' (h.set (.b i) (.box u cs)) (w.alloc (.cells arr T)) ∧ Rel imm L' (.ptr i u 0) (.pointer (some ⟨w.heap.size, 0, none⟩)) := by
  let l : Loc := ⟨w.heap.size, 0, 1, cs.length⟩
  let L' : Locs := fun v => if v = u then some l else L v
  have hle : LLe L L' := fun v m hv => by
    show (if v = u then some l else L v) = some m
    by_cases e : v = u
    · subst e; rw [hu] at hv; cases hv
    · rw [if_neg e]; exact hv
  have hLu : L' u = some l := if_pos rfl
  have hk : ∀ b, b < w.heap.size → b ≠ w.heap.size → (w.alloc (.cells arr T)).heap[b]? = w.heap[b]? := fun b hb _ => heap_alloc_old w _ b hb
  have hmk : ∀ v m, (Ob.box u cs).mark = some v → L' v = some m → m.blk = w.heap.size := fun v m hv hm => by cases hv; rw [hLu] at hm; cases hm; rfl
  have himm : imm w.heap.size = none := by
    cases hb : imm w.heap.size with
    | none => rfl
    | some o => have := (Array.getElem?_eq_some_iff.1 (hI.fit _ _ hb)).1; omega
  refine ⟨L', ?_, ?_, .ptr (l := l) hLu⟩
  · refine hI.upd (x := .b i) (ob := .box u cs) (B := w.heap.size) hle (fun v hv => ?_) (Hp.nx_set ..) (getB_set_dead hi _) (fun z hz => Hp.get_set_ne h _ z _ hz) ?_ hk hmk himm (fun z v m _ hv hm => ?_)
    · show (if v = u then some l else L v) = none
      rw [if_neg (by omega)]; exact hI.nx v hv
    · exact ⟨l, arr, T, hLu, rfl, heap_alloc_new w _, hr.mono (.refl _) hle⟩
    · obtain ⟨m', h1, h2⟩ := (hI.obs z).loc hv
      rw [hm] at h1; cases h1
      omega
  · exact Step.upd hI (x := .b i) (ob := .box u cs) (B := w.heap.size) hle (fun v hv => if_neg hv) (getB_set_dead hi _) (fun z hz => Hp.get_set_ne h _ z _ hz) hk hmk (.inr (Nat.le_refl _)) rfl rfl rfl (by simp)

end
end Go.Pv

namespace Go.Pv
open Go

section
variable {P : Program} {imm : Imm} {L : Locs} {h : Hp} {w : World}

theorem foldl_setArr (off : Nat) : ∀ (l : List Value) (k : Nat) (c : Array Value), (l.zipIdx k).foldl (fun cs (x : Value × Nat) => cs.setIfInBounds (off + x.2) x.1) c = setArr c (off + k) l
  | [], _, _ => rfl
  | v :: l, k, c => by
    rw [List.zipIdx_cons, List.foldl_cons, foldl_setArr off l (k + 1), setArr]
    rfl

theorem Rels.splice {cs xs : List AV} {arr X : Array Value} {o : Nat} (hc : Rels imm L cs arr) (hx : Rels imm L xs X) (ho : o + xs.length ≤ cs.length) : Rels imm L (Pv.splice cs o xs) (setArr arr o X.toList) := by
  have hl : X.toList.length = xs.length := by rw [Array.length_toList, ← hx.1]
  refine ⟨by rw [length_splice ho, size_setArr]; exact hc.1, fun j a z ha hz => ?_⟩
  rw [getElem_splice ho] at ha
  rw [getElem_setArr _ _ _ _ (by rw [hl, ← hc.1]; exact ho), hl] at hz
  split at ha
  · rename_i hj
    rw [if_pos hj] at hz
    exact hx.2 _ a z ha (by simpa using hz)
  · rename_i hj
    rw [if_neg hj] at hz
    exact hc.2 j a z ha hz

/-- The parts laid into the zero value. -/
theorem fill_ok {α : Type} {place : Nat → Option (Nat × Nat)} (f : α → Nat × Value) (g : α → Nat × Nat × AV) : ∀ (l : List α) (cs cs' : List AV) (arr : Array Value),
    (∀ x ∈ l, place (f x).1 = some ((g x).1, (g x).2.1) ∧ Rel imm L (g x).2.2 (f x).2) → fillA cs (l.map g) = some cs' → Rels imm L cs arr → ∃ arr', Instr.fill place arr (l.map f) = some arr' ∧ Rels imm L cs' arr'
  | [], cs, cs', arr, _, h, hr => by cases h; exact ⟨arr, rfl, hr⟩
  | x :: l, cs, cs', arr, hp, h, hr => by
    obtain ⟨hp1, hp2⟩ := hp x List.mem_cons_self
    rw [List.map_cons] at h ⊢
    have e : g x = ((g x).1, (g x).2.1, (g x).2.2) := rfl
    have e2 : f x = ((f x).1, (f x).2) := rfl
    rw [e] at h
    rw [e2]
    unfold fillA at h
    split at h
    case h_2 => cases h
    rename_i xs hxs
    split at h
    case isFalse => cases h
    rename_i hh
    have hc := cells_rel hp2 hxs
    have hsz : (f x).2.cells.size = (g x).2.1 := by rw [← hc.1]; exact hh.1
    have hb : ¬ (g x).1 + (f x).2.cells.size > arr.size := by rw [← hr.1, hsz]; omega
    obtain ⟨arr', h1, h2⟩ := fill_ok f g l _ cs' _ (fun y hy => hp y (List.mem_cons_of_mem _ hy)) h (hr.splice hc (by rw [hh.1]; exact hh.2))
    refine ⟨arr', ?_, h2⟩
    unfold Instr.fill
    rw [hp1]
    simp only [hsz, ne_eq, not_true, decide_false, Bool.false_or]
    rw [hsz] at hb
    rw [if_neg (by simpa using hb), ← h1]
    congr 1
    rw [← Array.foldl_toList, Array.toList_zipIdx]
    have := foldl_setArr (g x).1 (f x).2.cells.toList 0 arr
    simpa using this

theorem zero_cells {t : TypeId} {zs : List AV} (hz : ((zeroOf P t).bind fun z => cells (ofV z)) = some zs) : ∃ it z, P.info? t = some it ∧ it.zero = some z ∧ Rels imm L zs z.cells := by
  rw [Option.bind_eq_some_iff] at hz
  obtain ⟨z, h1, h2⟩ := hz
  unfold zeroOf at h1
  rw [Option.bind_eq_some_iff] at h1
  obtain ⟨it, h3, h4⟩ := h1
  exact ⟨it, z, h3, h4, cells_rel (ofV_rel z) h2⟩

theorem mapM_some_map {α β : Type} (f : α → Option β) : ∀ (l : List α) (r : List β), l.mapM f = some r → ∀ {γ : Type} (k : β → γ) (d : α → γ), (∀ a b, f a = some b → d a = k b) → l.map d = r.map k
  | [], r, h, _, k, d, hd => by simp at h; subst h; rfl
  | a :: l, r, h, _, k, d, hd => by
    simp only [List.mapM_cons, Option.bind_eq_bind, Option.bind_eq_some_iff, Option.pure_def, Option.some.injEq] at h
    obtain ⟨b, h1, r', h2, rfl⟩ := h
    rw [List.map_cons, List.map_cons, hd a b h1, mapM_some_map f l r' h2 k d hd]

theorem mapM_some_mem {α β : Type} (f : α → Option β) : ∀ (l : List α) (r : List β), l.mapM f = some r → ∀ a ∈ l, ∃ b, f a = some b
  | [], _, _, a, ha => by cases ha
  | a :: l, r, h, x, hx => by
    simp only [List.mapM_cons, Option.bind_eq_bind, Option.bind_eq_some_iff, Option.pure_def, Option.some.injEq] at h
    obtain ⟨b, h1, r', h2, _⟩ := h
    rcases List.mem_cons.1 hx with rfl | hx
    · exact ⟨b, h1⟩
    · exact mapM_some_mem f l r' h2 x hx

theorem build_ok {t : TypeId} {fs : Array Field} {F : List AV} {a : Act} (hF : Rels imm L F a.tmps) {parts : Array (Nat × Operand)} {places : List (Nat × Nat)} {zs cs : List AV} {ps : List (Nat × Nat × Opd)}
    (hu : P.underlying t = some (.struct fs)) (hp : fs.toList.mapM (fun f => (P.info? f.type).map fun i => (f.offset, i.size)) = some places) (hz : ((zeroOf P t).bind fun z => cells (ofV z)) = some zs)
    (hps : parts.toList.mapM (fun p => (places[p.1]?).map fun q => (q.1, q.2, compOpd p.2)) = some ps) (hv : fillA zs (ps.map fun p => (p.1, p.2.1, ev F p.2.2)) = some cs) :
    ∃ y, (Instr.build t (parts.map fun (i, x) => (i, a.eval x))).run P w = .ok y w ∧ Rel imm L (.agg cs) y := by
  obtain ⟨it, z, h1, h2, h3⟩ := zero_cells (imm := imm) (L := L) hz
  have hmap := mapM_some_map _ _ _ hps (fun p => (p.1, p.2.1, ev F p.2.2)) (fun p => ((places.getD p.1 (0, 0)).1, (places.getD p.1 (0, 0)).2, ev F (compOpd p.2))) (fun p b hb => by
    simp only [Option.map_eq_some_iff] at hb
    obtain ⟨q, hq, rfl⟩ := hb
    simp [List.getD_eq_getElem?_getD, hq])
  rw [← hmap] at hv
  obtain ⟨arr, h4, h5⟩ := fill_ok (imm := imm) (L := L) (place := fun i => places.toArray[i]?) (fun p : Nat × Operand => (p.1, a.eval p.2)) _ parts.toList zs cs z.cells (fun x hx => by
    obtain ⟨b, hb⟩ := mapM_some_mem _ _ _ hps x hx
    simp only [Option.map_eq_some_iff] at hb
    obtain ⟨q, hq, _⟩ := hb
    exact ⟨by simp [List.getD_eq_getElem?_getD, hq], ev_rel hF _⟩) hv h3
  refine ⟨.agg arr, run_build w t _ arr ?_, .agg h5.1 h5.2⟩
  unfold Program.built
  simp only [h1, hu, h2, hp]
  simpa using h4

/-! ### What a new block of cells does to the rest -/
theorem Inv.fresh_imm (hI : Inv imm L h w) {b : Nat} (hb : w.heap.size ≤ b) : imm b = none := by
  cases hc : imm b with
  | none => rfl
  | some o => have := (Array.getElem?_eq_some_iff.1 (hI.fit _ _ hc)).1; omega

/-- A block laid that nobody of the heap's leads to: it may be read for ever. -/
theorem Inv.freeze (hI : Inv imm L h w) (o : Obj) : ∃ imm', imm' w.heap.size = some o ∧ Inv imm' L h (w.alloc o) ∧ ∀ u, Step (· = u) imm L h w imm' L h (w.alloc o) := by
  have hf := hI.fresh_imm (Nat.le_refl _)
  let imm' : Imm := fun b => if b = w.heap.size then some o else imm b
  have hle : ImmLe imm imm' := fun b x hb => by
    show (if b = w.heap.size then some o else imm b) = some x
    rw [if_neg (fun e => by rw [e, hf] at hb; cases hb)]; exact hb
  have hlt : ∀ x u l, (h.get x).mark = some u → L u = some l → l.blk < w.heap.size := fun x u l hm hl => by
    obtain ⟨m, h1, h2⟩ := (hI.obs x).loc hm
    rw [hl] at h1; cases h1; exact h2
  refine ⟨imm', if_pos rfl, ⟨fun b x hb => ?_, hI.nx, fun x => (hI.obs x).mono hle (.refl _) fun u l hm hl => heap_alloc_old w o _ (hlt x u l hm hl), hI.apart, fun x u l hm hl => ?_⟩, fun u => ⟨hle, fun b x hb => ?_, .refl _, fun _ _ => rfl, fun _ hb => .inl hb, ⟨rfl, rfl, rfl, by simp, fun k hk _ => heap_alloc_old w o k hk⟩⟩⟩
  · have hb' : (if b = w.heap.size then some o else imm b) = some x := hb
    split at hb'
    · rename_i e; subst e; cases hb'; exact heap_alloc_new w o
    · have := hI.fit b x hb'
      rw [heap_alloc_old w o b (Array.getElem?_eq_some_iff.1 this).1]; exact this
  · show (if l.blk = w.heap.size then some o else imm l.blk) = none
    rw [if_neg (by have := hlt x u l hm hl; omega)]
    exact hI.free x u l hm hl
  · have hb' : (if b = w.heap.size then some o else imm b) = some x := hb
    split at hb'
    · rename_i e; exact .inr (by omega)
    · exact .inl hb'

/-- A row laid. -/
theorem lay_ok (hI : Inv imm L h w) {u : Nat} {ob : Ob} {o : Obj} {l : Loc} (hu : L u = none) (hlt : u < h.nx) (hm : ob.mark = some u) (hb : l.blk = w.heap.size)
    (hob : ∀ L' w', LLe L L' → L' u = some l → w'.heap[w.heap.size]? = some o → ObRel imm L' w' ob) (w' : World) (hw : w'.heap = (w.alloc o).heap) (hos : w'.os = w.os) (ht : w'.tape = w.tape) (hout : w'.output = w.output) :
    ∃ L', L' u = some l ∧ Inv imm L' (h.lay ob) w' ∧ Step (· = u) imm L h w imm L' (h.lay ob) w' := by
  let L' : Locs := fun v => if v = u then some l else L v
  have hle : LLe L L' := fun v m hv => by
    show (if v = u then some l else L v) = some m
    by_cases e : v = u
    · subst e; rw [hu] at hv; cases hv
    · rw [if_neg e]; exact hv
  have hLu : L' u = some l := if_pos rfl
  have hk : ∀ b, b < w.heap.size → b ≠ w.heap.size → w'.heap[b]? = w.heap[b]? := fun b hb _ => by rw [hw]; exact heap_alloc_old w o b hb
  have hmk : ∀ v m, ob.mark = some v → L' v = some m → m.blk = w.heap.size := fun v m hv hm' => by rw [hm] at hv; cases hv; rw [hLu] at hm'; cases hm'; exact hb
  refine ⟨L', hLu, ?_, ?_⟩
  · refine hI.upd (x := .r h.rs.length) (ob := ob) (B := w.heap.size) hle (fun v hv => ?_) rfl (h.get_lay ob) (fun z hz => h.get_lay_ne ob z hz) ?_ hk hmk (hI.fresh_imm (Nat.le_refl _)) (fun z v m _ hv hm' => ?_)
    · show (if v = u then some l else L v) = none
      rw [if_neg (by omega)]; exact hI.nx v hv
    · exact hob L' w' hle hLu (by rw [hw]; exact heap_alloc_new w o)
    · obtain ⟨m', h1, h2⟩ := (hI.obs z).loc hv
      rw [hm'] at h1; cases h1
      omega
  · exact Step.upd hI (x := .r h.rs.length) (ob := ob) (B := w.heap.size) hle (fun v hv => if_neg hv) (h.get_lay ob) (fun z hz => h.get_lay_ne ob z hz) hk hmk (.inr (Nat.le_refl _)) hos ht hout (by rw [hw]; simp)

/-! ### Maps -/
theorem makeMap_ok (hI : Inv imm L h w) {t : TypeId} {u : Nat} (hu : L u = none) (hlt : u < h.nx) :
    ∃ y w' L', (Instr.makeMap t none).run P w = .ok y w' ∧ Inv imm L' (h.lay (.map u [])) w' ∧ Step (· = u) imm L h w imm L' (h.lay (.map u [])) w' ∧ Rel imm L' (.mp h.rs.length u) y := by
  obtain ⟨L', h1, h2, h3⟩ := lay_ok hI (ob := .map u []) (o := .map #[] 0) (l := ⟨w.heap.size, 0, 0, 0⟩) hu hlt rfl rfl
    (fun L' w' _ hl hw => ⟨_, #[], 0, hl, hw, by intro e he; simp at he, fun n => by simp [lookO, atKey]⟩) (w.alloc (.map #[] 0)) rfl rfl rfl rfl
  refine ⟨_, _, L', ?_, h2, h3, .mp h1⟩
  simp [Instr.makeMap]

end
end Go.Pv
