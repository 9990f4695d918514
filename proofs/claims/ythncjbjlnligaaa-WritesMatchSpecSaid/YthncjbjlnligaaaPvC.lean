/-
  Operations of the interpreter against the model: memory, append, rows, maps. Conditions: none.
-/
import Derived.Test.YthncjbjlnligaaaPvB
import Derived.Laws.Append
import Derived.Laws.AppendOwn
import Derived.Laws.MakeOwn
set_option linter.unusedVariables false
set_option linter.unusedSimpArgs false
namespace Go.Pv
open Go

section
variable {P : Program} {imm : Imm} {L : Locs} {h : Hp} {w : World}

theorem findNow_spec' {q : IntKind} (n : Int) : ∀ (l : List MapEntry) (i0 : Nat), intKeys l →
    (Instr.findNow (.int q) (.int .i64 n) l i0 = some none ∧ atKey l n = none) ∨
    ∃ (i : Nat) (e : MapEntry), Instr.findNow (.int q) (.int .i64 n) l i0 = some (some (i0 + i, e.val)) ∧ l[i]? = some e ∧ e.key = .int .i64 n ∧ atKey l n = some e.val ∧
      ∀ (e' : MapEntry), e'.key = .int .i64 n → ∀ m, atKey (l.set i e') m = if m = n then some e'.val else atKey l m
  | [], i0, _ => .inl ⟨rfl, rfl⟩
  | e :: l, i0, hk => by
    obtain ⟨k, hke⟩ := hk e List.mem_cons_self
    have hk' : intKeys l := fun x hx => hk x (List.mem_cons_of_mem _ hx)
    by_cases hkn : n = k
    · subst hkn
      refine .inr ⟨0, e, by simp [Instr.findNow, Instr.sameNow, hke], rfl, hke, by simp [atKey, hke], fun e' he' m => ?_⟩
      simp only [List.set_cons_zero, atKey, he', hke]
      by_cases hm : n = m
      · subst hm; simp
      · rw [if_neg hm, if_neg (fun e => hm e.symm), if_neg hm]
    · have hne : (n == k) = false := by simpa using hkn
      have hne' : ¬ k = n := fun e => hkn e.symm
      rcases findNow_spec' (q := q) n l (i0 + 1) hk' with ⟨h1, h2⟩ | ⟨i, x, h1, h2, h3, h4, h5⟩
      · exact .inl ⟨by simp [Instr.findNow, Instr.sameNow, hke, hne, h1], by simp [atKey, hke, hne', h2]⟩
      · refine .inr ⟨i + 1, x, ?_, by simpa using h2, h3, by simp [atKey, hke, hne', h4], fun e' he' m => ?_⟩
        · simp [Instr.findNow, Instr.sameNow, hke, hne, h1, show i0 + 1 + i = i0 + (i + 1) by omega]
        · simp only [List.set_cons_succ, atKey, hke]
          by_cases hm : k = m
          · subst hm; rw [if_pos rfl, if_neg hne', if_pos rfl]
          · rw [if_neg hm, h5 e' he' m, if_neg hm]

theorem findKey_run {kt : TypeId} {q : IntKind} (n : Int) {l : List MapEntry} (hu : P.underlying kt = some (.int q)) {r : Option (Nat × Value)} (hf : Instr.findNow (.int q) (.int .i64 n) l 0 = some r) :
    (Instr.findKey kt (.int .i64 n) l).run P w = .ok r w := by
  simp [Instr.findKey, run_underlying hu, hf]

theorem checkKey_run {kt : TypeId} {q : IntKind} (b : Bool) (n : Int) (hu : P.underlying kt = some (.int q)) : (Instr.checkKey b 10000 kt (.int .i64 n)).run P w = .ok () w := by
  have key (d : Nat) : (Instr.checkKey b (d + 1) kt (.int .i64 n)).run P w = .ok () w := by simp [Instr.checkKey, run_underlying hu]
  exact key 9999

theorem Inv.map_data (hI : Inv imm L h w) {r u : Nat} {es : List (Int × AV)} {l : Loc} (hg : h.get (.r r) = .map u es) (hl : L u = some l) : ∃ ms c, w.heap[l.blk]? = some (.map ms c) ∧ MapRel imm L es ms.toList := by
  have := hI.obs (.r r)
  rw [hg] at this
  obtain ⟨l', ms, c, h1, h2, h3⟩ := this
  rw [hl] at h1; cases h1
  exact ⟨ms, c, h2, h3⟩

theorem lookA_eq (zero : AV) (n : Int) : ∀ es : List (Int × AV), lookA zero es n = match lookO es n with | some a => (a, true) | none => (zero, false)
  | [] => rfl
  | (k, x) :: es => by
    simp only [lookA, lookO]
    split
    · rfl
    · exact lookA_eq zero n es

theorem lookup_ok (hI : Inv imm L h w) {t kt e : TypeId} {q : IntKind} {r u : Nat} {es : List (Int × AV)} {n : Int} {z : Value} {x : Value} {ok : Bool} (hu : P.underlying t = some (.map kt e)) (hk : P.underlying kt = some (.int q))
    (hz : zeroOf P e = some z) (hx : Rel imm L (.mp r u) x) (hg : h.get (.r r) = .map u es) :
    ∃ y, (Instr.lookup t x (.int .i64 n) ok).run P w = .ok y w ∧ Rel imm L (if ok then .tup [(lookA (ofV z) es n).1, .b (lookA (ofV z) es n).2] else (lookA (ofV z) es n).1) y := by
  obtain ⟨l, hl, rfl⟩ := hx.mp_inv
  obtain ⟨ms, c, hb, hm1, hm2⟩ := hI.map_data hg hl
  have hget : (getObj l.blk).run P w = .ok (.map ms c) w := by simp [getObj, Sem.run, hb]
  have hzero : (zeroValue e).run P w = .ok z w := by
    unfold zeroOf at hz
    rw [Option.bind_eq_some_iff] at hz
    obtain ⟨i, h1, h2⟩ := hz
    simp [zeroValue, typeInfo, h1, h2]
  have h2 := hm2 n
  rw [lookA_eq]
  have tupR {A : AV} {y : Value} (b : Bool) (hA : Rel imm L A y) : Rel imm L (if ok then .tup [A, .b b] else A) (if ok then .tuple #[y, .bool b] else y) := by
    cases ok
    · exact hA
    · refine .tup rfl fun j a x ha hx => ?_
      match j, ha, hx with
      | 0, ha, hx => cases ha; cases hx; exact hA
      | 1, ha, hx => cases ha; cases hx; exact .of (.v rfl)
      | j + 2, ha, hx => simp at ha
  rcases findNow_spec' (q := q) n ms.toList 0 hm1 with ⟨f1, f2⟩ | ⟨i, en, f1, _, _, f4, _⟩
  · rw [f2] at h2
    cases ho : lookO es n with
    | some a => rw [ho] at h2; exact h2.elim
    | none =>
      refine ⟨if ok then .tuple #[z, .bool false] else z, ?_, tupR false (ofV_rel z)⟩
      simp [Instr.lookup, run_underlying hu, hget, checkKey_run _ n hk, findKey_run n hk f1, hzero]
  · rw [f4] at h2
    cases ho : lookO es n with
    | none => rw [ho] at h2; exact h2.elim
    | some a =>
      rw [ho] at h2
      refine ⟨if ok then .tuple #[en.val, .bool true] else en.val, ?_, tupR true h2⟩
      simp [Instr.lookup, run_underlying hu, hget, checkKey_run _ n hk, findKey_run n hk f1]

theorem sameBits_int (n : Int) : Instr.sameBits 10000 (.int .i64 n) (.int .i64 n) = true := by
  have key (d : Nat) : Instr.sameBits (d + 1) (.int .i64 n) (.int .i64 n) = true := by simp [Instr.sameBits]
  exact key 9999

theorem atKey_push (n : Int) (e : MapEntry) (he : e.key = .int .i64 n) : ∀ (l : List MapEntry), intKeys l → atKey l n = none → ∀ m, atKey (l ++ [e]) m = if m = n then some e.val else atKey l m
  | [], _, _, m => by
    simp only [List.nil_append, atKey, he]
    by_cases hm : n = m
    · subst hm; simp
    · rw [if_neg hm, if_neg (fun e => hm e.symm)]
  | x :: l, hk, h0, m => by
    obtain ⟨k, hke⟩ := hk x List.mem_cons_self
    simp only [atKey, hke] at h0
    split at h0
    · cases h0
    · rename_i hkn
      simp only [List.cons_append, atKey, hke]
      by_cases hm : k = m
      · subst hm; rw [if_pos rfl, if_neg hkn, if_pos rfl]
      · rw [if_neg hm, if_neg hm, atKey_push n e he l (fun y hy => hk y (List.mem_cons_of_mem _ hy)) h0 m]

theorem update_ok (hI : Inv imm L h w) {t kt e : TypeId} {q : IntKind} {r u u0 : Nat} {es : List (Int × AV)} {n : Int} {A : AV} {x y : Value} (hu : P.underlying t = some (.map kt e)) (hk : P.underlying kt = some (.int q))
    (hx : Rel imm L (.mp r u) x) (hA : Rel imm L A y) (hg : h.get (.r r) = .map u es) :
    ∃ w', (Instr.mapUpdate t x (.int .i64 n) y).run P w = .ok () w' ∧ Inv imm L (h.set (.r r) (.map u ((n, A) :: es))) w' ∧ Step (· = u0) imm L h w imm L (h.set (.r r) (.map u ((n, A) :: es))) w' := by
  obtain ⟨l, hl, rfl⟩ := hx.mp_inv
  obtain ⟨ms, c, hb, hm1, hm2⟩ := hI.map_data hg hl
  have hget : (getObj l.blk).run P w = .ok (.map ms c) w := by simp [getObj, Sem.run, hb]
  have hset (o : Obj) : (setObj l.blk o).run P w = .ok () { w with heap := w.heap.setIfInBounds l.blk o } := by simp [setObj, Sem.run, hb]
  have hlt : l.blk < w.heap.size := (Array.getElem?_eq_some_iff.1 hb).1
  have rest (ms' : Array MapEntry) (c' : Nat) (hk' : intKeys ms'.toList) (ha : ∀ m, atKey ms'.toList m = if m = n then some y else atKey ms.toList m) :
      Inv imm L (h.set (.r r) (.map u ((n, A) :: es))) { w with heap := w.heap.setIfInBounds l.blk (.map ms' c') } ∧
      Step (· = u0) imm L h w imm L (h.set (.r r) (.map u ((n, A) :: es))) { w with heap := w.heap.setIfInBounds l.blk (.map ms' c') } := by
    have hne : ∀ b, b < w.heap.size → b ≠ l.blk → (w.heap.setIfInBounds l.blk (.map ms' c'))[b]? = w.heap[b]? := fun b _ hb' => by
      rw [Array.getElem?_setIfInBounds, if_neg (fun e => hb' e.symm)]
    have hmk : ∀ v m, (Ob.map u ((n, A) :: es)).mark = some v → L v = some m → m.blk = l.blk := fun v m hv hm => by cases hv; rw [hl] at hm; cases hm; rfl
    refine ⟨?_, ?_⟩
    · refine hI.upd (x := .r r) (ob := .map u ((n, A) :: es)) (B := l.blk) (.refl _) hI.nx (Hp.nx_set ..) (Hp.get_set _ (by rw [hg]; simp)) (fun z hz => Hp.get_set_ne h _ z _ hz) ?_ hne hmk
        (hI.free (.r r) u l (by rw [hg]; rfl) hl) (fun z v m hz hv hm => hI.apart z (.r r) v u m l hz hv (by rw [hg]; rfl) hm hl)
      refine ⟨l, ms', c', hl, by simp [hlt], hk', fun m => ?_⟩
      rw [ha m]
      simp only [lookO]
      by_cases hm : n = m
      · subst hm; simpa using hA
      · rw [if_neg hm, if_neg (fun e => hm e.symm)]; exact hm2 m
    · exact Step.upd hI (x := .r r) (ob := .map u ((n, A) :: es)) (B := l.blk) (.refl _) (fun _ _ => rfl) (Hp.get_set _ (by rw [hg]; simp)) (fun z hz => Hp.get_set_ne h _ z _ hz) hne hmk
        (.inl ⟨.r r, u, l, by rw [hg]; rfl, hl, rfl⟩) rfl rfl rfl (by simp)
  rcases findNow_spec' (q := q) n ms.toList 0 hm1 with ⟨f1, f2⟩ | ⟨i, en, f1, f2, f3, f4, f5⟩
  · obtain ⟨r1, r2⟩ := rest (ms.push { key := .int .i64 n, val := y, born := c }) (c + 1) (fun x hx => by
      simp only [Array.toList_push, List.mem_append, List.mem_singleton] at hx
      rcases hx with hx | rfl
      · exact hm1 x hx
      · exact ⟨n, rfl⟩) (fun m => by rw [Array.toList_push]; exact atKey_push n _ rfl _ hm1 f2 m)
    refine ⟨_, ?_, r1, r2⟩
    simp [Instr.mapUpdate, run_underlying hu, hget, checkKey_run _ n hk, findKey_run n hk f1, hset]
  · simp only [Nat.zero_add] at f1
    have hi : i < ms.size := by simpa using (List.getElem?_eq_some_iff.1 f2).1
    have hmsi : ms[i]? = some en := by simpa using f2
    have hmod : (ms.modify i fun e => { e with key := .int .i64 n, val := y }).toList = ms.toList.set i { en with key := .int .i64 n, val := y } := by
      apply List.ext_getElem?
      intro j
      rw [Array.getElem?_toList, Array.getElem?_modify, List.getElem?_set]
      by_cases hij : i = j
      · subst hij
        rw [if_pos rfl, if_pos rfl, hmsi]
        simp [hi]
      · rw [if_neg hij, if_neg hij, Array.getElem?_toList]
    obtain ⟨r1, r2⟩ := rest (ms.modify i fun e => { e with key := .int .i64 n, val := y }) c (fun x hx => by
      rw [hmod] at hx
      rcases List.mem_or_eq_of_mem_set hx with hx | rfl
      · exact hm1 x hx
      · exact ⟨n, rfl⟩) (fun m => by rw [hmod]; exact f5 _ rfl m)
    refine ⟨_, ?_, r1, r2⟩
    have hks : (Instr.keyThatStays (((ms[i]?).map (·.key)).getD (.int .i64 n)) (.int .i64 n)).run P w = .ok (.int .i64 n) w := by
      rw [hmsi]
      simp [Instr.keyThatStays, f3, sameBits_int]
    simp [Instr.mapUpdate, run_underlying hu, hget, checkKey_run _ n hk, findKey_run n hk f1, hset, hks]

end
end Go.Pv

namespace Go.Pv
open Go

/-- These cells hold the elements. -/
def CellsOf (imm : Imm) (L : Locs) (sz : Nat) (ys : List (List AV)) (C : Array Value) : Prop :=
  C.size = ys.length * sz ∧ ∀ (i : Nat) (c : List AV), ys[i]? = some c → c.length = sz ∧ ∀ (j : Nat) (a : AV), c[j]? = some a → ∃ x, C[i * sz + j]? = some x ∧ Rel imm L a x

theorem idx_lt {i n j sz : Nat} (hi : i < n) (hj : j < sz) : i * sz + j < n * sz := by
  have : (i + 1) * sz ≤ n * sz := Nat.mul_le_mul_right _ hi
  rw [Nat.succ_mul] at this
  omega

theorem idx_of {k n sz : Nat} (hk : k < n * sz) : k / sz < n ∧ k % sz < sz ∧ k = k / sz * sz + k % sz := by
  have hsz : 0 < sz := by
    rcases Nat.eq_zero_or_pos sz with h | h
    · subst h; simp at hk
    · exact h
  exact ⟨(Nat.div_lt_iff_lt_mul hsz).2 hk, Nat.mod_lt _ hsz, by have := Nat.div_add_mod k sz; rw [Nat.mul_comm] at this; omega⟩

section
variable {P : Program} {imm : Imm} {L : Locs} {h : Hp} {w : World}

theorem CellsOf.mono {imm' : Imm} {L' : Locs} (hi : ImmLe imm imm') (hl : LLe L L') {sz : Nat} {ys : List (List AV)} {C : Array Value} (hc : CellsOf imm L sz ys C) : CellsOf imm' L' sz ys C :=
  ⟨hc.1, fun i c hi' => ⟨(hc.2 i c hi').1, fun j a ha => by obtain ⟨x, h1, h2⟩ := (hc.2 i c hi').2 j a ha; exact ⟨x, h1, h2.mono hi hl⟩⟩⟩

theorem CellsOf.one {sz : Nat} {ys : List (List AV)} {C : Array Value} (hc : CellsOf imm L sz ys C) (h1 : ys.all (fun c => c.length == sz && c.all Pv.one) = true) : ∀ v ∈ C.toList, v.oneCell' = true := by
  intro v hv
  obtain ⟨k, hk, e⟩ := List.getElem_of_mem hv
  simp only [Array.length_toList] at hk
  rw [hc.1] at hk
  obtain ⟨hi, hj, e2⟩ := idx_of hk
  have hy : ys[k / sz]? = some ys[k / sz] := List.getElem?_eq_getElem hi
  obtain ⟨hl, hcells⟩ := hc.2 _ _ hy
  have ha : ys[k / sz][k % sz]? = some (ys[k / sz][k % sz]'(by rw [hl]; exact hj)) := List.getElem?_eq_getElem _
  obtain ⟨x, hx, hr⟩ := hcells _ _ ha
  rw [← e2] at hx
  have hvx : C[k]? = some v := by rw [← e]; simp
  rw [hvx] at hx; cases hx
  have := (List.all_eq_true.1 h1) _ (List.getElem_mem hi)
  simp only [Bool.and_eq_true, beq_iff_eq] at this
  exact one_rel hr ((List.all_eq_true.1 this.2) _ (List.getElem_mem _))

/-- The cells of a slice that is read whole. -/
theorem first_ok {b o sz len cap : Nat} {ys : List (List AV)} (hl : ∀ c ∈ ys, c.length = sz)
    (hc : ∀ (i j : Nat) (c : List AV) (a : AV), ys[i]? = some c → c[j]? = some a → ∃ x, w.cell? ⟨b, o + i * sz + j, none⟩ = some x ∧ Rel imm L a x) :
    ∃ C, (∀ w' : World, w'.heap = w.heap → (Builtin.firstCells sz ys.length (.slice (some ⟨b, o, none⟩) len cap)).run P w' = .ok C w') ∧ CellsOf imm L sz ys C := by
  have hcell : ∀ k, k < ys.length * sz → ∃ x, w.cell? ⟨b, o + k, none⟩ = some x := fun k hk => by
    obtain ⟨hi, hj, e⟩ := idx_of hk
    have hy : ys[k / sz]? = some ys[k / sz] := List.getElem?_eq_getElem hi
    have hjl : k % sz < ys[k / sz].length := by rw [hl _ (List.getElem_mem hi)]; exact hj
    obtain ⟨x, hx, _⟩ := hc _ _ _ _ hy (List.getElem?_eq_getElem hjl)
    exact ⟨x, by rw [e, ← Nat.add_assoc]; exact hx⟩
  let val : Nat → Value := fun k => (w.cell? ⟨b, o + k, none⟩).getD undef
  refine ⟨((List.range (ys.length * sz)).map val).toArray, fun w' hw => ?_, by simp, fun i c hy => ⟨hl c (List.mem_of_getElem? hy), fun j a ha => ?_⟩⟩
  · refine run_firstCells_some (P := P) w' sz ys.length ⟨b, o, none⟩ len cap _ (by simp) fun j v hv => ?_
    have hj : j < ys.length * sz := by
      have := (List.getElem?_eq_some_iff.1 hv).1
      simpa using this
    rw [List.getElem?_map, List.getElem?_range hj] at hv
    cases hv
    obtain ⟨x, hx⟩ := hcell j hj
    rw [Addr.add_mid]
    show w'.cell? _ = some ((w.cell? ⟨b, o + j, none⟩).getD undef)
    have e : w'.cell? ⟨b, o + j, none⟩ = w.cell? ⟨b, o + j, none⟩ := by simp [World.cell?, hw]
    rw [e, hx]; rfl
  · have hi : i < ys.length := (List.getElem?_eq_some_iff.1 hy).1
    have hj : j < sz := by rw [← hl c (List.mem_of_getElem? hy)]; exact (List.getElem?_eq_some_iff.1 ha).1
    obtain ⟨x, hx, hr⟩ := hc i j c a hy ha
    refine ⟨x, ?_, hr⟩
    rw [List.getElem?_toArray, List.getElem?_map, List.getElem?_range (idx_lt hi hj)]
    show some ((w.cell? ⟨b, o + (i * sz + j), none⟩).getD undef) = some x
    rw [← Nat.add_assoc, hx]; rfl

theorem first_nil {sz : Nat} (S : Value) (hS : (∃ c l, S = .slice none l c) ∨ ∃ a c l, S = .slice (some a) l c) : ∀ w' : World, (Builtin.firstCells sz 0 S).run P w' = .ok #[] w' := fun w' => by
  rcases hS with ⟨c, l, rfl⟩ | ⟨a, c, l, rfl⟩
  · simp [Builtin.firstCells]
  · simp [Builtin.firstCells, loadCells, loadCellsFrom]

theorem items_ok (hI : Inv imm L h w) {sz : Nat} {Y : AV} {y : Value} {ys : List (List AV)} (hY : Rel imm L Y y) (hr : (items sz Y).run h = some ys) (hlen : ∀ c ∈ ys, c.length = sz) :
    ∃ C, (∀ w' : World, (Builtin.lenOf y).run P w' = .ok ys.length w') ∧ (∀ w' : World, w'.heap = w.heap → (Builtin.firstCells sz ys.length y).run P w' = .ok C w') ∧ CellsOf imm L sz ys C := by
  cases Y with
  | nils =>
    cases hr
    obtain ⟨A, rfl⟩ := hY.nils_inv
    cases A with
    | none => exact ⟨#[], fun w' => rfl, fun w' _ => first_nil _ (.inl ⟨_, _, rfl⟩) w', by simp, fun i c hc => by simp at hc⟩
    | some a => exact ⟨#[], fun w' => rfl, fun w' _ => first_nil _ (.inr ⟨_, _, _, rfl⟩) w', by simp, fun i c hc => by simp at hc⟩
  | em b =>
    cases hr
    obtain ⟨A, c, rfl, _⟩ := hY.em_inv
    cases A with
    | none => exact ⟨#[], fun w' => rfl, fun w' _ => first_nil _ (.inl ⟨_, _, rfl⟩) w', by simp, fun i c hc => by simp at hc⟩
    | some a => exact ⟨#[], fun w' => rfl, fun w' _ => first_nil _ (.inr ⟨_, _, _, rfl⟩) w', by simp, fun i c hc => by simp at hc⟩
  | emp =>
    cases hr
    obtain ⟨b, o, rfl⟩ := hY.emp_inv
    exact ⟨#[], fun w' => rfl, fun w' _ => first_nil _ (.inr ⟨_, _, _, rfl⟩) w', by simp, fun i c hc => by simp at hc⟩
  | ro xs =>
    cases hr
    obtain ⟨sz', A, c, val, rfl, h1, h2, h3, h4⟩ := hY.ro_data
    rcases Nat.eq_zero_or_pos ys.length with h0 | h0
    · have : ys = [] := List.eq_nil_of_length_eq_zero h0
      subst this
      refine ⟨#[], fun w' => rfl, fun w' _ => first_nil _ ?_ w', by simp, fun i c hc => by simp at hc⟩
      cases A
      · exact .inl ⟨_, _, rfl⟩
      · exact .inr ⟨_, _, _, rfl⟩
    · obtain rfl : sz' = sz := by
        have hm : ys[0] ∈ ys := List.getElem_mem (by omega)
        rw [← h2 _ hm, hlen _ hm]
      obtain ⟨b, o, rfl, h5⟩ := h3 h0
      obtain ⟨C, c1, c2⟩ := first_ok (P := P) (imm := imm) (L := L) (w := w) (len := ys.length) (cap := c) hlen (fun i j cs a hi hj => by
        have hil := (List.getElem?_eq_some_iff.1 hi).1
        have hjl : j < sz' := by rw [← hlen cs (List.mem_of_getElem? hi)]; exact (List.getElem?_eq_some_iff.1 hj).1
        exact ⟨val i j, cell_of_imm hI (h5 i j hil hjl), .of (h4 i j cs a hi hj)⟩)
      exact ⟨C, fun w' => rfl, c1, c2⟩
  | own r u s n =>
    simp only [items, Pr.run] at hr
    cases hg : h.get (.r r) with
    | row u' sz' xs =>
      rw [hg] at hr
      simp only at hr
      split at hr
      case isFalse => cases hr
      rename_i hc
      obtain ⟨rfl, rfl, hle⟩ := hc
      cases hr
      obtain ⟨l, a, hl, k2, k3, k4, rfl⟩ := hY.own_inv
      obtain ⟨arr, T, m1, m2, m3, m4, m5⟩ := hI.row_data hg hl
      have hlen' : ((xs.drop s).take n).length = n := by simp; omega
      rcases Nat.eq_zero_or_pos n with h0 | h0
      · subst h0
        exact ⟨#[], fun w' => rfl, fun w' _ => first_nil _ (.inr ⟨_, _, _, rfl⟩) w', by simp, fun i c hc => by simp at hc⟩
      · rw [k3 (by omega)]
        obtain ⟨C, c1, c2⟩ := first_ok (P := P) (imm := imm) (L := L) (w := w) (b := l.blk) (o := l.off + s * l.sz) (len := n) (cap := l.cap - s) hlen (fun i j cs b hi hj => by
          rw [List.getElem?_take] at hi
          split at hi
          case isFalse => cases hi
          rw [List.getElem?_drop] at hi
          obtain ⟨x, hx, hr⟩ := (m5 (s + i) cs hi).2 j b hj
          refine ⟨x, ?_, hr⟩
          rw [cell_of_block m2, m1, show l.off + s * sz' + i * sz' + j = l.off + (s + i) * sz' + j by rw [Nat.add_mul]; omega]
          exact hx)
        rw [hlen'] at c1 ⊢
        exact ⟨C, fun w' => rfl, c1, c2⟩
    | _ => rw [hg] at hr; cases hr
  | v x =>
    obtain ⟨rfl, _⟩ := hY.v_inv
    cases y with
    | string s =>
      simp only [items] at hr
      split at hr
      case isFalse => cases hr
      rename_i hs; subst hs
      cases hr
      refine ⟨s.data.map fun b => .int .u8 b.toNat, fun w' => ?_, fun w' _ => ?_, by simp, fun i c hc => ?_⟩
      · simp [Builtin.lenOf]
      · simp only [Builtin.firstCells, Sem.run_pure, List.length_map, Array.length_toList]
        have : (s.extract 0 s.data.size).data = s.data := by
          rw [ByteArray.data_extract]; simp
        rw [this]
      · rw [List.getElem?_map, Option.map_eq_some_iff] at hc
        obtain ⟨b, hb, rfl⟩ := hc
        refine ⟨rfl, fun j a ha => ?_⟩
        cases j with
        | zero =>
          cases ha
          refine ⟨.int .u8 b.toNat, ?_, .of (.v rfl)⟩
          rw [Array.getElem?_map]
          simp only [Array.getElem?_toList] at hb
          simp [hb]
        | succ j => simp at ha
    | _ => simp only [items] at hr; cases hr
  | _ => simp only [items] at hr; cases hr

end
end Go.Pv

namespace Go.Pv
open Go

section
variable {P : Program}

/-- Room is left: the cells go behind the length. -/
theorem append_room {w : World} {t tx ty e : TypeId} {i : TypeInfo} (ht : P.underlying t = some (.slice e)) (hi : P.info? e = some i) (hk : (∃ e', P.underlying tx = some (.slice e')) ∨ P.underlying tx = some .string)
    {a : Addr} {sLen sCap n : Nat} {x : Value} {C : Array Value} {w' : World} (hlen : ∀ w' : World, (Builtin.lenOf x).run P w' = .ok n w') (hc : (Builtin.firstCells i.size n x).run P w = .ok C w)
    (hroom : sLen + n ≤ sCap) (hst : (storeCells (a.add (sLen * i.size)) C.toList).run P w = .ok () w') :
    (Builtin.append_ #[t, tx] ty #[.slice (some a) sLen sCap, x]).run P w = .ok (.slice (some a) (sLen + n) sCap) w' := by
  rcases hk with ⟨e', hk⟩ | hk <;> simp [Builtin.append_, run_underlying ht, run_underlying hk, sizeOf, typeInfo, hi, hlen, hroom, hc, hst]

theorem append_room_nil {w : World} {t tx ty e : TypeId} {i : TypeInfo} (ht : P.underlying t = some (.slice e)) (hi : P.info? e = some i) (hk : (∃ e', P.underlying tx = some (.slice e')) ∨ P.underlying tx = some .string)
    {sLen sCap n : Nat} {x : Value} {C : Array Value} (hlen : ∀ w' : World, (Builtin.lenOf x).run P w' = .ok n w') (hc : (Builtin.firstCells i.size n x).run P w = .ok C w)
    (hroom : sLen + n ≤ sCap) : (Builtin.append_ #[t, tx] ty #[.slice none sLen sCap, x]).run P w = .ok (.slice none (sLen + n) sCap) w := by
  rcases hk with ⟨e', hk⟩ | hk <;> simp [Builtin.append_, run_underlying ht, run_underlying hk, sizeOf, typeInfo, hi, hlen, hroom, hc]

/-- None is left: a new row. -/
theorem append_grow {w : World} {t tx ty e : TypeId} {i : TypeInfo} {z : Value} (ht : P.underlying t = some (.slice e)) (hi : P.info? e = some i) (hz : i.zero = some z) (hk : (∃ e', P.underlying tx = some (.slice e')) ∨ P.underlying tx = some .string)
    {base : Option Addr} {sLen sCap n : Nat} {x : Value} {A C : Array Value} (hA : (Builtin.firstCells i.size sLen (.slice base sLen sCap)).run P w.drew = .ok A w.drew)
    (hlen : ∀ w' : World, (Builtin.lenOf x).run P w' = .ok n w') (hc : (Builtin.firstCells i.size n x).run P w.drew = .ok C w.drew)
    (hg : sCap < sLen + n) (h63 : ((sLen + n : Nat) : Int) ≤ 9223372036854775807) (hfit : Builtin.nextslicecap (sLen + n) sCap * i.bytes ≤ 281474976710656) :
    (Builtin.append_ #[t, tx] ty #[.slice base sLen sCap, x]).run P w =
      .ok (.slice (some ⟨w.heap.size, 0, none⟩) (sLen + n) (grownCap w (sLen + n) sCap e)) (w.drew.alloc (.cells (A ++ C ++ Builtin.zeroCells z.cells (grownCap w (sLen + n) sCap e - (sLen + n))) e)) := by
  have hn : ¬ (sLen + n ≤ sCap) := by omega
  have h63' : ¬ (9223372036854775807 < ((sLen : Int) + (n : Int))) := by omega
  have h48' : ¬ (281474976710656 < Builtin.nextslicecap (sLen + n) sCap * i.bytes) := by omega
  rcases hk with ⟨e', hk⟩ | hk <;>
    simp [Builtin.append_, run_underlying ht, run_underlying hk, sizeOf, typeInfo, zeroValue, hi, hz, hlen, hn, h63', h48', Question.forced, hc, hA, newRow, grownCap]
end

section
variable {P : Program} {imm : Imm} {L : Locs} {h : Hp} {w : World}

/-- Cells of a row written: the row's object turned. -/
theorem rowSet_ok (hI : Inv imm L h w) {r u sz u0 : Nat} {xs : List (List AV)} {l : Loc} (hg : h.get (.r r) = .row u sz xs) (hl : L u = some l) {L' : Locs} (hll : LLe L L') (hn : ∀ v, h.nx ≤ v → L' v = none) (hN : ∀ v, ¬ v = u0 → L' v = L v)
    {u2 off : Nat} {l2 : Loc} {xs' : List (List AV)} {news : List Value} (hl2 : L' u2 = some l2) (hb : l2.blk = l.blk) (hob : ObRel imm L' (w.setCells l.blk off news) (.row u2 sz xs')) :
    Inv imm L' (h.set (.r r) (.row u2 sz xs')) (w.setCells l.blk off news) ∧ Step (· = u0) imm L h w imm L' (h.set (.r r) (.row u2 sz xs')) (w.setCells l.blk off news) := by
  have hnd : h.get (.r r) ≠ .dead := by rw [hg]; simp
  have hmk : ∀ v m, (Ob.row u2 sz xs').mark = some v → L' v = some m → m.blk = l.blk := fun v m hv hm => by cases hv; rw [hl2] at hm; cases hm; exact hb
  have hgm : (h.get (.r r)).mark = some u := by rw [hg]; rfl
  obtain ⟨r1, r2, r3, r4⟩ := setCells_rest l.blk news off w
  refine ⟨?_, ?_⟩
  · exact hI.upd (x := .r r) (ob := .row u2 sz xs') (B := l.blk) hll hn (Hp.nx_set ..) (Hp.get_set _ hnd) (fun z hz => Hp.get_set_ne h _ z _ hz) hob
      (fun b _ hb' => heap_setCells_ne _ _ hb' _ _ _) hmk (hI.free (.r r) u l hgm hl) (fun z v m hz hv hm => hI.apart z (.r r) v u m l hz hv hgm hm hl)
  · exact Step.upd hI (x := .r r) (ob := .row u2 sz xs') (B := l.blk) hll (fun v hv => hN v hv) (Hp.get_set _ hnd) (fun z hz => Hp.get_set_ne h _ z _ hz)
      (fun b _ hb' => heap_setCells_ne _ _ hb' _ _ _) hmk (.inl ⟨.r r, u, l, hgm, hl, rfl⟩) r1 r2 r3 (by omega)

/-- An object of the heap that moves into a new block. -/
theorem fresh_ok (hI : Inv imm L h w) {u : Nat} {x : Ref} {h' : Hp} {ob : Ob} {o : Obj} {l : Loc} (hu : L u = none) (hlt : u < h.nx) (hm : ob.mark = some u) (hb : l.blk = w.heap.size)
    (hnx : h'.nx = h.nx) (hgx : h'.get x = ob) (hgn : ∀ z, z ≠ x → h'.get z = h.get z)
    (hob : ∀ L' w', LLe L L' → L' u = some l → w'.heap[w.heap.size]? = some o → ObRel imm L' w' ob) (w' : World) (hw : w'.heap = (w.alloc o).heap) (hos : w'.os = w.os) (ht : w'.tape = w.tape) (hout : w'.output = w.output) :
    ∃ L', L' u = some l ∧ LLe L L' ∧ Inv imm L' h' w' ∧ Step (· = u) imm L h w imm L' h' w' := by
  let L' : Locs := fun v => if v = u then some l else L v
  have hle : LLe L L' := fun v m hv => by
    show (if v = u then some l else L v) = some m
    by_cases e : v = u
    · subst e; rw [hu] at hv; cases hv
    · rw [if_neg e]; exact hv
  have hLu : L' u = some l := if_pos rfl
  have hk : ∀ b, b < w.heap.size → b ≠ w.heap.size → w'.heap[b]? = w.heap[b]? := fun b hb _ => by rw [hw]; exact heap_alloc_old w o b hb
  have hmk : ∀ v m, ob.mark = some v → L' v = some m → m.blk = w.heap.size := fun v m hv hm' => by rw [hm] at hv; cases hv; rw [hLu] at hm'; cases hm'; exact hb
  refine ⟨L', hLu, hle, ?_, ?_⟩
  · refine hI.upd (x := x) (ob := ob) (B := w.heap.size) hle (fun v hv => ?_) hnx hgx hgn ?_ hk hmk (hI.fresh_imm (Nat.le_refl _)) (fun z v m _ hv hm' => ?_)
    · show (if v = u then some l else L v) = none
      rw [if_neg (by omega)]; exact hI.nx v hv
    · exact hob L' w' hle hLu (by rw [hw]; exact heap_alloc_new w o)
    · obtain ⟨m', h1, h2⟩ := (hI.obs z).loc hv
      rw [hm'] at h1; cases h1
      omega
  · exact Step.upd hI (x := x) (ob := ob) (B := w.heap.size) hle (fun v hv => if_neg hv) hgx hgn hk hmk (.inr (Nat.le_refl _)) hos ht hout (by rw [hw]; simp)

/-- The elements of a row whose cells from k on are written. -/
theorem row_cells {sz k o : Nat} {arr C : Array Value} {xs ys : List (List AV)} (hx : ∀ i cs, xs[i]? = some cs → cs.length = sz ∧ ∀ j a, cs[j]? = some a → ∃ x, arr[o + i * sz + j]? = some x ∧ Rel imm L a x)
    (hy : CellsOf imm L sz ys C) (hk : o + (k + ys.length) * sz ≤ arr.size) {i : Nat} {c : List AV} (hi : (k ≤ i ∧ i < k + ys.length ∧ ys[i - k]? = some c) ∨ ((i < k ∨ k + ys.length ≤ i) ∧ xs[i]? = some c)) :
    c.length = sz ∧ ∀ j a, c[j]? = some a → ∃ x, (setArr arr (o + k * sz) C.toList)[o + i * sz + j]? = some x ∧ Rel imm L a x := by
  have hcl : C.toList.length = ys.length * sz := by rw [Array.length_toList]; exact hy.1
  have hmul : (k + ys.length) * sz = k * sz + ys.length * sz := Nat.add_mul ..
  rcases hi with ⟨h1, h2, h3⟩ | ⟨h1, h3⟩
  · obtain ⟨hl, hc⟩ := hy.2 _ _ h3
    refine ⟨hl, fun j a ha => ?_⟩
    have hj : j < sz := by rw [← hl]; exact (List.getElem?_eq_some_iff.1 ha).1
    obtain ⟨x, hx', hr⟩ := hc j a ha
    refine ⟨x, ?_, hr⟩
    have e : i * sz = k * sz + (i - k) * sz := by rw [← Nat.add_mul]; congr 1; omega
    have hlt := idx_lt (n := ys.length) (i := i - k) (j := j) (sz := sz) (by omega) hj
    rw [getElem_setArr _ _ _ _ (by omega), if_pos (by omega), show o + i * sz + j - (o + k * sz) = (i - k) * sz + j by omega, Array.getElem?_toList]
    exact hx'
  · obtain ⟨hl, hc⟩ := hx _ _ h3
    refine ⟨hl, fun j a ha => ?_⟩
    have hj : j < sz := by rw [← hl]; exact (List.getElem?_eq_some_iff.1 ha).1
    obtain ⟨x, hx', hr⟩ := hc j a ha
    refine ⟨x, ?_, hr⟩
    rw [getElem_setArr _ _ _ _ (by omega), if_neg, hx']
    rcases h1 with h1 | h1
    · have : (i + 1) * sz ≤ k * sz := Nat.mul_le_mul_right _ (by omega)
      rw [Nat.succ_mul] at this
      omega
    · have : (k + ys.length) * sz ≤ i * sz := Nat.mul_le_mul_right _ h1
      omega

/-- The elements one behind the other. -/
theorem CellsOf.append {sz : Nat} {xs ys : List (List AV)} {A B : Array Value} (ha : CellsOf imm L sz xs A) (hb : CellsOf imm L sz ys B) : CellsOf imm L sz (xs ++ ys) (A ++ B) := by
  refine ⟨by simp [ha.1, hb.1, Nat.add_mul], fun i c hi => ?_⟩
  rw [List.getElem?_append] at hi
  split at hi
  · rename_i hlt
    refine ⟨(ha.2 i c hi).1, fun j a hj => ?_⟩
    obtain ⟨x, hx, hr⟩ := (ha.2 i c hi).2 j a hj
    refine ⟨x, ?_, hr⟩
    rw [Array.getElem?_append, if_pos (Array.getElem?_eq_some_iff.1 hx).1]; exact hx
  · rename_i hge
    refine ⟨(hb.2 _ c hi).1, fun j a hj => ?_⟩
    obtain ⟨x, hx, hr⟩ := (hb.2 _ c hi).2 j a hj
    refine ⟨x, ?_, hr⟩
    have e : i * sz = xs.length * sz + (i - xs.length) * sz := by rw [← Nat.add_mul]; congr 1; omega
    rw [Array.getElem?_append, if_neg (by rw [ha.1]; omega), ha.1, show i * sz + j - xs.length * sz = (i - xs.length) * sz + j by omega]; exact hx

theorem CellsOf.nil {sz : Nat} : CellsOf imm L sz [] #[] := ⟨by simp, fun i c h => by simp at h⟩

theorem CellsOf.pad {sz : Nat} {xs : List (List AV)} {A : Array Value} (ha : CellsOf imm L sz xs A) (B : Array Value) {i : Nat} {c : List AV} (hi : xs[i]? = some c) :
    c.length = sz ∧ ∀ j a, c[j]? = some a → ∃ x, (A ++ B)[i * sz + j]? = some x ∧ Rel imm L a x := by
  refine ⟨(ha.2 i c hi).1, fun j a hj => ?_⟩
  obtain ⟨x, hx, hr⟩ := (ha.2 i c hi).2 j a hj
  refine ⟨x, ?_, hr⟩
  rw [Array.getElem?_append, if_pos (Array.getElem?_eq_some_iff.1 hx).1]; exact hx

theorem grow_ok (hI : Inv imm L h w) {x : Ref} {h' : Hp} {u sz cap : Nat} {xs : List (List AV)} {A B : Array Value} {T : TypeId} (hu : L u = none) (hlt : u < h.nx)
    (hnx : h'.nx = h.nx) (hgx : h'.get x = .row u sz xs) (hgn : ∀ z, z ≠ x → h'.get z = h.get z) (hA : CellsOf imm L sz xs A) (hcap : xs.length ≤ cap) (hB : A.size + B.size = cap * sz)
    (w' : World) (hw : w'.heap = (w.alloc (.cells (A ++ B) T)).heap) (hos : w'.os = w.os) (ht : w'.tape = w.tape) (hout : w'.output = w.output) {r : Nat} :
    ∃ L', LLe L L' ∧ Rel imm L' (.own r u 0 xs.length) (.slice (some ⟨w.heap.size, 0, none⟩) xs.length cap) ∧ Inv imm L' h' w' ∧ Step (· = u) imm L h w imm L' h' w' := by
  obtain ⟨L', h1, h0, h2, h3⟩ := fresh_ok hI (x := x) (h' := h') (ob := .row u sz xs) (o := .cells (A ++ B) T) (l := ⟨w.heap.size, 0, cap, sz⟩) hu hlt rfl rfl hnx hgx hgn
    (fun L' w' hle hl hw => ⟨_, A ++ B, T, hl, rfl, hw, by simp [hB], hcap, fun i c hi => by
      obtain ⟨k1, k2⟩ := hA.pad B hi
      refine ⟨k1, fun j a ha => ?_⟩
      obtain ⟨y, hy, hr⟩ := k2 j a ha
      exact ⟨y, by simpa using hy, hr.mono (.refl _) hle⟩⟩) w' hw hos ht hout
  refine ⟨L', h0, ?_, h2, h3⟩
  have := Rel.own (imm := imm) (L := L') (r := r) (u := u) (s := 0) (n := xs.length) (l := ⟨w.heap.size, 0, cap, sz⟩) (a := ⟨w.heap.size, 0, none⟩) h1 (by simpa using hcap) (fun _ => by simp) rfl
  simpa using this
end
end Go.Pv

namespace Go.Pv
open Go

section
variable {P : Program} {imm : Imm} {L : Locs} {h : Hp} {w : World}

theorem zeroCells_size (z : Array Value) (n : Nat) : (Builtin.zeroCells z n).size = n * z.size := by simp [Builtin.zeroCells]

/-- A result of an operation that turns memory. -/
theorem OpOK.mk' {imm' : Imm} {L' : Locs} {h' : Hp} {w' : World} {u : Nat} {ef : Eff} {x : Value} {r : Result Next} (hr : r = .ok (.value x) w') (hv : Rel imm' L' ef.v x) (hh : h.app ef = h') (hI : Inv imm' L' h' w') (hs : Step (· = u) imm L h w imm' L' h' w') : OpOK imm L h w u ef r :=
  ⟨_, _, imm', L', hr, .inl ⟨x, rfl, hv⟩, by rw [hh]; exact hI, by rw [hh]; exact hs⟩

theorem kinds {u : TypeId} (hk : (isSliceT P u || isStringT P u) = true) : (∃ e', P.underlying u = some (.slice e')) ∨ P.underlying u = some .string := by
  simp only [isSliceT, elemOfSlice, isStringT, Bool.or_eq_true] at hk
  rcases hk with hk | hk
  · split at hk
    · exact .inl ⟨_, by assumption⟩
    · cases hk
  · split at hk
    · exact .inr (by assumption)
    · cases hk

theorem store_row {b o : Nat} {arr : Array Value} {T : TypeId} (hb : w.heap[b]? = some (.cells arr T (0, 0))) (vs : List Value) (h1 : ∀ v ∈ vs, v.oneCell' = true) (ho : o + vs.length ≤ arr.size) :
    (storeCells ⟨b, o, none⟩ vs).run P w = .ok () (w.setCells b o vs) := by
  have := run_storeCells_cells (P := P) b o vs 0 w (fun j hj => by
      rw [Nat.add_zero, cell_of_block hb, Array.getElem?_eq_getElem (by omega)]; rfl) (fun j _ => by simp [World.frozen?, hb]) h1
  simpa using this

theorem app_ok (hI : Inv imm L h w) {t tx ty e : TypeId} {i : TypeInfo} {zs : List AV} {E : OpE} {X Y : AV} {x y : Value} {ef : Eff} (ht : P.underlying t = some (.slice e)) (hi : P.info? e = some i)
    (hz : ((zeroOf P e).bind fun z => cells (ofV z)) = some zs) (hzl : zs.length = i.size) (hk : (isSliceT P tx || isStringT P tx) = true) (hu : L E.u = none) (hlt : E.u < h.nx)
    (hX : Rel imm L X x) (hY : Rel imm L Y y) (hr : ((items i.size Y).bind fun ys => appA E i.size i.bytes X ys).run h = some ef) :
    OpOK imm L h w E.u ef (((fun v => Next.value v) <$> Builtin.append_ #[t, tx] ty #[x, y]).run P w) := by
  rw [run_pbind, Option.bind_eq_some_iff] at hr
  obtain ⟨ys, hys, hr⟩ := hr
  unfold appA at hr
  split at hr
  case isFalse => cases hr
  rename_i hall
  have hylen : ∀ c ∈ ys, c.length = i.size := fun c hc => by
    have := (List.all_eq_true.1 hall) c hc
    simp only [Bool.and_eq_true, beq_iff_eq] at this
    exact this.1
  obtain ⟨C, hC1, hC2, hC3⟩ := items_ok (P := P) hI hY hys hylen
  have hone := hC3.one hall
  obtain ⟨it, z, z1, z2, z3⟩ := zero_cells (imm := imm) (L := L) hz
  rw [hi] at z1; cases z1
  have hzs : z.cells.size = i.size := by rw [← z3.1]; exact hzl
  have fin {r : Result Value} {v : Value} {w' : World} (h : (Builtin.append_ #[t, tx] ty #[x, y]).run P w = .ok v w') : (((fun v => Next.value v) <$> Builtin.append_ #[t, tx] ty #[x, y]).run P w) = .ok (.value v) w' := by
    simp [h]
  have hgrow {base : Option Addr} {sLen sCap : Nat} {xs : List (List AV)} {A : Array Value} {r : Nat} {xr : Ref} {h' : Hp} (hx : x = .slice base sLen sCap) (hA : ∀ w' : World, w'.heap = w.heap → (Builtin.firstCells i.size sLen x).run P w' = .ok A w') (hA2 : CellsOf imm L i.size xs A) (hxl : xs.length = sLen)
      (hg : sCap < sLen + ys.length) (hroom : sLen + ys.length ≤ roomMax ∧ (sLen + ys.length) * i.bytes ≤ roomMax) (hnx : h'.nx = h.nx) (hgx : h'.get xr = .row E.u i.size (xs ++ ys)) (hgn : ∀ z, z ≠ xr → h'.get z = h.get z) (hef : ef.v = .own r E.u 0 (sLen + ys.length)) (hh : h.app ef = h') :
      OpOK imm L h w E.u ef (((fun v => Next.value v) <$> Builtin.append_ #[t, tx] ty #[x, y]).run P w) := by
    have hrm : roomMax = 140737488355328 := rfl
    have hrun := append_grow (P := P) (w := w) (ty := ty) ht hi z2 (kinds hk) (base := base) (sLen := sLen) (sCap := sCap) (n := ys.length) (x := y) (A := A) (C := C) (by rw [← hx]; exact hA _ rfl) hC1 (hC2 _ rfl) hg (by omega) (growslice_fits hg (by omega))
    rw [← hx] at hrun
    have hcap := grownCap_ge w (sLen + ys.length) sCap e
    have hAC := hA2.append hC3
    obtain ⟨L', g1, g2, g3, g4⟩ := grow_ok hI (x := xr) (h' := h') (cap := grownCap w (sLen + ys.length) sCap e) (A := A ++ C) (B := Builtin.zeroCells z.cells (grownCap w (sLen + ys.length) sCap e - (sLen + ys.length))) (T := e) hu hlt hnx hgx hgn hAC (by simp [hxl]; omega)
      (by rw [hAC.1, zeroCells_size, hzs, ← Nat.add_mul]; simp only [List.length_append, hxl]; congr 1; omega) (w.drew.alloc (.cells (A ++ C ++ Builtin.zeroCells z.cells (grownCap w (sLen + ys.length) sCap e - (sLen + ys.length))) e)) rfl rfl rfl rfl (r := r)
    refine OpOK.mk' (h' := h') (fin (r := .ok undef w) hrun) ?_ hh g3 g4
    rw [hef]
    simpa [hxl] using g2
  cases X with
  | nils =>
    obtain ⟨Ad, rfl⟩ := hX.nils_inv
    cases Ad with
    | none =>
      simp only at hr
      split at hr
      · rename_i h0
        cases hr
        have hys0 : ys = [] := List.eq_nil_of_length_eq_zero h0
        subst hys0
        exact .pure hI (fin (r := .ok undef w) (append_room_nil ht hi (kinds hk) hC1 (hC2 w rfl) (by simp))) (by simpa using hX)
      · split at hr
        case isFalse => cases hr
        rename_i h0 hroom
        cases hr
        exact hgrow (xs := []) (A := #[]) (xr := .r h.rs.length) (h' := h.lay (.row E.u i.size ys)) (r := E.nr) rfl (fun w' _ => first_nil _ (.inl ⟨_, _, rfl⟩) w') .nil rfl (by omega) (by simpa using hroom) rfl (h.get_lay _) (fun z hz => h.get_lay_ne _ z hz) (by simp) (h.app_lay _ _)
    | some ad =>
      simp only at hr
      split at hr
      · rename_i h0
        cases hr
        have hys0 : ys = [] := List.eq_nil_of_length_eq_zero h0
        subst hys0
        have hC0 : C = #[] := by have := hC3.1; simp at this; exact this
        subst hC0
        exact .pure hI (fin (r := .ok undef w) (append_room ht hi (kinds hk) hC1 (hC2 w rfl) (by simp) (by simp [storeCells]))) (by simpa using hX)
      · split at hr
        case isFalse => cases hr
        rename_i h0 hroom
        cases hr
        exact hgrow (xs := []) (A := #[]) (xr := .r h.rs.length) (h' := h.lay (.row E.u i.size ys)) (r := E.nr) rfl (fun w' _ => first_nil _ (.inr ⟨_, _, _, rfl⟩) w') .nil rfl (by omega) (by simpa using hroom) rfl (h.get_lay _) (fun z hz => h.get_lay_ne _ z hz) (by simp) (h.app_lay _ _)
  | emp =>
    obtain ⟨b, o, rfl⟩ := hX.emp_inv
    simp only at hr
    split at hr
    · rename_i h0
      cases hr
      have hys0 : ys = [] := List.eq_nil_of_length_eq_zero h0
      subst hys0
      have hC0 : C = #[] := by have := hC3.1; simp at this; exact this
      subst hC0
      exact .pure hI (fin (r := .ok undef w) (append_room ht hi (kinds hk) hC1 (hC2 w rfl) (by simp) (by simp [storeCells]))) (by simpa using hX)
    · split at hr
      case isFalse => cases hr
      rename_i h0 hroom
      cases hr
      exact hgrow (xs := []) (A := #[]) (xr := .r h.rs.length) (h' := h.lay (.row E.u i.size ys)) (r := E.nr) rfl (fun w' _ => first_nil _ (.inr ⟨_, _, _, rfl⟩) w') .nil rfl (by omega) (by simpa using hroom) rfl (h.get_lay _) (fun z hz => h.get_lay_ne _ z hz) (by simp) (h.app_lay _ _)
  | own r u s n =>
    simp only [Pr.run] at hr
    cases hg : h.get (.r r) with
    | row u' sz' xs =>
      rw [hg] at hr
      simp only at hr
      split at hr
      case isFalse => cases hr
      rename_i hc
      obtain ⟨rfl, rfl, hle⟩ := hc
      obtain ⟨l, a, hl, k2, k3, k4, rfl⟩ := hX.own_inv
      obtain ⟨arr, T, m1, m2, m3, m4, m5⟩ := hI.row_data hg hl
      obtain ⟨A, hA1, hA2, hA3⟩ := items_ok (P := P) hI hX (ys := (xs.drop s).take n) (sz := i.size) (by simp [items, Pr.run, hg, hle]) (fun c hc => by
        obtain ⟨j, hj⟩ := List.mem_iff_getElem?.1 (List.mem_of_mem_drop (List.mem_of_mem_take hc))
        exact (m5 j c hj).1)
      have hdl : ((xs.drop s).take n).length = n := by simp; omega
      have hstore (hroom : n + ys.length ≤ l.cap - s) : (storeCells (a.add (n * i.size)) C.toList).run P w = .ok () (w.setCells l.blk (l.off + (s + n) * i.size) C.toList) := by
        rcases Nat.eq_zero_or_pos ys.length with h0 | h0
        · have hC0 : C = #[] := by have := hC3.1; rw [h0] at this; simp at this; exact this
          subst hC0
          simp [storeCells, World.setCells]
        · rw [k3 (by omega), Addr.add_lit]
          rw [show l.off + s * l.sz + n * i.size = l.off + (s + n) * i.size by rw [m1, Nat.add_mul]; omega]
          refine store_row m2 _ (fun v hv => hone v hv) ?_
          rw [Array.length_toList, hC3.1, Nat.add_assoc, ← Nat.add_mul]
          exact Nat.le_trans (Nat.add_le_add_left (Nat.mul_le_mul_right _ (by omega)) _) m3
      have hkr : ∀ (k : Nat), k ≤ l.cap → l.off + k * i.size ≤ arr.size := fun k hk => Nat.le_trans (Nat.add_le_add_left (Nat.mul_le_mul_right _ hk) _) m3
      split at hr
      · rename_i hin
        cases hr
        have hroom : n + ys.length ≤ l.cap - s := by omega
        have hob : ObRel imm L (w.setCells l.blk (l.off + (s + n) * i.size) C.toList) (.row u i.size (xs.take (s + n) ++ ys ++ xs.drop (s + n + ys.length))) := by
          refine ⟨l, _, T, hl, m1, heap_setCells _ _ _ _ _ _ _ m2, by rw [size_setArr]; exact m3, by simp; omega, fun j c hj => row_cells m5 hC3 (hkr _ (by omega)) ?_⟩
          rw [List.append_assoc, List.getElem?_append] at hj
          have htl : (xs.take (s + n)).length = s + n := by simp; omega
          rw [htl] at hj
          split at hj
          · rename_i hlt
            rw [List.getElem?_take, if_pos hlt] at hj
            exact .inr ⟨.inl hlt, hj⟩
          · rw [List.getElem?_append] at hj
            split at hj
            · exact .inl ⟨by omega, by omega, hj⟩
            · rw [List.getElem?_drop] at hj
              exact .inr ⟨.inr (by omega), by rw [← hj]; congr 1; omega⟩
        obtain ⟨g1, g2⟩ := rowSet_ok (u0 := E.u) hI hg hl (.refl _) hI.nx (fun _ _ => rfl) hl rfl hob
        refine OpOK.mk' (h' := h.set (.r r) _) (fin (r := .ok undef w) (append_room ht hi (kinds hk) hC1 (hC2 w rfl) hroom (hstore hroom))) ?_ (Hp.app_one ..) g1 g2
        exact .own hl (by omega) k3 k4
      · split at hr
        case isFalse => cases hr
        rename_i hin hrm
        cases hr
        have hnd : h.get (.r r) ≠ .dead := by rw [hg]; simp
        by_cases hroom : n + ys.length ≤ l.cap - s
        · let l2 : Loc := ⟨l.blk, l.off + s * l.sz, l.cap - s, i.size⟩
          let L' : Locs := fun v => if v = E.u then some l2 else L v
          have hle : LLe L L' := fun v m hv => by
            show (if v = E.u then some l2 else L v) = some m
            by_cases e : v = E.u
            · subst e; rw [hu] at hv; cases hv
            · rw [if_neg e]; exact hv
          have hl2 : L' E.u = some l2 := if_pos rfl
          have hob : ObRel imm L' (w.setCells l.blk (l.off + (s + n) * i.size) C.toList) (.row E.u i.size ((xs.drop s).take n ++ ys)) := by
            refine ⟨l2, _, T, hl2, rfl, heap_setCells _ _ _ _ _ _ _ m2, ?_, by simp [l2]; omega, fun j c hj => ?_⟩
            · rw [size_setArr]
              show l.off + s * l.sz + (l.cap - s) * i.size ≤ arr.size
              rw [m1, Nat.add_assoc, ← Nat.add_mul]
              exact hkr _ (by omega)
            · have := row_cells (imm := imm) (L := L) (i := s + j) (c := c) m5 hC3 (k := s + n) (hkr _ (by omega)) (by
                rw [List.getElem?_append, hdl] at hj
                split at hj
                · rename_i hlt
                  rw [List.getElem?_take, if_pos hlt, List.getElem?_drop] at hj
                  exact .inr ⟨.inl (by omega), hj⟩
                · have := (List.getElem?_eq_some_iff.1 hj).1
                  exact .inl ⟨by omega, by omega, by rw [← hj]; congr 1; omega⟩)
              refine ⟨this.1, fun k b hb => ?_⟩
              obtain ⟨v, hv, hrel⟩ := this.2 k b hb
              refine ⟨v, ?_, hrel.mono (.refl _) hle⟩
              show (setArr arr _ _)[l.off + s * l.sz + j * i.size + k]? = some v
              rw [m1, show l.off + s * i.size + j * i.size + k = l.off + (s + j) * i.size + k by rw [Nat.add_mul]; omega]
              exact hv
          obtain ⟨g1, g2⟩ := rowSet_ok (u0 := E.u) (L' := L') hI hg hl hle (fun v hv => by
            show (if v = E.u then some l2 else L v) = none
            rw [if_neg (by omega)]; exact hI.nx v hv) (fun v hv => if_neg hv) hl2 rfl hob
          refine OpOK.mk' (h' := h.set (.r r) _) (fin (r := .ok undef w) (append_room ht hi (kinds hk) hC1 (hC2 w rfl) hroom (hstore hroom))) ?_ (Hp.app_one ..) g1 g2
          have := Rel.own (imm := imm) (L := L') (r := r) (u := E.u) (s := 0) (n := n + ys.length) (l := l2) (a := a) hl2 (by simpa [l2] using hroom) (fun _ => by rw [k3 (by omega)]; simp [l2]) k4
          exact this
        · exact hgrow (xs := (xs.drop s).take n) (A := A) (xr := .r r) (h' := h.set (.r r) (.row E.u i.size ((xs.drop s).take n ++ ys))) (r := r) rfl (fun w' hw' => by have := hA2 w' hw'; rw [hdl] at this; exact this) hA3 hdl (by omega) hrm (Hp.nx_set ..) (Hp.get_set _ hnd) (fun z hz => Hp.get_set_ne h _ z _ hz) rfl (Hp.app_one ..)
    | _ => rw [hg] at hr; cases hr
  | _ => simp only [Pr.run] at hr; cases hr
end
end Go.Pv

namespace Go.Pv
open Go

section
variable {P : Program} {imm : Imm} {L : Locs} {h : Hp} {w : World}

/-- What leads to nothing of the call's own stands for itself wherever the heap lies. -/
theorem cln_ro : ∀ (n : Nat) (a : AV) (x : Value), cln n a = true → Rel imm L a x → Ro imm a x
  | 0, _, _, h, _ => by cases h
  | n + 1, a, x, h, hr => by
    cases a with
    | v y => cases hr with | of h => exact h
    | nils => cases hr with | of h => exact h
    | emp => cases hr with | of h => exact h
    | ro xs => exact hr.ro_inv
    | rop cs o => exact hr.rop_inv
    | agg cs =>
      obtain ⟨arr, rfl, h1, h2⟩ := hr.agg_inv
      exact .agg h1 fun j a x ha hx => cln_ro n a x ((List.all_eq_true.1 h) a (List.mem_of_getElem? ha)) (h2 j a x ha hx)
    | tup cs =>
      obtain ⟨arr, rfl, h1, h2⟩ := hr.tup_inv
      exact .tup h1 fun j a x ha hx => cln_ro n a x ((List.all_eq_true.1 h) a (List.mem_of_getElem? ha)) (h2 j a x ha hx)
    | fn f cs =>
      obtain ⟨arr, rfl, h1, h2⟩ := hr.fn_inv
      exact .fn h1 fun j a x ha hx => cln_ro n a x ((List.all_eq_true.1 h) a (List.mem_of_getElem? ha)) (h2 j a x ha hx)
    | _ => cases h

/-- Zero cells, n times over. -/
theorem CellsOf.zeros {zs : List AV} {Z : Array Value} (hz : Rels imm L zs Z) (n : Nat) {A : Array Value} (hA : A = (Array.range (n * zs.length)).map fun i => Z[i % Z.size]!) : CellsOf imm L zs.length (List.replicate n zs) A := by
  subst hA
  refine ⟨by simp, fun i c hi => ?_⟩
  rw [List.getElem?_replicate] at hi
  split at hi
  case isFalse => cases hi
  rename_i hlt
  cases hi
  refine ⟨rfl, fun j a ha => ?_⟩
  have hj : j < zs.length := (List.getElem?_eq_some_iff.1 ha).1
  have hjz : j < Z.size := by rw [← hz.1]; exact hj
  refine ⟨Z[j], ?_, hz.2 j a _ ha (Array.getElem?_eq_getElem hjz)⟩
  have hm : (i * zs.length + j) % Z.size = j := by rw [← hz.1, Nat.mul_comm, Nat.mul_add_mod]; exact Nat.mod_eq_of_lt hj
  rw [Array.getElem?_map, Array.getElem?_range, if_pos (idx_lt hlt hj)]
  simp only [Option.map_some, hm]
  rw [getElem!_pos Z j hjz]

theorem clr_ok (hI : Inv imm L h w) {t ty e : TypeId} {sz : Nat} {zs : List AV} {E : OpE} {X : AV} {x : Value} {ef : Eff} {F : List AV} {o : Opd} (ht : P.underlying t = some (.slice e)) (hi : szOf P e = some sz)
    (hz : ((zeroOf P e).bind fun z => cells (ofV z)) = some zs) (hzl : zs.length = sz) (h0 : 0 < sz) (hone : zs.all one = true) (hX : Rel imm L X x) (hev : ev F o = X)
    (iso : Nat → List AV → Option AV) (hr : (aop iso E F (.clr sz zs o)).run h = some ef) :
    OpOK imm L h w E.u ef (((fun v => Next.value v) <$> Builtin.clear_ #[t] ty #[x]).run P w) := by
  simp only [aop, hev] at hr
  have fin {r : Result Value} {v : Value} {w' : World} (h : (Builtin.clear_ #[t] ty #[x]).run P w = .ok v w') : (((fun v => Next.value v) <$> Builtin.clear_ #[t] ty #[x]).run P w) = .ok (.value v) w' := by
    simp [h]
  cases X with
  | nils =>
    cases hr
    obtain ⟨A, rfl⟩ := hX.nils_inv
    cases A
    all_goals
      exact .pure hI (fin (r := .ok undef w) (v := .tuple #[]) (by simp [Builtin.clear_, run_underlying ht])) (.of .top)
  | emp =>
    cases hr
    obtain ⟨b, o, rfl⟩ := hX.emp_inv
    exact .pure hI (fin (r := .ok undef w) (v := .tuple #[]) (by simp [Builtin.clear_, run_underlying ht])) (.of .top)
  | own r u s n =>
    simp only [Pr.run] at hr
    cases hg : h.get (.r r) with
    | row u' sz' xs =>
      rw [hg] at hr
      simp only at hr
      split at hr
      case isFalse => cases hr
      rename_i hc
      obtain ⟨rfl, rfl, hle⟩ := hc
      cases hr
      obtain ⟨l, a, hl, k2, k3, k4, rfl⟩ := hX.own_inv
      obtain ⟨arr, T, m1, m2, m3, m4, m5⟩ := hI.row_data hg hl
      obtain ⟨it, z, z1, z2, z3⟩ := zero_cells (imm := imm) (L := L) hz
      have hC3 := CellsOf.zeros z3 n rfl
      rw [hzl] at hC3
      have h1 := hC3.one (by
        rw [List.all_eq_true]
        intro c hc
        rw [List.mem_replicate] at hc
        rw [hc.2, hone]; simp [hzl])
      have hlr : (List.replicate n zs).length = n := by simp
      have hkr : ∀ (k : Nat), k ≤ l.cap → l.off + k * sz' ≤ arr.size := fun k hk => Nat.le_trans (Nat.add_le_add_left (Nat.mul_le_mul_right _ hk) _) m3
      have hzc : (Builtin.zeroCells z.cells n) = (Array.range (n * zs.length)).map fun i => z.cells[i % z.cells.size]! := by
        rw [Builtin.zeroCells, z3.1]
      have hob : ObRel imm L (w.setCells l.blk (l.off + s * sz') (Builtin.zeroCells z.cells n).toList) (.row u sz' (xs.take s ++ List.replicate n zs ++ xs.drop (s + n))) := by
        refine ⟨l, _, T, hl, m1, heap_setCells _ _ _ _ _ _ _ m2, by rw [size_setArr]; exact m3, by simp; omega, fun j c hj => ?_⟩
        rw [hzc]
        rw [hzl]
        refine row_cells m5 hC3 (hkr _ (by rw [hlr]; omega)) ?_
        rw [hlr]
        rw [List.append_assoc, List.getElem?_append] at hj
        have htl : (xs.take s).length = s := by simp; omega
        rw [htl] at hj
        split at hj
        · rename_i hlt
          rw [List.getElem?_take, if_pos hlt] at hj
          exact .inr ⟨.inl hlt, hj⟩
        · rw [List.getElem?_append, hlr] at hj
          split at hj
          · exact .inl ⟨by omega, by omega, hj⟩
          · rw [List.getElem?_drop] at hj
            exact .inr ⟨.inr (by omega), by rw [← hj]; congr 1; omega⟩
      obtain ⟨g1, g2⟩ := rowSet_ok (u0 := E.u) hI hg hl (.refl _) hI.nx (fun _ _ => rfl) hl rfl hob
      have hzv : (zeroValue e).run P w = .ok z w := by simp [zeroValue, typeInfo, z1, z2]
      rcases Nat.eq_zero_or_pos n with hn | hn
      · subst hn
        have : (Builtin.zeroCells z.cells 0).toList = [] := by simp [Builtin.zeroCells]
        rw [this, World.setCells] at g1 g2
        exact OpOK.mk' (h' := h.set (.r r) _) (fin (r := .ok undef w) (v := .tuple #[]) (by simp [Builtin.clear_, run_underlying ht])) (.of .top) (Hp.app_one ..) g1 g2
      · have ka := k3 (by omega)
        subst ka
        have hst := store_row (P := P) (o := l.off + s * sz') m2 (Builtin.zeroCells z.cells n).toList (fun v hv => h1 v (by rw [hzc, hzl] at hv; exact hv)) (by
          rw [Array.length_toList, hzc]
          simp only [Array.size_map, Array.size_range]
          rw [hzl, Nat.add_assoc, ← Nat.add_mul]
          exact hkr _ (by omega))
        refine OpOK.mk' (h' := h.set (.r r) _) (fin (r := .ok undef w) (v := .tuple #[]) ?_) (.of .top) (Hp.app_one ..) g1 g2
        rw [← m1] at hst
        rw [← m1]
        obtain ⟨m, rfl⟩ : ∃ m, n = m + 1 := ⟨n - 1, by omega⟩
        simp [Builtin.clear_, run_underlying ht, hzv, hst]
    | _ => rw [hg] at hr; cases hr
  | _ => simp only [Pr.run] at hr; cases hr

theorem mks_ok (hI : Inv imm L h w) {t e : TypeId} {i : TypeInfo} {zs : List AV} {E : OpE} {k : Int} (ht : P.underlying t = some (.slice e)) (hi : P.info? e = some i)
    (hz : ((zeroOf P e).bind fun z => cells (ofV z)) = some zs) (hzl : zs.length = i.size) (h0 : 0 < i.size) (hu : L E.u = none) (hlt : E.u < h.nx)
    (hk : 0 ≤ k ∧ k.toNat ≤ roomMax ∧ k.toNat * i.bytes ≤ roomMax) :
    OpOK imm L h w E.u { v := .own E.nr E.u 0 k.toNat, nw := [.row E.u i.size (List.replicate k.toNat zs)] } (((fun v => Next.value v) <$> Instr.makeSlice t (.int .i64 k) (.int .i64 k)).run P w) := by
  obtain ⟨hk0, hk1, hk2⟩ := hk
  have hrm : roomMax = 140737488355328 := rfl
  rw [hrm] at hk1 hk2
  obtain ⟨it, z, z1, z2, z3⟩ := zero_cells (imm := imm) (L := L) hz
  rw [hi] at z1; cases z1
  have hb : (i.bytes : Int) * k ≤ 281474976710656 := by
    have : ((k.toNat * i.bytes : Nat) : Int) ≤ 140737488355328 := Int.ofNat_le.2 hk2
    rw [Int.natCast_mul, Int.toNat_of_nonneg hk0, Int.mul_comm] at this
    omega
  have hA : CellsOf imm L i.size (List.replicate k.toNat zs) ((Array.range (k.toNat * i.size)).map fun j => z.cells[j % z.cells.size]!) := by
    have := CellsOf.zeros z3 k.toNat rfl
    rwa [hzl] at this
  have hrun : (Instr.makeSlice t (.int .i64 k) (.int .i64 k)).run P w = .ok (.slice (some ⟨w.heap.size, 0, none⟩) k.toNat k.toNat) (w.alloc (.cells ((Array.range (k.toNat * i.size)).map fun j => z.cells[j % z.cells.size]!) e)) := by
    exact run_make w t e i z ht hi z2 .i64 .i64 k k hk0 (Int.le_refl _) hb (by omega)
  obtain ⟨L', g1, g2, g3, g4⟩ := grow_ok hI (x := .r h.rs.length) (h' := h.lay (.row E.u i.size (List.replicate k.toNat zs))) (cap := k.toNat) (A := (Array.range (k.toNat * i.size)).map fun j => z.cells[j % z.cells.size]!) (B := #[]) (T := e) hu hlt rfl (h.get_lay _) (fun z hz => h.get_lay_ne _ z hz) hA (by simp) (by simp)
    (w.alloc (.cells ((Array.range (k.toNat * i.size)).map fun j => z.cells[j % z.cells.size]!) e)) (by simp) rfl rfl rfl (r := E.nr)
  refine OpOK.mk' (h' := h.lay _) (x := .slice (some ⟨w.heap.size, 0, none⟩) k.toNat k.toNat) (by simp [hrun]) ?_ (h.app_lay _ _) g3 g4
  simpa using g2

theorem Rels.flat {sz n : Nat} {zs : List AV} {A : Array Value} (hl : zs.length = sz) (h : CellsOf imm L sz (List.replicate n zs) A) : Rels imm L (List.replicate n zs).flatten A := by
  have hfl : (List.replicate n zs).flatten.length = n * sz := by simp [hl]
  refine ⟨by rw [hfl, h.1]; simp, fun k a x ha hx => ?_⟩
  have hk : k < n * sz := by rw [← hfl]; exact (List.getElem?_eq_some_iff.1 ha).1
  obtain ⟨h1, h2, h3⟩ := idx_of hk
  have hget : ∀ (n : Nat) (i j : Nat), i < n → j < sz → (List.replicate n zs).flatten[i * sz + j]? = zs[j]? := fun n => by
    induction n with
    | zero => intro i j hi; omega
    | succ n ih =>
      intro i j hi hj
      rw [List.replicate_succ, List.flatten_cons, List.getElem?_append]
      cases i with
      | zero => rw [if_pos (by omega)]; simp
      | succ i =>
        rw [if_neg (by rw [Nat.succ_mul]; omega), ← ih i j (by omega) hj]
        congr 1
        rw [Nat.succ_mul, hl]; omega
  rw [h3, hget n _ _ h1 h2] at ha
  obtain ⟨y, hy, hr⟩ := (h.2 (k / sz) zs (by rw [List.getElem?_replicate, if_pos h1])).2 _ a ha
  rw [← h3, hx] at hy
  cases hy; exact hr

theorem fillA_length : ∀ (l : List (Nat × Nat × AV)) (cs cs' : List AV), fillA cs l = some cs' → cs'.length = cs.length
  | [], cs, cs', h => by cases h; rfl
  | (off, n, a) :: l, cs, cs', h => by
    unfold fillA at h
    split at h
    case h_2 => cases h
    split at h
    case isFalse => cases h
    rename_i hh
    rw [fillA_length l _ _ h, length_splice (by rw [hh.1]; exact hh.2)]

theorem bsl_ok (hI : Inv imm L h w) {t e : TypeId} {n sz : Nat} {F : List AV} {a : Act} (hF : Rels imm L F a.tmps) {parts : Array (Nat × Operand)} {zs : List AV} {E : OpE} {ef : Eff}
    (ht : P.underlying t = some (.slice e)) (hi : szOf P e = some sz) (hz : ((zeroOf P e).bind fun z => cells (ofV z)) = some zs) (hzl : zs.length = sz) (hsm : n * sz ≤ 2 ^ 24) (h0 : 0 < sz)
    (iso : Nat → List AV → Option AV) (hr : (aop iso E F (.bsl sz n zs (parts.toList.map fun p => (p.1, compOpd p.2)))).run h = some ef) :
    OpOK imm L h w E.u ef (((fun v => Next.value v) <$> Instr.buildSlice t n (parts.map fun (i, x) => (i, a.eval x))).run P w) := by
  obtain ⟨it, z, z1, z2, z3⟩ := zero_cells (imm := imm) (L := L) hz
  have hits : it.size = sz := by simp [szOf, z1] at hi; exact hi
  simp only [aop] at hr
  split at hr
  · rename_i hn
    subst hn
    split at hr
    case isFalse => cases hr
    rename_i hp
    cases hr
    have hp0 : parts = #[] := by simpa using hp
    subst hp0
    obtain ⟨imm', k1, k2, k3⟩ := hI.freeze (.cells #[] e)
    have k4 := k3 E.u
    have hrun : (Instr.buildSlice t 0 ((#[] : Array (Nat × Operand)).map fun (i, x) => (i, a.eval x))).run P w = .ok (.slice (some ⟨w.heap.size, 0, none⟩) 0 0) (w.alloc (.cells #[] e)) := by
      simp [Instr.buildSlice, run_underlying ht, sizeOf, typeInfo, z1, Instr.fill, newRow]
      congr 2
      apply Array.ext' ; simp
    exact ⟨_, w.alloc (.cells #[] e), imm', L, by rw [Sem.run_map, hrun]; rfl, .inl ⟨_, rfl, .of .emp⟩, by rw [Hp.app_pure]; exact k2, by rw [Hp.app_pure]; exact k4⟩
  · rename_i hn
    split at hr
    case h_2 => cases hr
    rename_i cs hfill
    split at hr
    case isFalse => cases hr
    rename_i hall
    cases hr
    have hrel := Rels.flat hzl (by have := CellsOf.zeros z3 n rfl; rwa [hzl] at this)
    obtain ⟨arr, h4, h5⟩ := fill_ok (imm := imm) (L := L) (place := fun i => some (i * it.size, it.size)) (fun p : Nat × Operand => (p.1, a.eval p.2)) (fun p : Nat × Operand => (p.1 * sz, sz, ev F (compOpd p.2))) parts.toList _ cs _ (fun x hx => ⟨by simp [hits], ev_rel hF _⟩) (by simpa [List.map_map, Function.comp_def] using hfill) hrel
    have hpos : ¬ n * it.size = 0 := by
      rw [hits]
      exact Nat.mul_ne_zero (by omega) (by omega)
    have hrun := run_buildSlice (P := P) w t e n (parts.map fun (i, x) => (i, a.eval x)) arr it z ht z1 z2 (by rw [hits]; omega) hpos (by
      rw [hits] at h4 ⊢
      rw [Array.toList_map]
      exact h4)
    obtain ⟨imm', k1, k2, k3⟩ := hI.freeze (.cells arr e)
    have k4 := k3 E.u
    have hcl : cs.length = n * sz := by
      rw [fillA_length _ _ _ hfill]; simp [hzl]
    refine ⟨.value (.slice (some ⟨w.heap.size, 0, none⟩) n n), w.alloc (.cells arr e), imm', L, by rw [Sem.run_map, hrun]; rfl, .inl ⟨_, rfl, .of ?_⟩, by rw [Hp.app_pure]; exact k2, by rw [Hp.app_pure]; exact k4⟩
    have hxl : ((List.range n).map fun i => (cs.drop (i * sz)).take sz).length = n := by simp
    have hax : ∀ k, k < n * sz → ∃ c x, cs[k]? = some c ∧ arr[k]? = some x ∧ Ro imm' c x := fun k hk => by
      have hk1 : k < cs.length := by omega
      have hk2 : k < arr.size := by rw [← h5.1]; exact hk1
      have hq := (List.all_eq_true.1 hall) cs[k] (List.getElem_mem hk1)
      rw [Bool.and_eq_true] at hq
      exact ⟨cs[k], arr[k], List.getElem?_eq_getElem hk1, Array.getElem?_eq_getElem hk2, (cln_ro 6 _ _ hq.1 (h5.2 k _ _ (List.getElem?_eq_getElem hk1) (Array.getElem?_eq_getElem hk2))).mono k4.le⟩
    have := Ro.ro (imm := imm') (sz := sz) (xs := (List.range n).map fun i => (cs.drop (i * sz)).take sz) (A := some ⟨w.heap.size, 0, none⟩) (c := n) (fun i j => arr.getD (i * sz + j) undef) (by simp) (fun x hx => by
      simp only [List.mem_map, List.mem_range] at hx
      obtain ⟨i, hi, rfl⟩ := hx
      have : i * sz + sz ≤ n * sz := by rw [← Nat.succ_mul]; exact Nat.mul_le_mul_right _ hi
      simp; omega) (fun _ => ⟨w.heap.size, 0, rfl, fun i j hi hj => by
        rw [hxl] at hi
        obtain ⟨c, x, e1, e2, e3⟩ := hax _ (idx_lt hi hj)
        simp [immCell, k1, e2, Array.getD_eq_getD_getElem?]⟩) (fun i j c b hi hj => by
        rw [List.getElem?_map, Option.map_eq_some_iff] at hi
        obtain ⟨i', hi', rfl⟩ := hi
        have hi2 : i' = i ∧ i < n := by
          have h1 := (List.getElem?_eq_some_iff.1 hi').1
          simp only [List.length_range] at h1
          rw [List.getElem?_range h1] at hi'
          exact ⟨(Option.some.inj hi').symm, h1⟩
        obtain ⟨rfl, hi3⟩ := hi2
        rw [List.getElem?_take] at hj
        split at hj
        case isFalse => cases hj
        rename_i hjs
        rw [List.getElem?_drop] at hj
        obtain ⟨c, x, e1, e2, e3⟩ := hax _ (idx_lt hi3 hjs)
        rw [hj] at e1; cases e1
        simpa [e2, Array.getD_eq_getD_getElem?] using e3)
    rw [hxl] at this
    exact this
end
end Go.Pv

namespace Go.Pv
open Go

section
variable {P : Program} {imm : Imm} {L : Locs} {h : Hp} {w : World}

theorem sl3_ok (hI : Inv imm L h w) {t e : TypeId} {F : List AV} {a : Act} (hF : Rels imm L F a.tmps) {sz : Nat} {X : Value} {x lo hi mx : Opd} {vx vy vz : Option Value} {E : OpE} {ef : Eff} (hu : P.underlying t = some (.slice e)) (hn : szOf P e = some sz)
    (hb : ∀ l hh m len cap, bnd F 0 (some lo) = some l → bnd F 0 (some hi) = some hh → bnd F 0 (some mx) = some m → l ≤ hh → hh ≤ m → m ≤ cap → (Instr.sliceBounds true len cap vx vy vz).run P w = .ok (l, hh, m) w)
    (hp : Rel imm L (ev F x) X) (iso : Nat → List AV → Option AV) (hv : (aop iso E F (.sl3 sz x lo hi mx)).run h = some ef) : ∃ v z, ef = { v } ∧ (Instr.sliceAt t X vx vy vz).run P w = .ok z w ∧ Rel imm L v z := by
  simp only [aop] at hv
  split at hv
  · rename_i xs l hh m e0 e1 e2 e3
    split at hv
    case isFalse => cases hv
    rename_i hc
    obtain ⟨hlh, hhm, hmx, hall⟩ := hc
    cases hv
    rw [e0] at hp
    obtain ⟨sz', A, c, val, rfl, h1, h2, h3, h4⟩ := hp.ro_data
    refine ⟨_, _, rfl, slice_slice hu hn (hb l hh m xs.length c e1 e2 e3 hlh hhm (by omega)), ?_⟩
    have hlen : ((xs.take hh).drop l).length = hh - l := by simp; omega
    by_cases hml : m = l
    · rw [if_pos hml, if_pos hml]
      split
      · exact .of .top
      · obtain ⟨b, o, rfl, _⟩ := h3 (by omega)
        rw [show hh - l = 0 by omega, show m - l = 0 by omega]
        exact .of .emp
    · rw [if_neg hml, if_neg hml, ← hlen]
      have hget : ∀ i cs, ((xs.take hh).drop l)[i]? = some cs → xs[l + i]? = some cs ∧ i < hh - l := fun i cs hi => by
        rw [List.getElem?_drop, List.getElem?_take] at hi
        split at hi
        · exact ⟨hi, by omega⟩
        · cases hi
      refine .of (.ro (fun i j => val (l + i) j) (by omega) (fun y hy => h2 y (List.mem_of_mem_take (List.mem_of_mem_drop hy))) (fun h0 => ?_) (fun i j cs a hi hj => h4 (l + i) j cs a (hget i cs hi).1 hj))
      obtain rfl : sz' = sz := by
        have hm : xs[0] ∈ xs := List.getElem_mem (by omega)
        have := List.all_eq_true.1 hall _ hm
        rw [← h2 _ hm]; simpa using this
      obtain ⟨b, o, rfl, h5⟩ := h3 (by omega)
      refine ⟨b, o + l * sz', by simp [Addr.add_mid], fun i j hi hj => ?_⟩
      have := h5 (l + i) j (by omega) hj
      rw [Nat.add_mul] at this
      rw [show o + l * sz' + i * sz' + j = o + (l * sz' + i * sz') + j by omega]
      exact this
  · rename_i r u s n l hh m e0 e1 e2 e3
    rw [e0] at hp
    simp only [Pr.run] at hv
    cases hg : h.get (.r r) with
    | row u' sz' xs =>
      rw [hg] at hv
      simp only at hv
      split at hv
      case isFalse => cases hv
      rename_i hc
      obtain ⟨rfl, rfl, hlh, hhm, hmx⟩ := hc
      cases hv
      obtain ⟨lc, A, hl, k2, k3, k4, rfl⟩ := hp.own_inv
      obtain ⟨arr, T, m1, m2, m3, m4, m5⟩ := hI.row_data hg hl
      refine ⟨_, _, rfl, slice_slice hu hn (hb l hh m n (lc.cap - s) e1 e2 e3 hlh hhm (by omega)), ?_⟩
      by_cases hml : m = l
      · rw [if_pos hml, if_pos hml, show hh - l = 0 by omega, show m - l = 0 by omega]
        obtain ⟨ab, ao, asp⟩ := A
        simp only at k4
        subst k4
        exact .of .emp
      · rw [if_neg hml]; exact .of .top
    | _ => rw [hg] at hv; cases hv
  · rename_i e0 e1 e2 e3
    cases hv
    rw [e0] at hp
    obtain ⟨A, rfl⟩ := hp.nils_inv
    exact ⟨_, _, rfl, slice_slice hu hn (hb 0 0 0 0 0 e1 e2 e3 (Nat.le_refl _) (Nat.le_refl _) (Nat.le_refl _)), .of (by simpa using .nils)⟩
  · cases hv

theorem foldMM (mx : Bool) : ∀ (n : Nat) (xs : List AV), xs.length ≤ n → ∀ (x : Value) (vs : List Value) (v : AV), bestA mx xs = some v → (∀ (j : Nat) (a : AV) (y : Value), xs[j]? = some a → (x :: vs)[j]? = some y → Rel imm L a y) → xs.length = (x :: vs).length →
    ∃ z, (vs.foldlM (if mx then Builtin.max2 else Builtin.min2) x).run P w = .ok z w ∧ Rel imm L v z
  | 0, xs, hn, x, vs, v, hb, hr, hl => by simp at hl; omega
  | n + 1, xs, hn, x, vs, v, hb, hr, hl => by
    unfold bestA at hb
    split at hb
    · rename_i k p
      cases hb
      have : vs = [] := by simpa using hl.symm
      subst this
      exact ⟨x, rfl, hr 0 _ x rfl rfl⟩
    · rename_i k p k' q rest
      split at hb
      case isFalse => cases hb
      rename_i hk; subst hk
      cases vs with
      | nil => simp at hl
      | cons y vs =>
        obtain ⟨rfl, _⟩ := (hr 0 _ x rfl rfl).v_inv
        obtain ⟨rfl, _⟩ := (hr 1 _ y rfl rfl).v_inv
        obtain ⟨z, h1, h2⟩ := foldMM mx n _ (by simp at hn ⊢; omega) (.int k (if mx then (if q > p then q else p) else (if q < p then q else p))) vs v hb (fun j a z ha hz => by
          cases j with
          | zero => cases ha; cases hz; exact .of (.v rfl)
          | succ j => exact hr (j + 2) a z ha hz) (by simpa using hl)
        refine ⟨z, ?_, h2⟩
        rw [List.foldlM_cons, Sem.run_bind]
        cases mx
        · simpa [Builtin.min2] using h1
        · simpa [Builtin.max2] using h1
    · cases hb

theorem mm_ok {mx : Bool} {xs : List AV} {arr : Array Value} {v : AV} {ty : TypeId} {ts : Array TypeId} (hb : bestA mx xs = some v) (hr : Rels imm L xs arr) :
    ∃ z, ((if mx then Builtin.max_ else Builtin.min_) ts ty arr).run P w = .ok z w ∧ Rel imm L v z := by
  obtain ⟨l⟩ := arr
  cases l with
  | nil =>
    have : xs = [] := List.eq_nil_of_length_eq_zero (by simpa using hr.1)
    subst this
    simp [bestA] at hb
  | cons x vs =>
    obtain ⟨z, h1, h2⟩ := foldMM (P := P) (imm := imm) (L := L) (w := w) mx xs.length xs (Nat.le_refl _) x vs v hb (fun j a y ha hy => hr.2 j a y ha (by simpa using hy)) (by simpa using hr.1)
    refine ⟨z, ?_, h2⟩
    cases mx
    · simpa [Builtin.min_] using h1
    · simpa [Builtin.max_] using h1
end
end Go.Pv
