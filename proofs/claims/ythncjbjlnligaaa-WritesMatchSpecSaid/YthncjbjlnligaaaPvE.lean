/-
  The interpreter is sound, regions of open order among the rest; rows' ends. Conditions: none.
-/
import Derived.Test.YthncjbjlnligaaaPvD
import Derived.Below
import Derived.ChangeBears
import Derived.ChangeSame
import Derived.Carry
set_option linter.unusedVariables false
set_option linter.unusedSimpArgs false
namespace Go.Pv
open Go

/-! ### What an operation looks at -/
theorem ev_put {F : List AV} {d : Option Nat} {v : AV} {x : Opd} (h : ∀ t, d = some t → Opd.is t x = false) : ev (put F d v) x = ev F x := by
  cases d with
  | none => rfl
  | some d =>
    cases x with
    | t i =>
      have hne : d ≠ i := fun e => by
        have := h d rfl
        subst e
        simp [Opd.is] at this
      simp [ev, put, List.getD_eq_getElem?_getD, List.getElem?_set_ne hne]
    | _ => rfl

theorem bnd_congr {F F' : List AV} {d : Nat} {x : Option Opd} (h : ∀ y ∈ x.toList, ev F y = ev F' y) : bnd F d x = bnd F' d x := by
  cases x with
  | none => rfl
  | some y => simp only [bnd, h y (by simp)]

theorem aop_congr (iso : Nat → List AV → Option AV) (E : OpE) {F F' : List AV} (o : AOp) (h : ∀ x ∈ o.opds, ev F x = ev F' x) : aop iso E F o = aop iso E F' o := by
  have hl : ∀ (l : List Opd), (∀ x ∈ l, ev F x = ev F' x) → l.map (ev F) = l.map (ev F') := fun l hl => List.map_congr_left hl
  cases o with
  | mv x => simp [aop, h x (by simp [AOp.opds])]
  | pick c a b => simp [aop, h c (by simp [AOp.opds]), h a (by simp [AOp.opds]), h b (by simp [AOp.opds])]
  | box k x => simp only [aop, h x (by simp [AOp.opds])]
  | alloc k z => rfl
  | load n ag a => simp only [aop, h a (by simp [AOp.opds])]
  | store n a x => simp only [aop, h a (by simp [AOp.opds]), h x (by simp [AOp.opds])]
  | fa off x => simp only [aop, h x (by simp [AOp.opds])]
  | fld off n ag x => simp only [aop, h x (by simp [AOp.opds])]
  | ia sz x i => simp only [aop, h x (by simp [AOp.opds]), h i (by simp [AOp.opds])]
  | ix x i => simp only [aop, h x (by simp [AOp.opds]), h i (by simp [AOp.opds])]
  | sls x lo hi => simp only [aop, h x (by simp [AOp.opds]), bnd_congr (F' := F') (x := lo) (fun y hy => h y (by simp [AOp.opds] at hy ⊢; simp [hy])), bnd_congr (F' := F') (x := hi) (fun y hy => h y (by simp [AOp.opds] at hy ⊢; simp [hy]))]
  | sl sz x lo hi =>
    have e1 : ∀ d, bnd F d lo = bnd F' d lo := fun d => bnd_congr fun y hy => h y (by simp [AOp.opds] at hy ⊢; simp [hy])
    have e2 : ∀ d, bnd F d hi = bnd F' d hi := fun d => bnd_congr fun y hy => h y (by simp [AOp.opds] at hy ⊢; simp [hy])
    simp only [aop, h x (by simp [AOp.opds]), slA, e1, e2]
  | sl3 sz x lo hi mx =>
    have e (y : Opd) (hy : ev F y = ev F' y) : ∀ d, bnd F d (some y) = bnd F' d (some y) := fun d => bnd_congr fun z hz => by simp at hz; subst hz; exact hy
    simp only [aop, h x (by simp [AOp.opds]), e lo (h lo (by simp [AOp.opds])), e hi (h hi (by simp [AOp.opds])), e mx (h mx (by simp [AOp.opds]))]
  | build z parts =>
    have : (parts.map fun p => (p.1, p.2.1, ev F p.2.2)) = parts.map fun p => (p.1, p.2.1, ev F' p.2.2) := List.map_congr_left fun p hp => by rw [h p.2.2 (by simp only [AOp.opds, List.mem_map]; exact ⟨p, hp, rfl⟩)]
    simp only [aop, this]
  | bsl sz n z parts =>
    have : (parts.map fun p => (p.1 * sz, sz, ev F p.2)) = parts.map fun p => (p.1 * sz, sz, ev F' p.2) := List.map_congr_left fun p hp => by rw [h p.2 (by simp only [AOp.opds, List.mem_map]; exact ⟨p, hp, rfl⟩)]
    simp only [aop, this]
  | bin op x y => simp only [aop, h x (by simp [AOp.opds]), h y (by simp [AOp.opds])]
  | beq neg x y => simp only [aop, h x (by simp [AOp.opds]), h y (by simp [AOp.opds])]
  | eqs neg ks x y => simp only [aop, h x (by simp [AOp.opds]), h y (by simp [AOp.opds])]
  | nilq neg x => simp only [aop, h x (by simp [AOp.opds])]
  | un op x => simp only [aop, h x (by simp [AOp.opds])]
  | cvi k x => simp only [aop, h x (by simp [AOp.opds])]
  | ext i x => simp only [aop, h x (by simp [AOp.opds])]
  | nilc x => simp only [aop, h x (by simp [AOp.opds])]
  | len s x => simp only [aop, h x (by simp [AOp.opds])]
  | app sz bytes x y => simp only [aop, h x (by simp [AOp.opds]), h y (by simp [AOp.opds])]
  | clr sz z x => simp only [aop, h x (by simp [AOp.opds])]
  | mm mx xs => simp only [aop, hl xs fun x hx => h x hx]
  | mkf f caps => simp only [aop, hl caps fun x hx => h x hx]
  | mkm => rfl
  | lk z ok m k => simp only [aop, h m (by simp [AOp.opds]), h k (by simp [AOp.opds])]
  | mu m k x => simp only [aop, h m (by simp [AOp.opds]), h k (by simp [AOp.opds]), h x (by simp [AOp.opds])]
  | mks sz bytes z n => simp only [aop, h n (by simp [AOp.opds])]
  | call m f args =>
    have e : (args.map fun x => nz 6 (ev F x)) = args.map fun x => nz 6 (ev F' x) := List.map_congr_left fun x hx => by rw [h x hx]
    simp only [aop, hl args fun x hx => h x hx, e]
  | callv x args => rfl

theorem aop_put (iso : Nat → List AV → Option AV) (E : OpE) {F : List AV} {d : Option Nat} {v : AV} {o : AOper} (h : ∀ t, d = some t → o.looks t = false) : aop iso E (put F d v) o.op = aop iso E F o.op :=
  aop_congr iso E o.op fun x hx => ev_put fun t ht => by
    have := h t ht
    unfold AOper.looks at this
    rw [Bool.or_eq_false_iff, List.any_eq_false] at this
    simpa using this.1 x hx

theorem wantedA_put {F : List AV} {d : Option Nat} {v : AV} {o : AOper} (h : ∀ t, d = some t → o.looks t = false) : wantedA (put F d v) o.g = wantedA F o.g := by
  cases d with
  | none => rfl
  | some d =>
    have := h d rfl
    unfold AOper.looks at this
    rw [Bool.or_eq_false_iff] at this
    cases hg : o.g with
    | none => rfl
    | some p =>
      obtain ⟨t, w⟩ := p
      rw [hg] at this
      have hne : d ≠ t := fun e => by subst e; simp at this
      simp [wantedA, put, List.getD_eq_getElem?_getD, List.getElem?_set_ne hne]

theorem put_comm (F : List AV) {d e : Option Nat} (v u : AV) (h : ∀ t, d = some t → e ≠ some t) : put (put F d v) e u = put (put F e u) d v := by
  cases d with
  | none => rfl
  | some d =>
    cases e with
    | none => rfl
    | some e =>
      have hne : d ≠ e := fun he => h d rfl (by rw [he])
      exact List.set_comm _ _ hne

theorem apart_spec {x y : AOper} (h : x.apart y = true) : (∀ t, x.d = some t → y.looks t = false) ∧ (∀ t, x.d = some t → y.d ≠ some t) ∧ (∀ t, y.d = some t → x.looks t = false) := by
  unfold AOper.apart at h
  rw [Bool.and_eq_true] at h
  refine ⟨fun t ht => ?_, fun t ht => ?_, fun t ht => ?_⟩
  · have := h.1; rw [ht] at this; simp at this; exact this.1
  · have := h.1; rw [ht] at this; simp at this; exact this.2
  · have := h.2; rw [ht] at this; simp at this; exact this

/-! ### What an operation asks -/
theorem Pr.congr {α : Type} (p : Pr α) {h h' : Hp} (hg : ∀ r ∈ p.log h, h'.get r = h.get r) : p.run h' = p.run h ∧ p.log h' = p.log h := by
  induction p with
  | ret a => exact ⟨rfl, rfl⟩
  | fail => exact ⟨rfl, rfl⟩
  | get x k ih =>
    have e : h'.get x = h.get x := hg x (by simp [Pr.log])
    have := ih (h.get x) (fun r hr => hg r (by simp [Pr.log, hr]))
    simp only [Pr.run, Pr.log, e, this.1, this.2]
    exact ⟨trivial, trivial⟩

def sets (h : Hp) (l : List (Ref × Ob)) : Hp := l.foldl (fun h x => h.set x.1 x.2) h

theorem len_set (h : Hp) (r : Ref) (o : Ob) : (h.set r o).rs.length = h.rs.length := by cases r <;> simp [Hp.set]
theorem len_sets (l : List (Ref × Ob)) : ∀ h : Hp, (sets h l).rs.length = h.rs.length := by
  induction l with
  | nil => intro h; rfl
  | cons x l ih => intro h; show (sets (h.set x.1 x.2) l).rs.length = _; rw [ih, len_set]

theorem get_sets (l : List (Ref × Ob)) (r : Ref) : ∀ h : Hp, (∀ x ∈ l, x.1 ≠ r) → (sets h l).get r = h.get r := by
  induction l with
  | nil => intro h _; rfl
  | cons x l ih =>
    intro h hr
    show (sets (h.set x.1 x.2) l).get r = _
    rw [ih _ fun y hy => hr y (List.mem_cons_of_mem _ hy)]
    exact Hp.get_set_ne h _ r _ fun e => hr x List.mem_cons_self e.symm

theorem set_set (h : Hp) {r r' : Ref} (o o' : Ob) (hne : r ≠ r') : (h.set r o).set r' o' = (h.set r' o').set r o := by
  cases r <;> cases r' <;> simp only [Hp.set]
  · rename_i i j
    rw [List.set_comm]
    exact fun e => hne (by rw [e])
  · rename_i i j
    rw [List.set_comm]
    exact fun e => hne (by rw [e])

theorem sets_set (l : List (Ref × Ob)) (r : Ref) (o : Ob) : ∀ h : Hp, (∀ x ∈ l, x.1 ≠ r) → sets (h.set r o) l = (sets h l).set r o := by
  induction l with
  | nil => intro h _; rfl
  | cons x l ih =>
    intro h hr
    show sets ((h.set r o).set x.1 x.2) l = (sets (h.set x.1 x.2) l).set r o
    rw [set_set _ _ _ (fun e => hr x List.mem_cons_self e.symm), ih _ fun y hy => hr y (List.mem_cons_of_mem _ hy)]

theorem sets_sets (l m : List (Ref × Ob)) : ∀ h : Hp, (∀ x ∈ l, ∀ y ∈ m, x.1 ≠ y.1) → sets (sets h l) m = sets (sets h m) l := by
  induction l with
  | nil => intro h _; rfl
  | cons x l ih =>
    intro h hr
    show sets (sets (h.set x.1 x.2) l) m = sets ((sets h m).set x.1 x.2) l
    rw [ih _ fun y hy => hr y (List.mem_cons_of_mem _ hy), sets_set m _ _ _ fun y hy e => hr x List.mem_cons_self y hy e.symm]

theorem set_lay (h : Hp) {r : Ref} (o o' : Ob) (hne : r ≠ .r h.rs.length) : (h.lay o').set r o = (h.set r o).lay o' := by
  cases r with
  | b i => rfl
  | r i =>
    have hi : i ≠ h.rs.length := fun e => hne (by rw [e])
    simp only [Hp.lay, Hp.set]
    rcases Nat.lt_or_ge i h.rs.length with hlt | hge
    · rw [List.set_append_left _ _ hlt]
    · rw [List.set_eq_of_length_le (by simp; omega), List.set_eq_of_length_le hge]

theorem sets_lay (l : List (Ref × Ob)) (o : Ob) : ∀ h : Hp, (∀ x ∈ l, x.1 ≠ .r h.rs.length) → sets (h.lay o) l = (sets h l).lay o := by
  induction l with
  | nil => intro h _; rfl
  | cons x l ih =>
    intro h hr
    show sets ((h.lay o).set x.1 x.2) l = (sets (h.set x.1 x.2) l).lay o
    rw [set_lay _ _ _ (hr x List.mem_cons_self), ih _ fun y hy => by rw [len_set]; exact hr y (List.mem_cons_of_mem _ hy)]

theorem app_nil {h : Hp} {e : Eff} (hn : e.nw = []) : h.app e = sets h e.wr := by
  unfold Hp.app
  simp only [hn, List.append_nil]
  rfl
theorem app_one' {h : Hp} {e : Eff} {o : Ob} (hn : e.nw = [o]) : h.app e = (sets h e.wr).lay o := by
  unfold Hp.app
  simp only [hn]
  rfl

/-- What is turned. -/
def Eff.refs (e : Eff) (nr : Nat) : List Ref := e.wr.map (·.1) ++ e.nw.map fun _ => .r nr

theorem get_app {h : Hp} {e : Eff} {nr : Nat} {r : Ref} (h1 : e.nw.length ≤ 1) (h2 : e.nw = [] ∨ h.rs.length = nr) (hr : r ∉ e.refs nr) : (h.app e).get r = h.get r := by
  have hw : ∀ x ∈ e.wr, x.1 ≠ r := fun x hx e' => hr (List.mem_append_left _ (List.mem_map.2 ⟨x, hx, e'⟩))
  match hn : e.nw, h1 with
  | [], _ => rw [app_nil hn, get_sets _ _ _ hw]
  | [o], _ =>
    have hl : h.rs.length = nr := by
      rcases h2 with h2 | h2
      · rw [hn] at h2; cases h2
      · exact h2
    have hne : r ≠ .r nr := fun e' => hr (List.mem_append_right _ (by rw [hn]; simp [e']))
    rw [app_one' hn, Hp.get_lay_ne _ _ _ (by rw [len_sets, hl]; exact hne), get_sets _ _ _ hw]

theorem app_comm {h : Hp} {e f : Eff} {nr : Nat} (e1 : e.nw.length ≤ 1) (e2 : e.nw = [] ∨ h.rs.length = nr) (f1 : f.nw.length ≤ 1) (f2 : f.nw = [] ∨ h.rs.length = nr) (hd : ∀ r ∈ e.refs nr, r ∉ f.refs nr) : (h.app e).app f = (h.app f).app e := by
  have hw : ∀ x ∈ e.wr, ∀ y ∈ f.wr, x.1 ≠ y.1 := fun x hx y hy e' => hd x.1 (List.mem_append_left _ (List.mem_map.2 ⟨x, hx, rfl⟩)) (List.mem_append_left _ (List.mem_map.2 ⟨y, hy, e'.symm⟩))
  match hn : e.nw, hm : f.nw, e1, f1 with
  | [], [], _, _ => rw [app_nil hn, app_nil hm, app_nil hm, app_nil hn, sets_sets _ _ _ hw]
  | [], [p], _, _ =>
    have hl : h.rs.length = nr := by
      rcases f2 with f2 | f2
      · rw [hm] at f2; cases f2
      · exact f2
    rw [app_nil hn, app_one' hm, app_one' hm, app_nil hn, sets_lay _ _ _ (fun x hx e' => ?_), sets_sets _ _ _ hw]
    rw [len_sets, hl] at e'
    exact hd x.1 (List.mem_append_left _ (List.mem_map.2 ⟨x, hx, rfl⟩)) (List.mem_append_right _ (by rw [hm]; simp [e']))
  | [o], [], _, _ =>
    have hl : h.rs.length = nr := by
      rcases e2 with e2 | e2
      · rw [hn] at e2; cases e2
      · exact e2
    rw [app_nil hm, app_one' hn, app_one' hn, app_nil hm, sets_lay _ _ _ (fun x hx e' => ?_), sets_sets _ _ _ hw]
    rw [len_sets, hl] at e'
    exact hd (.r nr) (List.mem_append_right _ (by rw [hn]; simp)) (List.mem_append_left _ (List.mem_map.2 ⟨x, hx, e'⟩))
  | [o], [p], _, _ => exact absurd (List.mem_append_right _ (by rw [hm]; simp)) (hd (.r nr) (List.mem_append_right _ (by rw [hn]; simp)))

theorem len_app {h : Hp} {e : Eff} : (h.app e).rs.length = h.rs.length + e.nw.length := by
  unfold Hp.app
  simp only [List.length_append]
  rw [show (e.wr.foldl (fun h x => h.set x.1 x.2) h).rs.length = h.rs.length from len_sets e.wr h]
end Go.Pv

namespace Go.Pv
open Go

section
variable (call : Nat → List AV → Hp → Option (AV × Hp))

theorem step2_swap {nb ux uy nr : Nat} {x y : AOper} {s s1 s2 : St} {fx fy : FP} (h1 : step2 call nb ux nr x s = some (s1, fx)) (h2 : step2 call nb uy nr y s1 = some (s2, fy)) (ha : x.apart y = true) (hf : apartFP fx fy = true) :
    ∃ s1', step2 call nb uy nr y s = some (s1', fy) ∧ step2 call nb ux nr x s1' = some (s2, fx) := by
  obtain ⟨a1, a2, a3⟩ := apart_spec ha
  have hput : ∀ v u, put (put s.1 x.d v) y.d u = put (put s.1 y.d u) x.d v := fun v u => put_comm _ _ _ a2
  unfold step2 at h1
  split at h1
  · rename_i hw
    split at h1
    case h_2 => cases h1
    rename_i ex hex
    split at h1
    case isFalse => cases h1
    rename_i hcx
    cases h1
    unfold step2 at h2
    simp only [wantedA_put a1, aop_put (isoOf call) _ a1] at h2
    split at h2
    · rename_i hwy
      split at h2
      case h_2 => cases h2
      rename_i ey hey
      split at h2
      case isFalse => cases h2
      rename_i hcy
      cases h2
      -- the footprints
      unfold apartFP at hf
      rw [Bool.and_eq_true, List.all_eq_true, List.all_eq_true] at hf
      obtain ⟨f1, f2⟩ := hf
      have g1 : ∀ r ∈ ex.refs nr, r ∉ (aop (isoOf call) ⟨nb, uy, nr⟩ s.1 y.op).log (s.2.app ex) ∧ r ∉ ey.refs nr := fun r hr => by
        have := f1 r hr
        simp only [Bool.not_eq_true', Bool.or_eq_false_iff] at this
        exact ⟨fun h => by simpa [h] using this.1, fun h => by have h' := this.2; rw [show (ey.wr.map (·.1) ++ ey.nw.map fun _ => Ref.r nr) = ey.refs nr from rfl] at h'; simp [h] at h'⟩
      have g2 : ∀ r ∈ ey.refs nr, r ∉ (aop (isoOf call) ⟨nb, ux, nr⟩ s.1 x.op).log s.2 := fun r hr => by
        have := f2 r hr
        simp only [Bool.not_eq_true'] at this
        exact fun h => by simp [h] at this
      -- y ahead of x
      have c1 := Pr.congr (aop (isoOf call) ⟨nb, uy, nr⟩ s.1 y.op) (h := s.2.app ex) (h' := s.2) (fun r hr => (get_app hcx.1 hcx.2 (fun h => (g1 r h).1 hr)).symm)
      have ey0 : ey.nw = [] ∨ s.2.rs.length = nr := by
        rcases hcy.2 with h | h
        · exact .inl h
        · right
          rw [len_app] at h
          rcases hcx.2 with h' | h'
          · rw [h'] at h; simpa using h
          · exact h'
      have c2 := Pr.congr (aop (isoOf call) ⟨nb, ux, nr⟩ s.1 x.op) (h := s.2) (h' := s.2.app ey) (fun r hr => get_app hcy.1 ey0 (fun h => g2 r h hr))
      have ex0 : ex.nw = [] ∨ (s.2.app ey).rs.length = nr := by
        rcases hcx.2 with h | h
        · exact .inl h
        · by_cases hn : ey.nw = []
          · right; rw [len_app, hn]; simpa using h
          · left
            by_cases he : ex.nw = []
            · exact he
            · have i1 : Ref.r nr ∈ ex.refs nr := List.mem_append_right _ (by
                obtain ⟨o, l, e⟩ := List.exists_cons_of_ne_nil he
                rw [e]; simp)
              have i2 : Ref.r nr ∈ ey.refs nr := List.mem_append_right _ (by
                obtain ⟨o, l, e⟩ := List.exists_cons_of_ne_nil hn
                rw [e]; simp)
              exact absurd i2 (g1 _ i1).2
      refine ⟨(put s.1 y.d ey.v, s.2.app ey), ?_, ?_⟩
      · unfold step2
        rw [hwy]
        simp only
        rw [c1.1, hey]
        simp only
        rw [if_pos ⟨hcy.1, ey0⟩, c1.2]
      · unfold step2
        simp only [wantedA_put a3, aop_put (isoOf call) _ a3]
        rw [hw]
        simp only
        rw [c2.1, hex]
        simp only
        rw [if_pos ⟨hcx.1, ex0⟩, c2.2, ← hput, app_comm hcx.1 hcx.2 hcy.1 ey0 fun r hr => (g1 r hr).2]
    · rename_i hwy
      cases h2
      refine ⟨(put s.1 y.d (.tup []), s.2), ?_, ?_⟩
      · unfold step2; rw [hwy]
      · unfold step2
        simp only [wantedA_put a3, aop_put (isoOf call) _ a3]
        rw [hw]
        simp only
        rw [hex]
        simp only
        rw [if_pos hcx, ← hput]
    · cases h2
  · rename_i hw
    cases h1
    unfold step2 at h2
    simp only [wantedA_put a1, aop_put (isoOf call) _ a1] at h2
    split at h2
    · rename_i hwy
      split at h2
      case h_2 => cases h2
      rename_i ey hey
      split at h2
      case isFalse => cases h2
      rename_i hcy
      cases h2
      refine ⟨(put s.1 y.d ey.v, s.2.app ey), ?_, ?_⟩
      · unfold step2
        rw [hwy]
        simp only
        rw [hey]
        simp only
        rw [if_pos hcy]
      · unfold step2
        simp only [wantedA_put a3]
        rw [hw, ← hput]
    · rename_i hwy
      cases h2
      refine ⟨(put s.1 y.d (.tup []), s.2), ?_, ?_⟩
      · unfold step2; rw [hwy]
      · unfold step2
        simp only [wantedA_put a3]
        rw [hw, ← hput]
    · cases h2
  · cases h1

/-- A list of operations, by their numbers. -/
def runL (nb u nr : Nat) (as : List AOper) : List Nat → St → Option (St × List (Nat × FP))
  | [], s => some (s, [])
  | i :: is, s => match as[i]? with
    | none => none
    | some o => match step2 call nb (u + i) nr o s with
      | none => none
      | some (s1, fp) => match runL nb u nr as is s1 with
        | none => none
        | some (s2, fps) => some (s2, (i, fp) :: fps)

/-- These two may change places. -/
def Ap (as : List AOper) (x y : Nat × FP) : Prop := ∃ p q, as[x.1]? = some p ∧ as[y.1]? = some q ∧ p.apart q = true ∧ apartFP x.2 y.2 = true

theorem runL_cons {nb u nr : Nat} {as : List AOper} {i : Nat} {is : List Nat} {s s2 : St} {fs : List (Nat × FP)} (h : runL call nb u nr as (i :: is) s = some (s2, fs)) :
    ∃ o s1 fp fps, as[i]? = some o ∧ step2 call nb (u + i) nr o s = some (s1, fp) ∧ runL call nb u nr as is s1 = some (s2, fps) ∧ fs = (i, fp) :: fps := by
  unfold runL at h
  split at h
  case h_1 => cases h
  rename_i o ho
  split at h
  case h_1 => cases h
  rename_i s1 fp h1
  split at h
  case h_1 => cases h
  rename_i s2' fps h2
  cases h
  exact ⟨o, s1, fp, fps, ho, h1, h2, rfl⟩

theorem runL_intro {nb u nr : Nat} {as : List AOper} {i : Nat} {is : List Nat} {s s1 s2 : St} {o : AOper} {fp : FP} {fps : List (Nat × FP)} (ho : as[i]? = some o) (h1 : step2 call nb (u + i) nr o s = some (s1, fp)) (h2 : runL call nb u nr as is s1 = some (s2, fps)) :
    runL call nb u nr as (i :: is) s = some (s2, (i, fp) :: fps) := by
  unfold runL
  rw [ho]; simp only; rw [h1]; simp only; rw [h2]

/-- What is free of all that stands ahead of it may go first. -/
theorem front {nb u nr : Nat} {as : List AOper} {i : Nat} : ∀ (pre post : List Nat) (s s' : St) (fs : List (Nat × FP)), runL call nb u nr as (pre ++ i :: post) s = some (s', fs) → (∀ x ∈ fs, ∀ y ∈ fs, x.1 ∈ pre → y.1 = i → Ap as x y) →
    ∃ o s1 fi fs', as[i]? = some o ∧ step2 call nb (u + i) nr o s = some (s1, fi) ∧ runL call nb u nr as (pre ++ post) s1 = some (s', fs') ∧ (i, fi) ∈ fs ∧ fs'.Sublist fs
  | [], post, s, s', fs, h, _ => by
    obtain ⟨o, s1, fp, fps, ho, h1, h2, rfl⟩ := runL_cons call h
    exact ⟨o, s1, fp, fps, ho, h1, h2, List.mem_cons_self, List.sublist_cons_self _ _⟩
  | j :: pre, post, s, s', fs, h, hap => by
    obtain ⟨o, s1, fp, fps, ho, h1, h2, rfl⟩ := runL_cons call h
    obtain ⟨oi, s2, fi, fs', hoi, k1, k2, k3, k4⟩ := front pre post s1 s' fps h2 fun x hx y hy hp hi => hap x (List.mem_cons_of_mem _ hx) y (List.mem_cons_of_mem _ hy) (List.mem_cons_of_mem _ hp) hi
    obtain ⟨p, q, e1, e2, e3, e4⟩ := hap (j, fp) List.mem_cons_self (i, fi) (List.mem_cons_of_mem _ k3) List.mem_cons_self rfl
    rw [ho] at e1; cases e1
    rw [hoi] at e2; cases e2
    obtain ⟨s1', m1, m2⟩ := step2_swap call h1 k1 e3 e4
    exact ⟨oi, s1', fi, (j, fp) :: fs', hoi, m1, runL_intro call ho m2 k2, List.mem_cons_of_mem _ k3, k4.cons_cons _⟩

theorem runL_of_runD {nb u nr : Nat} {as : List AOper} : ∀ (l : List AOper) (k : Nat) (s s' : St) (fps : List FP), (∀ j, l[j]? = as[k + j]?) → runD call nb u nr l k s = some (s', fps) →
    runL call nb u nr as (List.range' k l.length) s = some (s', fps.zipIdx k |>.map fun x => (x.2, x.1)) ∧ fps.length = l.length
  | [], k, s, s', fps, _, h => by cases h; exact ⟨rfl, rfl⟩
  | o :: l, k, s, s', fps, hl, h => by
    unfold runD at h
    split at h
    case h_2 => cases h
    rename_i s1 fp h1
    split at h
    case h_2 => cases h
    rename_i s2 fps' h2
    cases h
    obtain ⟨k1, k2⟩ := runL_of_runD l (k + 1) s1 s' fps' (fun j => by have := hl (j + 1); rw [List.getElem?_cons_succ] at this; rw [this]; congr 1; omega) h2
    refine ⟨?_, by simp [k2]⟩
    rw [List.length_cons, List.range'_succ]
    exact runL_intro call (by have := hl 0; simpa using this.symm) h1 k1
end
end Go.Pv

namespace Go.Pv
open Go

section
variable {P : Program}

theorem compOps_get {md : Nat → Nat} {ops : Array Oper} : ∀ (l : List Oper) (k : Nat) (as : List AOper), compOps P md ops l k = some as → as.length = l.length ∧ ∀ (i : Nat) (o : Oper) (ao : AOper), l[i]? = some o → as[i]? = some ao →
    ∃ k', compOp P md k' o = some ao.op ∧ ao.d = o.dst ∧ (match o.guard with
      | none => some none
      | some (j, w) => match (ops[j]?).bind (·.dst) with
        | some d => some (some (d, w))
        | none => none) = some ao.g
  | [], k, as, h => by cases h; exact ⟨rfl, fun i o ao h => by simp at h⟩
  | o :: l, k, as, hc => by
    unfold compOps at hc
    split at hc
    case h_2 => cases hc
    rename_i ao al h1 h2
    obtain ⟨g, rfl, hg⟩ : ∃ g, as = ⟨o.dst, ao, g⟩ :: al ∧ (match o.guard with
      | none => some none
      | some (j, w) => match (ops[j]?).bind (·.dst) with
        | some d => some (some (d, w))
        | none => none) = some g := by
      split at hc
      · rename_i e; cases hc; exact ⟨none, rfl, by rw [e]⟩
      · rename_i j w e
        split at hc
        case h_2 => cases hc
        rename_i d hd
        cases hc
        refine ⟨some (d, w), rfl, ?_⟩
        rw [e]
        simp only
        rw [hd]
    obtain ⟨q1, q2⟩ := compOps_get l _ al h2
    refine ⟨by simp [q1], fun i o' ao' ho ha => ?_⟩
    cases i with
    | zero => cases ho; cases ha; exact ⟨k, h1, rfl, hg⟩
    | succ i => exact q2 i o' ao' ho ha

variable {imm0 : Imm} {L0 : Locs} {h0 : Hp} {w0 : World}

theorem nx_app {h : Hp} {e : Eff} : (h.app e).nx = h.nx := by
  have : ∀ (l : List (Ref × Ob)) (h : Hp), (l.foldl (fun h x => h.set x.1 x.2) h).nx = h.nx := fun l => by
    induction l with
    | nil => intro h; rfl
    | cons x l ih => intro h; rw [List.foldl_cons, ih, Hp.nx_set]
  exact this _ _

theorem step2_go {call : Nat → List AV → Hp → Option (AV × Hp)} (hs : Sound P call) {md : Nat → Nat} {ops : Array Oper} {i k nb u nr : Nat} {o : Oper} {ao : AOper} {fr : Nat → Prop} {s s' : St} {fp : FP} {a : Act} {w : World} {K : Act → World → Prop} {Q : Exit → Act → World → Prop}
    (hA : AtF imm0 L0 h0 w0 fr s a w) (hu : fr u) (ho : ops[i]? = some o) (hc : compOp P md k o = some ao.op) (hd : ao.d = o.dst) (hg : (match o.guard with
      | none => some none
      | some (j, w) => match (ops[j]?).bind (·.dst) with
        | some d => some (some (d, w))
        | none => none) = some ao.g) (hr : step2 call nb u nr ao s = some (s', fp)) (hK : ∀ a' w', AtF imm0 L0 h0 w0 (fun v => fr v ∧ v ≠ u) s' a' w' → K a' w') : wpOp P ops Q i K a w := by
  obtain ⟨imm, L, k1, k2, k3, k4, k5, k6⟩ := hA
  unfold wpOp
  simp only [ho]
  unfold step2 at hr
  split at hr
  · rename_i hw
    rw [wanted_ok k2 hg hw, if_pos rfl]
    split at hr
    case h_2 => cases hr
    rename_i ef hef
    split at hr
    case isFalse => cases hr
    cases hr
    refine .inl (aop_go hs k1 k2 (k6 u hu).1 (k6 u hu).2.1 hc hef fun x w' hdo => hK _ _ ?_)
    rw [hd]
    obtain ⟨imm', L', j1, j2, j3⟩ := hdo
    exact AtF.next (s' := (put s.1 o.dst ef.v, s.2.app ef)) k1 k2 k3 k4 k5 k6 hu (by rw [nx_app]; exact Nat.le_refl _) rfl ⟨imm', L', j1, j2, j3.weaken fun v hv => .inl hv⟩
  · rename_i hw
    rw [wanted_ok k2 hg hw, if_neg (by simp)]
    cases hr
    refine hK _ _ ⟨imm, L, k1, ?_, k3, k4, by rw [act_put_defers]; exact k5, fun v hv => k6 v hv.1⟩
    rw [hd]
    exact k2.put' o.dst (.of Ro.undef)
  · cases hr

/-! ### The table of what must have come up -/
theorem mem_edges {acc : List (List Nat)} {k : Nat} : ∀ (es : List Edge) (l : List Nat), k ∈ es.foldl (fun l e => l ++ (e.on :: acc.getD e.on []).filter (fun x => !l.contains x)) l → k ∈ l ∨ ∃ e ∈ es, k = e.on ∨ k ∈ acc.getD e.on []
  | [], l, h => .inl h
  | e :: es, l, h => by
    rw [List.foldl_cons] at h
    rcases mem_edges es _ h with h | ⟨e', he, h⟩
    · rw [List.mem_append] at h
      rcases h with h | h
      · exact .inl h
      · have := (List.mem_filter.1 h).1
        rw [List.mem_cons] at this
        exact .inr ⟨e, List.mem_cons_self, this⟩
    · exact .inr ⟨e', List.mem_cons_of_mem _ he, h⟩

theorem before_spec : ∀ (done ops : List Oper) (acc : List (List Nat)), acc.length = done.length →
    ∃ tbl, ops.foldl (fun acc o => acc ++ [(o.after.toList.filter (Region.binds .any ·)).foldl (fun l e => l ++ (e.on :: acc.getD e.on []).filter (fun x => !l.contains x)) []]) acc = tbl ∧ tbl.length = done.length + ops.length ∧ (∀ j, j < acc.length → tbl.getD j [] = acc.getD j []) ∧
      ∀ (i : Nat) (o : Oper), ops[i]? = some o → ∀ k ∈ tbl.getD (done.length + i) [], ∃ e ∈ o.after.toList, Region.binds .any e = true ∧ (k = e.on ∨ k ∈ tbl.getD e.on [])
  | done, [], acc, hl => ⟨acc, rfl, by simp [hl], fun _ _ => rfl, fun i o h => by simp at h⟩
  | done, o :: ops, acc, hl => by
    rw [List.foldl_cons]
    obtain ⟨tbl, h1, h2, h3, h4⟩ := before_spec (done ++ [o]) ops (acc ++ [(o.after.toList.filter (Region.binds .any ·)).foldl (fun l e => l ++ (e.on :: acc.getD e.on []).filter (fun x => !l.contains x)) []]) (by simp [hl])
    have hpre : ∀ j, j < acc.length → tbl.getD j [] = acc.getD j [] := fun j hj => by
      rw [h3 j (by simp; omega)]
      rw [List.getD_eq_getElem?_getD, List.getD_eq_getElem?_getD, List.getElem?_append_left hj]
    refine ⟨tbl, h1, by rw [h2]; simp; omega, hpre, fun i o' ho k hk => ?_⟩
    cases i with
    | zero =>
      cases ho
      have e : tbl.getD (done.length + 0) [] = (o.after.toList.filter (Region.binds .any ·)).foldl (fun l e => l ++ (e.on :: acc.getD e.on []).filter (fun x => !l.contains x)) [] := by
        rw [Nat.add_zero, h3 _ (by simp; omega), List.getD_eq_getElem?_getD, List.getElem?_append_right (by omega), hl, Nat.sub_self]
        rfl
      rw [e] at hk
      rcases mem_edges _ _ hk with h | ⟨e', he, h⟩
      · simp at h
      · rw [List.mem_filter] at he
        refine ⟨e', he.1, he.2, ?_⟩
        rcases h with h | h
        · exact .inl h
        · right
          rcases Nat.lt_or_ge e'.on acc.length with hlt | hge
          · rw [hpre _ hlt]; exact h
          · rw [List.getD_eq_getElem?_getD, List.getElem?_eq_none hge] at h; simp at h
    | succ i =>
      have := h4 i o' (by simpa using ho) k (by rw [List.length_append]; simp; rw [show done.length + 1 + i = done.length + (i + 1) by omega]; simpa using hk)
      exact this

theorem before_mem {ops : List Oper} {i k : Nat} {o : Oper} (ho : ops[i]? = some o) (hk : k ∈ (before ops).getD i []) : ∃ e ∈ o.after.toList, Region.binds .any e = true ∧ (k = e.on ∨ k ∈ (before ops).getD e.on []) := by
  obtain ⟨tbl, h1, h2, h3, h4⟩ := before_spec [] ops [] rfl
  have e : before ops = tbl := h1
  rw [e] at hk ⊢
  exact h4 i o ho k (by simpa using hk)

/-! ### Any order -/
section
variable {call : Nat → List AV → Hp → Option (AV × Hp)} (hs : Sound P call) {md : Nat → Nat} {ops : Array Oper} {as : List AOper} {nb u nr : Nat} {Q : Exit → Act → World → Prop} {sf : St}
  (hops : compOps P md ops ops.toList 0 = some as) (hback : ∀ (i : Nat) (o : Oper), ops[i]? = some o → ∀ e ∈ o.after.toList, Region.binds .any e = true → e.on < i)
  (hQ : ∀ a' w', At imm0 L0 h0 w0 sf a' w' → Q .normal a' w')
include hs hops hback hQ

theorem any_go : ∀ (fuel : Nat) (R : List Nat) (listed : Array Bool) (s : St) (fps : List (Nat × FP)) (a : Act) (w : World), R.length = fuel → R.Pairwise (· < ·) → listed.size = ops.size → (∀ i, i < ops.size → (listed[i]? = some true ↔ i ∉ R)) → (∀ i, i < ops.size → listed[i]? = some true ∨ listed[i]? = some false) → (∀ i ∈ R, i < ops.size) →
    (∀ i, i < ops.size → i ∉ R → ∀ k ∈ (before ops.toList).getD i [], k ∉ R) → runL call nb u nr as R s = some (sf, fps) → (∀ x ∈ fps, ∀ y ∈ fps, x.1 < y.1 → x.1 ∉ (before ops.toList).getD y.1 [] → Ap as x y) →
    AtF imm0 L0 h0 w0 (fun v => ∃ i ∈ R, v = u + i) s a w → wpAny P .any ops Q fuel listed a w
  | 0, R, listed, s, fps, a, w, hlen, hsort, hsize, hlist, htot, hin, hcl, hrun, hap, hA => by
    obtain rfl : R = [] := List.eq_nil_of_length_eq_zero hlen
    cases hrun
    refine ⟨?_, hQ a w hA.at⟩
    unfold Region.ready
    rw [List.filter_eq_nil_iff]
    intro i hi
    rw [List.mem_range] at hi
    have := (hlist i hi).2 (by simp)
    simp [Array.getD_eq_getD_getElem?, this]
  | fuel + 1, R, listed, s, fps, a, w, hlen, hsort, hsize, hlist, htot, hin, hcl, hrun, hap, hA => by
    have hlisted : ∀ j, j < ops.size → j ∉ R → listed.getD j false = true := fun j hj hjR => by
      rw [Array.getD_eq_getD_getElem?, (hlist j hj).2 hjR]; rfl
    have hready : ∀ i, i ∈ Region.ready .any ops listed ↔ i < ops.size ∧ listed.getD i true = false ∧ ∃ o, ops[i]? = some o ∧ ∀ e ∈ o.after.toList, Region.binds .any e = true → listed.getD e.on false = true := fun i => by
      unfold Region.ready
      rw [List.mem_filter, List.mem_range]
      constructor
      · rintro ⟨h1, h2⟩
        rw [Bool.and_eq_true] at h2
        have ho : ops[i]? = some ops[i] := Array.getElem?_eq_getElem h1
        refine ⟨h1, by simpa using h2.1, ops[i], ho, fun e he hb => ?_⟩
        have h3 := h2.2
        rw [ho] at h3
        simp only [Option.map_some, Option.getD_some, Array.all_eq_true'] at h3
        have := h3 e (by simpa using he)
        simpa [hb] using this
      · rintro ⟨h1, h2, o, ho, h3⟩
        refine ⟨h1, ?_⟩
        rw [Bool.and_eq_true]
        refine ⟨by simp [h2], ?_⟩
        rw [ho]
        simp only [Option.map_some, Option.getD_some, Array.all_eq_true']
        intro e he
        by_cases hb : Region.binds .any e = true
        · simp [h3 e (by simpa using he) hb]
        · simp [hb]
    refine ⟨fun hr => ?_, fun i hi => ?_⟩
    · -- something is ready
      exfalso
      obtain ⟨i, R', rfl⟩ : ∃ i R', R = i :: R' := by
        cases R with
        | nil => cases hlen
        | cons i R' => exact ⟨i, R', rfl⟩
      have hlt := hin i List.mem_cons_self
      have : i ∈ Region.ready .any ops listed := (hready i).2 ⟨hlt, by
        rcases htot i hlt with h | h
        · exact absurd List.mem_cons_self ((hlist i hlt).1 h)
        · simp [Array.getD_eq_getD_getElem?, h], ops[i], Array.getElem?_eq_getElem hlt, fun e he hb => by
          have hb' := hback i ops[i] (Array.getElem?_eq_getElem hlt) e he hb
          refine hlisted _ (by omega) fun hmem => ?_
          rcases List.mem_cons.1 hmem with h | h
          · omega
          · have := (List.pairwise_cons.1 hsort).1 _ h
            omega⟩
      rw [hr] at this
      cases this
    · obtain ⟨hlt, hun, o, ho, hed⟩ := (hready i).1 hi
      have hiR : i ∈ R := by
        by_cases h : i ∈ R
        · exact h
        · have := (hlist i hlt).2 h
          simp [Array.getD_eq_getD_getElem?, this] at hun
      have hunl : ∀ j, listed.getD j false = true → j ∉ R := fun j hj hm => by
        have hjl := hin j hm
        rcases htot j hjl with h | h
        · exact (hlist j hjl).1 h hm
        · simp [Array.getD_eq_getD_getElem?, h] at hj
      have htb : ∀ k ∈ (before ops.toList).getD i [], k ∉ R := fun k hk => by
        obtain ⟨e, he, hb, h⟩ := before_mem (by rw [Array.getElem?_toList]; exact ho) hk
        have hl := hed e he hb
        have hoR := hunl _ hl
        rcases h with rfl | h
        · exact hoR
        · have hlt' := hback i o ho e he hb
          exact hcl e.on (by omega) hoR k h
      obtain ⟨pre, post, rfl⟩ := List.append_of_mem hiR
      have hpl : ∀ j ∈ pre, j < i := fun j hj => by
        have := (List.pairwise_append.1 hsort).2.2 j hj i List.mem_cons_self
        exact this
      obtain ⟨ao, s1, fi, fs', hao, k1, k2, k3, k4⟩ := front call pre post s sf fps hrun fun x hx y hy hp hyi => hap x hx y hy (by rw [hyi]; exact hpl _ hp) (by rw [hyi]; exact fun h => htb _ h (List.mem_append_left _ hp))
      obtain ⟨kk, c1, c2, c3⟩ := (compOps_get ops.toList 0 as hops).2 i o ao (by rw [Array.getElem?_toList]; exact ho) hao
      have hni : i ∉ pre ++ post := fun h => by
        rw [List.mem_append] at h
        rcases h with h | h
        · have := hpl i h; omega
        · have := (List.pairwise_cons.1 (List.pairwise_append.1 hsort).2.1).1 i h; omega
      have hmem : ∀ j, j ∈ pre ++ i :: post ↔ j = i ∨ j ∈ pre ++ post := fun j => by
        simp only [List.mem_append, List.mem_cons]
        constructor
        · rintro (h | h | h)
          · exact .inr (.inl h)
          · exact .inl h
          · exact .inr (.inr h)
        · rintro (h | h | h)
          · exact .inr (.inl h)
          · exact .inl h
          · exact .inr (.inr h)
      refine step2_go hs hA ⟨i, hiR, rfl⟩ ho c1 c2 c3 k1 fun a' w' hA' => ?_
      refine any_go fuel (pre ++ post) _ s1 fs' a' w' (by simp at hlen ⊢; omega) (hsort.sublist (by simp)) (by simpa using hsize) (fun j hj => ?_) (fun j hj => ?_) (fun j hj => hin j ((hmem j).2 (.inr hj))) (fun j hj hjR k hk hkR => ?_) k2 (fun x hx y hy => hap x (k4.subset hx) y (k4.subset hy)) ?_
      · by_cases hji : i = j
        · subst hji
          rw [Array.getElem?_setIfInBounds_self_of_lt (by omega)]
          simp only [true_iff]
          exact hni
        · rw [Array.getElem?_setIfInBounds_ne hji, hlist j hj, hmem]
          constructor
          · exact fun h h' => h (.inr h')
          · rintro h (h' | h')
            · exact hji h'.symm
            · exact h h'
      · by_cases hji : i = j
        · subst hji
          exact .inl (Array.getElem?_setIfInBounds_self_of_lt (by omega))
        · rw [Array.getElem?_setIfInBounds_ne hji]; exact htot j hj
      · by_cases hji : j = i
        · subst hji
          exact htb k hk ((hmem k).2 (.inr hkR))
        · exact hcl j hj (fun h => by rcases (hmem j).1 h with h | h; exact hji h; exact hjR h) k hk ((hmem k).2 (.inr hkR))
      · obtain ⟨imm, L, q1, q2, q3, q4, q5, q6⟩ := hA'
        refine ⟨imm, L, q1, q2, q3, q4, q5, fun v hv => q6 v ?_⟩
        obtain ⟨j, hj, rfl⟩ := hv
        exact ⟨⟨j, (hmem j).2 (.inr hj), rfl⟩, fun e => hni (by rw [show i = j by omega]; exact hj)⟩
end
end
end Go.Pv

namespace Go.Pv
open Go

section
variable {P : Program}

theorem ofOption_log {α : Type} (o : Option α) (h : Hp) : (Pr.ofOption o).log h = [] := by cases o <;> rfl

theorem quiet_pure {iso : Nat → List AV → Option AV} {E : OpE} {F : List AV} {ao : AOp} {h : Hp} (hq : quiet ao = true) : (aop iso E F ao).log h = [] ∧ ∀ ef, (aop iso E F ao).run h = some ef → ef.wr = [] ∧ ef.nw = [] := by
  cases ao with
  | mv x => exact ⟨rfl, fun ef he => by cases he; exact ⟨rfl, rfl⟩⟩
  | pick c a b =>
    simp only [aop]
    split
    · rename_i t _; cases t <;> exact ⟨rfl, fun ef he => by cases he; exact ⟨rfl, rfl⟩⟩
    · exact ⟨rfl, fun ef he => by cases he⟩
  | fa off x =>
    simp only [aop]
    split <;> exact ⟨rfl, fun ef he => by cases he; try exact ⟨rfl, rfl⟩⟩
  | fld off n ag x =>
    simp only [aop]
    split
    · exact ⟨ofOption_log _ _, fun ef he => by obtain ⟨v, _, rfl⟩ := optMap he; exact ⟨rfl, rfl⟩⟩
    · exact ⟨rfl, fun ef he => by cases he⟩
  | bin op x y =>
    simp only [aop]
    exact ⟨ofOption_log _ _, fun ef he => by obtain ⟨v, _, rfl⟩ := optMap he; exact ⟨rfl, rfl⟩⟩
  | beq neg x y =>
    simp only [aop]
    split <;> exact ⟨rfl, fun ef he => by cases he; try exact ⟨rfl, rfl⟩⟩
  | eqs neg ks x y =>
    simp only [aop]
    split
    · exact ⟨ofOption_log _ _, fun ef he => by obtain ⟨v, _, rfl⟩ := optMap he; exact ⟨rfl, rfl⟩⟩
    · exact ⟨rfl, fun ef he => by cases he⟩
  | un op x =>
    simp only [aop]
    split <;> exact ⟨rfl, fun ef he => by cases he; try exact ⟨rfl, rfl⟩⟩
  | cvi k x =>
    simp only [aop]
    split <;> exact ⟨rfl, fun ef he => by cases he; try exact ⟨rfl, rfl⟩⟩
  | ext i x =>
    simp only [aop]
    split
    · split <;> exact ⟨rfl, fun ef he => by cases he; try exact ⟨rfl, rfl⟩⟩
    · exact ⟨rfl, fun ef he => by cases he⟩
  | ix x i =>
    simp only [aop]
    split
    · split
      · split <;> exact ⟨rfl, fun ef he => by cases he; try exact ⟨rfl, rfl⟩⟩
      · exact ⟨rfl, fun ef he => by cases he⟩
    · exact ⟨rfl, fun ef he => by cases he⟩
  | sls x lo hi =>
    simp only [aop]
    split
    · split
      · split <;> exact ⟨rfl, fun ef he => by cases he; try exact ⟨rfl, rfl⟩⟩
      · exact ⟨rfl, fun ef he => by cases he⟩
    · exact ⟨rfl, fun ef he => by cases he⟩
  | build z parts =>
    simp only [aop]
    exact ⟨ofOption_log _ _, fun ef he => by obtain ⟨v, _, rfl⟩ := optMap he; exact ⟨rfl, rfl⟩⟩
  | _ => cases hq

theorem quiet_fp {call : Nat → List AV → Hp → Option (AV × Hp)} {nb u nr : Nat} {ao : AOper} {s s' : St} {fp : FP} (hr : step2 call nb u nr ao s = some (s', fp)) (hq : quiet ao.op = true) : fp = ([], []) := by
  unfold step2 at hr
  split at hr
  · split at hr
    case h_2 => cases hr
    rename_i ef hef
    split at hr
    case isFalse => cases hr
    cases hr
    obtain ⟨q1, q2⟩ := quiet_pure (iso := isoOf call) (E := ⟨nb, u, nr⟩) (F := s.1) (h := s.2) hq
    obtain ⟨q3, q4⟩ := q2 ef hef
    rw [q1, q3, q4]; rfl
  · cases hr; rfl
  · cases hr

theorem runL_fp {call : Nat → List AV → Hp → Option (AV × Hp)} {nb u nr : Nat} {as : List AOper} : ∀ (R : List Nat) (s s' : St) (fs : List (Nat × FP)), runL call nb u nr as R s = some (s', fs) → ∀ x ∈ fs, ∃ ao s1 s2, as[x.1]? = some ao ∧ step2 call nb (u + x.1) nr ao s1 = some (s2, x.2)
  | [], s, s', fs, h, x, hx => by cases h; cases hx
  | i :: R, s, s', fs, h, x, hx => by
    obtain ⟨o, s1, fp, fps, ho, h1, h2, rfl⟩ := runL_cons call h
    rcases List.mem_cons.1 hx with rfl | hx
    · exact ⟨o, s, s1, ho, h1⟩
    · exact runL_fp R s1 s' fps h2 x hx

theorem apartFP_nil_left (y : FP) : apartFP ([], []) y = true := by simp [apartFP]
theorem apartFP_nil_right (x : FP) : apartFP x ([], []) = true := by simp [apartFP]

theorem draw_ok (hm : P.follows .mixedOrders = true) {md : Nat → Nat} {call : Nat → List AV → Hp → Option (AV × Hp)} (hs : Sound P call) : DrawOK P md call := by
  intro id ops nb as prs hc imm0 L0 h0 w0 s s' fps a w Q hr hcl hA hQ
  unfold compCode at hc
  split at hc
  case h_2 => cases hc
  rename_i as' has
  simp only [if_true] at hc has
  split at hc
  case isFalse => cases hc
  rename_i hok
  cases hc
  obtain ⟨hlen, hget⟩ := compOps_get ops.toList 0 as has
  have hlen : as.length = ops.size := hlen.trans Array.length_toList
  unfold drawOK at hok
  rw [Bool.and_eq_true, List.all_eq_true, List.all_eq_true] at hok
  obtain ⟨hback, hprs⟩ := hok
  obtain ⟨hrun, hfl⟩ := runL_of_runD call as 0 _ s' fps (fun j => by rw [Nat.zero_add]) hr
  rw [hlen] at hrun
  rw [← List.range_eq_range'] at hrun
  refine wp_region_any hm (any_go hs has (fun i o ho e he hb => ?_) hQ ops.size (List.range ops.size) _ _ _ a _ (by simp) List.pairwise_lt_range (by simp) (fun i hi => by simp [hi]) (fun i hi => by simp [hi]) (fun i hi => by simpa using hi) (fun i hi hni => absurd (by simpa using hi) hni) hrun (fun x hx y hy hlt hnb => ?_) ?_)
  · have hm' : (o, i) ∈ ops.toList.zipIdx := by
      rw [List.mem_zipIdx_iff_getElem?]
      simpa using ho
    have := hback _ hm'
    rw [Array.all_eq_true'] at this
    have := this e (by simpa using he)
    simpa [hb] using this
  · have hfs : ∀ z ∈ (fps.zipIdx 0).map (fun x => (x.2, x.1)), fps[z.1]? = some z.2 := fun z hz => by
      rw [List.mem_map] at hz
      obtain ⟨q, hq, rfl⟩ := hz
      rw [List.mem_zipIdx_iff_getElem?] at hq
      exact hq
    have hxf := hfs x hx
    have hyf := hfs y hy
    have hyl : y.1 < ops.size := by
      have := (List.getElem?_eq_some_iff.1 hyf).1
      omega
    have hmem : (x.1, y.1) ∈ looseP (before ops.toList) ops.size := by
      unfold looseP
      rw [List.mem_flatMap]
      refine ⟨y.1, by simpa using hyl, ?_⟩
      rw [List.mem_map]
      refine ⟨x.1, ?_, rfl⟩
      rw [List.mem_filter, List.mem_range]
      refine ⟨hlt, ?_⟩
      simpa using hnb
    have hap := hprs _ hmem
    split at hap
    case h_2 => cases hap
    rename_i p q hp hq
    simp only at hp hq
    refine ⟨p, q, hp, hq, hap, ?_⟩
    by_cases hqt : (as[x.1]?.any (fun o => quiet o.op) || as[y.1]?.any (fun o => quiet o.op)) = true
    · rw [hp, hq] at hqt
      simp only [Option.any_some, Bool.or_eq_true] at hqt
      rcases hqt with hqt | hqt
      · obtain ⟨ao, s1, s2, e1, e2⟩ := runL_fp _ _ _ _ hrun x hx
        rw [hp] at e1; cases e1
        rw [quiet_fp e2 hqt]; exact apartFP_nil_left _
      · obtain ⟨ao, s1, s2, e1, e2⟩ := runL_fp _ _ _ _ hrun y hy
        rw [hq] at e1; cases e1
        rw [quiet_fp e2 hqt]; exact apartFP_nil_right _
    · unfold clash at hcl
      rw [List.all_eq_true] at hcl
      have := hcl (x.1, y.1) (List.mem_filter.2 ⟨hmem, by simpa using hqt⟩)
      simpa [List.getD_eq_getElem?_getD, hxf, hyf] using this
  · have := (hA.drawn (w.drawn + 1)).opened (allocs ops) as.length
    rw [hlen] at this
    obtain ⟨imm, L, q1, q2, q3, q4, q5, q6⟩ := this
    refine ⟨imm, L, q1, q2, q3, q4, q5, fun v hv => q6 v ?_⟩
    obtain ⟨j, hj, rfl⟩ := hv
    rw [List.mem_range] at hj
    exact ⟨by omega, by omega⟩

/-- THE INTERPRETER IS SOUND. -/
theorem sound (hm : P.follows .mixedOrders = true) {md : Nat → Nat} {code : Nat → Option AFn} {ext : Nat → Option (List AV → Hp → Option (AV × Hp))} (hcode : CodeOK P md code) (hext : ExtOK P ext) (n : Nat) : Sound P (absCall code ext n) :=
  abs_sound hcode hext (fun call hs => draw_ok hm hs) n
end
end Go.Pv

namespace Go.Pv
open Go
set_option maxRecDepth 100000
set_option maxHeartbeats 8000000

/-- The code of slices.Clone for elements of so many cells and bytes. -/
def cloneA (sz bytes : Nat) (zero : List AV) : AFn := ⟨8, [.tmp 2],
  .seq (.reg 0 [⟨(some 2), .mv (.c .nils), none⟩])
  (.seq (.seq (.reg 0 [⟨(some 3), .mv (.t 0), none⟩,
      ⟨(some 4), .nilq false (.t 3), none⟩])
  (.cond (.t 4)
    (.seq (.reg 0 [⟨(some 2), .mv (.c .nils), none⟩])
    (.ret))
    (.skip)))
  (.seq (.reg 0 [⟨(some 5), .bsl sz 0 zero [], none⟩,
      ⟨(some 6), .mv (.t 0), none⟩,
      ⟨(some 7), .app sz bytes (.t 5) (.t 6), none⟩,
      ⟨(some 2), .mv (.t 7), none⟩])
  (.ret)))⟩

/-- What a call of it comes to. -/
def cloneE (sz bytes : Nat) (zero : List AV) (f : Nat) : List AV → Hp → Option (AV × Hp)
  | [.ro []], h => some (.nils, { h with nx := h.nx + 7 })
  | [.nils], h => some (.nils, { h with nx := h.nx + 7 })
  | [.emp], h => some (.nils, { h with nx := h.nx + 7 })
  | args, h => absCall (fun g => if g = f then some (cloneA sz bytes zero) else none) (fun _ => none) 2 f args h

theorem Inv.later {imm : Imm} {L : Locs} {h : Hp} {w : World} {k k' : Nat} (hI : Inv imm L { h with nx := k } w) (hk : k ≤ k') : Inv imm L { h with nx := k' } w where
  fit := hI.fit
  nx := fun u hu => hI.nx u (Nat.le_trans hk hu)
  obs := fun x => by have := hI.obs x; cases x <;> exact this
  apart := fun x y u v l m hxy hx hy => hI.apart x y u v l m hxy (by cases x <;> exact hx) (by cases y <;> exact hy)
  free := fun x u l hx => hI.free x u l (by cases x <;> exact hx)

theorem Step.later {N : Nat → Prop} {imm imm' : Imm} {L L' : Locs} {h h' : Hp} {w w' : World} {k k' : Nat} (hS : Step N imm L h w imm' L' { h' with nx := k } w') : Step N imm L h w imm' L' { h' with nx := k' } w' where
  le := hS.le
  leN := hS.leN
  lle := hS.lle
  lleN := hS.lleN
  own := fun b ⟨x, u, l, h1, h2⟩ => hS.own b ⟨x, u, l, by cases x <;> exact h1, h2⟩
  keep := hS.keep

theorem clone_run (sz bytes : Nat) (zero : List AV) (f : Nat) (b : Bool) (h : Hp) : ∃ v k, absCall (fun g => if g = f then some (cloneA sz bytes zero) else none) (fun _ => none) 2 f [.em b] h = some (v, { h with nx := k }) ∧ (v = .nils ∨ v = .emp) ∧ k ≤ h.nx + 7 ∧ h.nx ≤ k := by
  obtain ⟨bs, rs, nx⟩ := h
  cases b with
  | true => exact ⟨.nils, nx + 1 + 2 + 1, by simp [absCall, cloneA, acode, runOps, step1, aop, wantedA, ev, put, opened, Hp.app, Pr.run, resA, rvA], .inl rfl, by simp, by simp; omega⟩
  | false => exact ⟨.emp, nx + 1 + 2 + 4, by simp [absCall, cloneA, acode, runOps, step1, aop, wantedA, ev, put, opened, Hp.app, Pr.run, resA, rvA, items, appA, Pr.bind], .inr rfl, by simp, by simp; omega⟩

theorem clone_sound {P : Program} (hm : P.follows .mixedOrders = true) {md : Nat → Nat} {f : Nat} {fn : Func} {sz bytes : Nat} {zero : List AV} (hf : P.funcs[f]? = some fn) (hc : compFn P md fn = some { cloneA sz bytes zero with code := (cloneA sz bytes zero).code.erase })
    (args : List AV) (h : Hp) (v : AV) (h' : Hp) (he : cloneE sz bytes zero f args h = some (v, h')) (imm : Imm) (L : Locs) (w : World) (cargs : Array Value) (hI : Inv imm L h w) (hargs : Rels imm L args cargs) :
    CallsX P f cargs w fun x w' => h.nx ≤ h'.nx ∧ ∃ imm' L', Rel imm' L' v x ∧ Inv imm' L' h' w' ∧ Step (h.nx ≤ ·) imm L h w imm' L' h' w' := by
  have hs := abs_sound (P := P) (md := md) (code := fun g => if g = f then some (cloneA sz bytes zero) else none) (ext := fun _ => none) (fun g A hg => by
    simp only at hg
    split at hg
    · rename_i e; subst e; cases hg; exact ⟨fn, hf, hc⟩
    · cases hg) (fun g e hg => by cases hg) (fun call hs => draw_ok hm hs) 2
  have key : (∃ A c, cargs = #[.slice A 0 c]) → v = .nils → h' = { h with nx := h.nx + 7 } → CallsX P f cargs w fun x w' => h.nx ≤ h'.nx ∧ ∃ imm' L', Rel imm' L' v x ∧ Inv imm' L' h' w' ∧ Step (h.nx ≤ ·) imm L h w imm' L' h' w' := by
    rintro ⟨A, c, rfl⟩ rfl rfl
    obtain ⟨v, k, k1, k2, k3, k4⟩ := clone_run sz bytes zero f A.isNone h
    refine (hs f [.em A.isNone] h v _ k1 imm L w _ hI ⟨rfl, fun j a x ha hx => ?_⟩).mono fun x w' => ?_
    · match j, ha, hx with
      | 0, ha, hx => cases ha; cases hx; exact .of (.em rfl)
    · rintro ⟨_, imm', L', q1, q2, q3⟩
      refine ⟨by simp, imm', L', ?_, q2.later k3, q3.later⟩
      rcases k2 with rfl | rfl
      · exact q1
      · obtain ⟨b, o, rfl⟩ := q1.emp_inv; exact .of .nils
  have arg : ∀ a, Rels imm L [a] cargs → ∃ x, cargs = #[x] ∧ Rel imm L a x := fun a ⟨h1, h2⟩ => by
    obtain ⟨l⟩ := cargs
    match l, h1, h2 with
    | [x], _, h2 => exact ⟨x, rfl, h2 0 a x rfl rfl⟩
  unfold cloneE at he
  split at he
  · cases he
    obtain ⟨x, rfl, hr⟩ := arg _ hargs
    obtain ⟨_, A, c, _, rfl, _⟩ := hr.ro_data
    exact key ⟨A, c, rfl⟩ rfl rfl
  · cases he
    obtain ⟨x, rfl, hr⟩ := arg _ hargs
    obtain ⟨A, rfl⟩ := hr.nils_inv
    exact key ⟨A, 0, rfl⟩ rfl rfl
  · cases he
    obtain ⟨x, rfl, hr⟩ := arg _ hargs
    obtain ⟨b, o, rfl⟩ := hr.emp_inv
    exact key ⟨_, 0, rfl⟩ rfl rfl
  · exact hs f args h v h' he imm L w cargs hI hargs
end Go.Pv

namespace Go.Pv
open Go

section
variable {P : Program}

theorem abs_calls (hm : P.follows .mixedOrders = true) {md : Nat → Nat} {code : Nat → Option AFn} {ext : Nat → Option (List AV → Hp → Option (AV × Hp))} (hcode : CodeOK P md code) (hext : ExtOK P ext) {n f : Nat} {args : List AV} {h h' : Hp} {v : AV} (hx : ext f = none)
    (hc : absCall code ext n f args h = some (v, h')) {imm : Imm} {L : Locs} {w : World} {cargs : Array Value} (hI : Inv imm L h w) (hargs : Rels imm L args cargs) :
    Calls P f cargs w fun e w' => ∃ x, e = .returned x ∧ ∃ imm' L', Rel imm' L' v x ∧ Inv imm' L' h' w' ∧ Step (h.nx ≤ ·) imm L h w imm' L' h' w' := by
  cases n with
  | zero => cases hc
  | succ n =>
    have hs := sound hm hcode hext n
    unfold absCall at hc
    rw [hx] at hc
    simp only at hc
    split at hc
    case h_1 => cases hc
    rename_i A hA
    split at hc
    · cases hc
    · rename_i e F h1 hne hr
      split at hc
      case h_2 => cases hc
      rename_i v1 hv
      cases hc
      obtain ⟨fn, hf, hcf⟩ := hcode f A hA
      have he : e = .nrm ∨ e = .ret := by
        cases e with
        | nrm => exact .inl rfl
        | ret => exact .inr rfl
        | ex id => exact (hne id rfl).elim
      refine (body_calls hs (draw_ok hm hs) hf hcf hI hargs hr he hv).mono fun e w' => ?_
      rintro ⟨x, h1, _, h2⟩
      exact ⟨x, h1, h2⟩
    · cases hc

/-- A law: the interpreter finds it true; nothing that was there has changed. -/
theorem law_calls (hm : P.follows .mixedOrders = true) {md : Nat → Nat} {code : Nat → Option AFn} {ext : Nat → Option (List AV → Hp → Option (AV × Hp))} (hcode : CodeOK P md code) (hext : ExtOK P ext) {n f : Nat} {args : List AV} {h' : Hp} {t : Bool} (hx : ext f = none)
    (hc : absCall code ext n f args ⟨[], [], 0⟩ = some (.b t, h')) {w : World} {cargs : Array Value} (hl : args.length = cargs.size) (hargs : ∀ (j : Nat) (a : AV) (x : Value), args[j]? = some a → cargs[j]? = some x → Ro (fun b => w.heap[b]?) a x) :
    Calls P f cargs w fun e w' => e = .returned (.bool t) ∧ RowKit.Below w.heap.size w w' := by
  refine (abs_calls hm hcode hext hx hc (imm := fun b => w.heap[b]?) (L := fun _ => none) (Inv.none fun b o h => h) ⟨hl, fun j a x h1 h2 => .of (hargs j a x h1 h2)⟩).mono fun e w' => ?_
  rintro ⟨x, rfl, imm', L', hr, hI, hS⟩
  refine ⟨by rw [hr.v_inv.1], ⟨hS.keep.os, hS.keep.tape, hS.keep.output, hS.keep.size, fun k hk => hS.keep.block k hk ?_⟩⟩
  rintro ⟨y, u, l, _, hl, _⟩
  cases hl
end
end Go.Pv

namespace Go.Pv
open Go

/-- Types of which nothing is said: pointers, maps and their like; slices of what has no cells. -/
def weird (P : Program) (t : TypeId) : Bool :=
  match P.underlying t with
  | some .bool => false
  | some (.int _) => false
  | some .string => false
  | some (.slice e) => P.cellsOf e == 0
  | some (.struct _) => false
  | _ => true

mutual
/-- The cells of a value of this type. -/
inductive Fit (P : Program) : TypeId → List AV → Prop
  | bool {t : TypeId} {b : Bool} : P.underlying t = some .bool → Fit P t [.v (.bool b)]
  | int {t : TypeId} {k : IntKind} {n : Int} : P.underlying t = some (.int k) → (Lit.int k n).wf = true → Fit P t [.v (.int k n)]
  | str {t : TypeId} {s : ByteArray} : P.underlying t = some .string → s.size ≤ maxLen → Fit P t [.v (.string s)]
  | slice {t e : TypeId} {xs : List (List AV)} : P.underlying t = some (.slice e) → xs.length ≤ maxLen → (∀ x ∈ xs, Fit P e x) → Fit P t [.ro xs]
  | struct {t : TypeId} {fs : Array Field} {as : List AV} : P.underlying t = some (.struct fs) → FitS P fs.toList as → Fit P t as
  | other {t : TypeId} {n : Nat} : weird P t = true → Fit P t (List.replicate n .top)
inductive FitS (P : Program) : List Field → List AV → Prop
  | nil : FitS P [] []
  | cons {f : Field} {fs : List Field} {a as : List AV} : Fit P f.type a → FitS P fs as → FitS P (f :: fs) (a ++ as)
end

section
variable {P : Program} {W : World}

def immW (W : World) : Imm := fun b => W.heap[b]?

def RoAll (W : World) (as : List AV) (cs : List Value) : Prop := as.length = cs.length ∧ ∀ (j : Nat) (a : AV) (x : Value), as[j]? = some a → cs[j]? = some x → Ro (immW W) a x

theorem RoAll.one {a : AV} {x : Value} (h : Ro (immW W) a x) : RoAll W [a] [x] :=
  ⟨rfl, fun j b y hb hy => by
    cases j with
    | zero => cases hb; cases hy; exact h
    | succ j => simp at hb⟩

theorem RoAll.top (cs : List Value) : RoAll W (List.replicate cs.length .top) cs :=
  ⟨by simp, fun j a x ha _ => by
    rw [List.getElem?_replicate] at ha
    split at ha
    · cases ha; exact .top
    · cases ha⟩

theorem mapM_get {α β : Type} (f : α → Option β) : ∀ (l : List α) (r : List β), l.mapM f = some r → r.length = l.length ∧ ∀ (j : Nat) (a : α), l[j]? = some a → ∃ b, r[j]? = some b ∧ f a = some b
  | [], r, h => by simp at h; subst h; exact ⟨rfl, fun j a h => by simp at h⟩
  | a :: l, r, h => by
    simp only [List.mapM_cons, Option.bind_eq_bind, Option.bind_eq_some_iff, Option.pure_def, Option.some.injEq] at h
    obtain ⟨b, h1, r', h2, rfl⟩ := h
    obtain ⟨k1, k2⟩ := mapM_get f l r' h2
    refine ⟨by simp [k1], fun j c hc => ?_⟩
    cases j with
    | zero => cases hc; exact ⟨b, rfl, h1⟩
    | succ j => exact k2 j c hc

theorem fields_open {cs : List Value} {β : Type} {g : Field → Option β} : ∀ (fs : List Field) (pre : Nat) (xs : List β), (∀ (j : Nat) f, fs[j]? = some f → f.offset = pre + ((fs.take j).map fun f => P.cellsOf f.type).sum) →
    fs.mapM g = some xs → pre + (fs.map fun f => P.cellsOf f.type).sum ≤ cs.length →
    (∀ f ∈ fs, ∀ y, g f = some y → ∃ as, Fit P f.type as ∧ RoAll W as ((cs.drop f.offset).take (P.cellsOf f.type))) →
    ∃ as, FitS P fs as ∧ as.length = (fs.map fun f => P.cellsOf f.type).sum ∧ ∀ (j : Nat) (a : AV) (x : Value), as[j]? = some a → cs[pre + j]? = some x → Ro (immW W) a x
  | [], pre, xs, _, _, _, _ => ⟨[], .nil, rfl, fun j a x h => by simp at h⟩
  | f :: fs, pre, xs, hoff, hm, hlen, hg => by
    simp only [List.mapM_cons, Option.bind_eq_bind, Option.bind_eq_some_iff, Option.pure_def, Option.some.injEq] at hm
    obtain ⟨y, h1, ys, h2, rfl⟩ := hm
    obtain ⟨as, k1, k2, k3⟩ := hg f List.mem_cons_self y h1
    have ho : f.offset = pre := by simpa using hoff 0 f rfl
    simp only [List.map_cons, List.sum_cons] at hlen ⊢
    have hal : as.length = P.cellsOf f.type := by rw [k2, List.length_take, List.length_drop]; omega
    obtain ⟨bs, m1, m2, m3⟩ := fields_open fs (pre + P.cellsOf f.type) ys (fun j f' hf' => by
      have := hoff (j + 1) f' (by simpa using hf')
      simp only [List.take_succ_cons, List.map_cons, List.sum_cons] at this
      omega) h2 (by omega) (fun f' hf' => hg f' (List.mem_cons_of_mem _ hf'))
    refine ⟨as ++ bs, .cons k1 m1, by simp [hal, m2], fun j a x ha hx => ?_⟩
    rw [List.getElem?_append] at ha
    split at ha
    · rename_i hj
      refine k3 j a x ha ?_
      rw [List.getElem?_take, if_pos (by omega), List.getElem?_drop, ho]; exact hx
    · rename_i hj
      exact m3 (j - as.length) a x ha (by rw [← hx]; congr 1; omega)

theorem cells_open {base : Nat} {a : Addr} {n : Nat} {cl : List Value} (h : W.cells? base a n = some cl) : cl.length = n ∧ ∀ j x, cl[j]? = some x → W.cell? (a.add j) = some x := by
  unfold World.cells? at h
  split at h
  case isFalse => cases h
  obtain ⟨k1, k2⟩ := mapM_get _ _ _ h
  rw [List.length_range] at k1
  refine ⟨k1, fun j x hx => ?_⟩
  have hj : j < n := by rw [← k1]; exact (List.getElem?_eq_some_iff.1 hx).1
  obtain ⟨b, hb, hc⟩ := k2 j j (List.getElem?_range hj)
  rw [hx] at hb; cases hb; exact hc

theorem imm_of_cell {b o : Nat} {x : Value} (h : W.cell? ⟨b, o, none⟩ = some x) : immCell (immW W) b o = some x := by
  unfold immCell immW
  unfold World.cell? at h
  simp only at h
  split at h
  · rename_i c t fr hc; rw [hc]; simpa using h
  · cases h

theorem spot_none {a : Addr} {x : Value} (h : W.cell? a = some x) : ∃ b o, a = ⟨b, o, none⟩ := by
  obtain ⟨b, o, sp⟩ := a
  cases sp with
  | none => exact ⟨b, o, rfl⟩
  | some q =>
    unfold World.cell? at h
    split at h
    · simp at h
    · cases h

/-- Whatever is handed in is read-only data. -/
theorem arg_open {H : Type} {enc : TypeId × Value → H} {base : Nat} {spare : Nat → Bool} {held : Bool} (hl : laidOutB P = true) : ∀ (fuel : Nat) (t : TypeId) (cs : List Value) (d : DataW H) (ps : List MemPlace), t < P.types.size →
    DataW.trod enc P W base spare held fuel t cs = some (d, ps) → ∃ as, Fit P t as ∧ RoAll W as cs
  | 0, t, cs, d, ps, _, h => by cases h
  | fuel + 1, t, cs, d, ps, ht, h => by
    by_cases hw : weird P t = true
    · exact ⟨_, .other hw, RoAll.top cs⟩
    · unfold DataW.trod at h
      unfold weird at hw
      split at h <;> rename_i hu <;> (try (rw [hu] at hw; exact absurd rfl hw)) <;> (try (exfalso; revert hw; rw [hu]; simp; done))
      · exact ⟨_, .bool hu, RoAll.one (.v rfl)⟩
      · split at h
        case isFalse => cases h
        rename_i hk
        obtain ⟨rfl, hwf⟩ := hk
        exact ⟨_, .int hu hwf, RoAll.one (.v rfl)⟩
      · split at h
        case isFalse => cases h
        rename_i hk
        exact ⟨_, .str hu hk, RoAll.one (.v rfl)⟩
      · refine ⟨_, .slice (xs := []) hu (Nat.zero_le _) (fun x hx => by cases hx), RoAll.one (Ro.nil0 _ _)⟩
      · rename_i e a len cap
        have hz : 0 < P.cellsOf e := by
          rw [hu] at hw
          simp only [beq_iff_eq] at hw
          omega
        have he := kid_slice hl ht hu
        simp only at h
        split at h
        case isFalse => cases h
        rename_i hk
        rw [Option.bind_eq_some_iff] at h
        obtain ⟨elems, h1, _⟩ := h
        obtain ⟨k1, k2⟩ := mapM_get _ _ _ h1
        rw [List.length_range] at k1
        have hel : ∀ i, i < len → ∃ (cl : List Value) (as : List AV), W.cells? base (a.add (i * P.cellsOf e)) (P.cellsOf e) = some cl ∧ Fit P e as ∧ RoAll W as cl := fun i hi => by
          obtain ⟨b, _, hb⟩ := k2 i i (List.getElem?_range hi)
          rw [Option.bind_eq_some_iff] at hb
          obtain ⟨cl, hcl, htr⟩ := hb
          obtain ⟨as, m1, m2⟩ := arg_open hl fuel e cl b.1 b.2 he htr
          exact ⟨cl, as, hcl, m1, m2⟩
        let cl : Nat → List Value := fun i => if hi : i < len then Classical.choose (hel i hi) else []
        let av : Nat → List AV := fun i => if hi : i < len then Classical.choose (Classical.choose_spec (hel i hi)) else []
        have hsp : ∀ i, i < len → W.cells? base (a.add (i * P.cellsOf e)) (P.cellsOf e) = some (cl i) ∧ Fit P e (av i) ∧ RoAll W (av i) (cl i) := fun i hi => by
          have := Classical.choose_spec (Classical.choose_spec (hel i hi))
          simp only [cl, av, dif_pos hi]
          exact this
        have hcell : ∀ i j, i < len → j < P.cellsOf e → ∃ x, (cl i)[j]? = some x ∧ W.cell? ((a.add (i * P.cellsOf e)).add j) = some x := fun i j hi hj => by
          obtain ⟨q1, q2⟩ := cells_open (hsp i hi).1
          have hx : (cl i)[j]? = some ((cl i)[j]'(by omega)) := List.getElem?_eq_getElem _
          exact ⟨_, hx, q2 j _ hx⟩
        have hxl : ((List.range len).map av).length = len := by simp
        have hro : Ro (immW W) (.ro ((List.range len).map av)) (.slice (some a) ((List.range len).map av).length cap) := by
          refine .ro (sz := P.cellsOf e) (fun i j => (cl i).getD j undef) (by rw [hxl]; exact hk.2.1) (fun x hx => ?_) (fun h0 => ?_) (fun i j c b hi hj => ?_)
          · simp only [List.mem_map, List.mem_range] at hx
            obtain ⟨i, hi, rfl⟩ := hx
            rw [(hsp i hi).2.2.1, (cells_open (hsp i hi).1).1]
          · rw [hxl] at h0
            obtain ⟨x0, _, hx0⟩ := hcell 0 0 h0 hz
            have ha0 : (a.add (0 * P.cellsOf e)).add 0 = a := by simp [Addr.add]
            rw [ha0] at hx0
            obtain ⟨b, o, rfl⟩ := spot_none hx0
            refine ⟨b, o, rfl, fun i j hi hj => ?_⟩
            rw [hxl] at hi
            obtain ⟨x, hx, hc⟩ := hcell i j hi hj
            rw [Addr.add_mid, Addr.add_mid] at hc
            rw [imm_of_cell hc]
            simp [List.getD_eq_getElem?_getD, hx]
          · rw [List.getElem?_map, Option.map_eq_some_iff] at hi
            obtain ⟨i', hi', rfl⟩ := hi
            have h1 := (List.getElem?_eq_some_iff.1 hi').1
            rw [List.length_range] at h1
            rw [List.getElem?_range h1] at hi'
            cases hi'
            have hjl : j < P.cellsOf e := by
              have := (List.getElem?_eq_some_iff.1 hj).1
              rw [(hsp i h1).2.2.1, (cells_open (hsp i h1).1).1] at this
              exact this
            obtain ⟨x, hx, _⟩ := hcell i j h1 hjl
            have := (hsp i h1).2.2.2 j b x hj hx
            simpa [List.getD_eq_getElem?_getD, hx] using this
        rw [hxl] at hro
        refine ⟨_, .slice (xs := (List.range len).map av) hu (by rw [hxl]; omega) (fun x hx => ?_), RoAll.one hro⟩
        simp only [List.mem_map, List.mem_range] at hx
        obtain ⟨i, hi, rfl⟩ := hx
        exact (hsp i hi).2.1
      · rename_i cs _ _ fs
        split at h
        case isFalse => cases h
        rename_i hlen
        rw [Option.map_eq_some_iff] at h
        obtain ⟨xs, h1, _⟩ := h
        obtain ⟨q1, q2, q3⟩ := kid_struct hl ht hu
        obtain ⟨as, m1, m2, m3⟩ := fields_open (P := P) (W := W) (cs := cs) fs.toList 0 xs (fun j f hf => by rw [Nat.zero_add]; exact q3 j f hf) h1 (by omega) (fun f hf y hy => arg_open hl fuel f.type _ y.1 y.2 (q1 f hf) hy)
        exact ⟨as, .struct hu m1, by omega, fun j a x ha hx => m3 j a x ha (by rw [Nat.zero_add]; exact hx)⟩
      · cases h
end
end Go.Pv

namespace Go.Pv
open Go

section
variable {P : Program} {W : World}

theorem arg_struct {H : Type} {enc : TypeId × Value → H} {base base' : Nat} {sp : Nat → Bool} {held : Bool} {r : Reach} (hl : laidOutB P = true) {t : TypeId} (ht : t < P.types.size) {fs : Array Field} (hu : P.underlying t = some (.struct fs)) {v : Value} {d : DataW H} {ps : List MemPlace}
    (hok : Value.okWide P W r base' t v) (hT : DataW.Trod enc P W base sp held t v d ps) : ∃ es, Fit P t es ∧ Ro (immW W) (.agg es) v := by
  unfold Value.okWide at hok
  rw [hu] at hok
  obtain ⟨cs, rfl, _, _⟩ := hok
  obtain ⟨fuel, h⟩ := hT
  obtain ⟨es, h1, h2⟩ := arg_open hl fuel t _ d ps ht h
  refine ⟨es, h1, .agg (by simpa [Value.cells] using h2.1) fun j a x ha hx => h2.2 j a x ha (by simpa [Value.cells] using hx)⟩

theorem arg_cell {H : Type} {enc : TypeId × Value → H} {base : Nat} {sp : Nat → Bool} {held : Bool} (hl : laidOutB P = true) {t : TypeId} (ht : t < P.types.size) {v : Value} (hv : v.cells = #[v]) {d : DataW H} {ps : List MemPlace}
    (hT : DataW.Trod enc P W base sp held t v d ps) : ∃ a, Fit P t [a] ∧ Ro (immW W) a v := by
  obtain ⟨fuel, h⟩ := hT
  rw [hv] at h
  obtain ⟨es, h1, h2⟩ := arg_open hl fuel t _ d ps ht h
  obtain ⟨a, rfl⟩ : ∃ a, es = [a] := by
    have := h2.1
    simp at this
    exact List.length_eq_one_iff.1 this
  exact ⟨a, h1, h2.2 0 a v rfl rfl⟩

theorem cells_int {r : Reach} {base : Nat} {t : TypeId} {k : IntKind} (hu : P.underlying t = some (.int k)) {v : Value} (hok : Value.okWide P W r base t v) : v.cells = #[v] := by
  cases v <;> first | rfl | (exfalso; simp [Value.okWide, hu, Cell.okWide, Cell.ok] at hok)
theorem cells_slice {r : Reach} {base : Nat} {t e : TypeId} (hu : P.underlying t = some (.slice e)) {v : Value} (hok : Value.okWide P W r base t v) : v.cells = #[v] := by
  cases v <;> first | rfl | (exfalso; simp [Value.okWide, hu, Cell.okWide, Cell.ok] at hok)
end
end Go.Pv

namespace Go.Pv
open Go Go.ChangeShapes

theorem post_of_below {H : Type} {enc : TypeId × Value → H} {P : Program} {f : Func} {s : ChangeSpec} {apart fresh handsOn again : Bool} {W W' : World} {args : Array Value} {v : Value} {ds gs : List (DataW H)} {before pa pv : List MemPlace}
    (hW : DataW.Whole enc P f.params.toList s.vars apart W args.toList ds gs before)
    (hres : ∀ (b : Nat) (sp : Nat → Bool) (hd : Bool), DataW.TrodAll enc P W' b sp hd f.resultTypes.toList (v.resultList f.resultTypes.size) (s.fn H (ds ++ gs)).results [])
    (hargs : ∀ sp : Nat → Bool, (∀ p ∈ before, sp p.block = true) → DataW.TrodAll enc P W' 0 sp true f.params.toList args.toList (s.fn H (ds ++ gs)).args pa)
    (hvars : ∀ sp : Nat → Bool, (∀ p ∈ before, sp p.block = true) → DataW.TrodVars enc P W' sp s.vars (s.fn H (ds ++ gs)).vars pv)
    (hps : before = pa ++ pv) (hb : RowKit.Below W.heap.size W W')
    (hok : ∀ (j : Nat) (t : TypeId) (r : Value), f.resultTypes[j]? = some t → (v.resultList f.resultTypes.size)[j]? = some r → Value.okWide P W' .any 0 t r) :
    s.post enc P f apart fresh handsOn again W args v W' := by
  have hlt := hW.lt
  have hold : ∀ p ∈ before, (fun b => decide (b < W.heap.size)) p.block = true := fun p hp => by simpa using hlt p hp
  refine ⟨ds, gs, before, [], pa, pv, hW, hres _ _ _, hargs _ hold, hvars _ hold, hb.frame _, fun _ => ?_⟩
  obtain ⟨_, _, _, _, _, hz, hn⟩ := hW
  refine ⟨hok, _, _, ([] ++ pa) ++ pv, ⟨[] ++ pa, pv, trodAll_append (hargs _ (fun _ _ => rfl)) (hres _ _ _), hvars _ (fun _ _ => rfl), rfl, ?_, ?_⟩, ?_⟩
  · intro b off hp
    have hp' : MemPlace.cell b off ∈ before := by rw [hps]; simpa using hp
    rw [hb.frozen (hlt _ hp')]
    exact hz b off hp'
  · intro ha
    have := hn ha
    rw [hps] at this
    simpa using this
  · intro p hp _
    rw [hps]
    simpa using hp

/-- An argument reads as it did. -/
theorem trod_below {H : Type} {enc : TypeId × Value → H} {P : Program} {t : TypeId} (hl : laidOutB P = true) (hr : P.readableRec t = true) (hrow : t < P.types.size) {W W' : World} {v : Value} {d : DataW H} {ps : List MemPlace}
    (h : DataW.Trod enc P W 0 (fun _ => true) true t v d ps) (hb : RowKit.Below W.heap.size W W') (hlt : ∀ x ∈ ps, x.block < W.heap.size) {sp : Nat → Bool} (hsp : ∀ x ∈ ps, sp x.block = true) :
    DataW.Trod enc P W' 0 sp true t v d ps :=
  WideElems.Trod_stays hl hr hrow h (fun x hx => hb.same (hlt x hx)) hsp
end Go.Pv

namespace Go.Pv
open Go

theorem app_v (h : Hp) (v : AV) : h.app { v } = h := by simp [Hp.app]

theorem wrap_nat (n : Nat) (h : n + 1 < 2 ^ 63) : IntKind.i64.wrap ((n : Int) + 1) = ((n + 1 : Nat) : Int) := by
  rw [IntKind.wrap_i64]; omega
theorem wrap_in (n : Int) (h : -9223372036854775808 ≤ n ∧ n ≤ 9223372036854775807) : IntKind.i64.wrap n = n := by
  rw [IntKind.wrap_i64]; omega

/-- A loop over a list: the head's state is known at each place, and what comes of the rest. -/
theorem loop_list {f : St → Option (Ex × St)} {k : Nat} {M : List Bool} {σ α : Type} (l : List α) (H : Nat → σ → Nat → St) (I : Nat → σ → Prop) (Q : Nat → List α → σ → Ex → St → Prop)
    (stop : ∀ x nx, I l.length x → ∃ e s', e ≠ Ex.nrm ∧ f (H l.length x nx) = some (e, s') ∧ Q l.length [] x e s')
    (step : ∀ i (h : i < l.length) a x nx, l[i] = a → I i x →
      (∃ s' y nx', f (H i x nx) = some (.nrm, s') ∧ trunc k M s' = H (i + 1) y nx' ∧ I (i + 1) y ∧ ∀ e s, Q (i + 1) (l.drop (i + 1)) y e s → Q i (a :: l.drop (i + 1)) x e s) ∨
      (∃ e s', e ≠ Ex.nrm ∧ f (H i x nx) = some (e, s') ∧ Q i (a :: l.drop (i + 1)) x e s')) :
    ∀ (m i : Nat) (x : σ) (nx : Nat), i ≤ l.length → l.length - i < m → I i x → ∃ e s, iter f k M m (H i x nx) = some (e, s) ∧ Q i (l.drop i) x e s
  | 0, i, x, nx, hi, hm, hI => absurd hm (by omega)
  | m + 1, i, x, nx, hi, hm, hI => by
    rcases Nat.lt_or_ge i l.length with hlt | hge
    · have hd : l.drop i = l[i] :: l.drop (i + 1) := List.drop_eq_getElem_cons hlt
      rw [hd]
      rcases step i hlt l[i] x nx rfl hI with ⟨s', y, nx', h1, h2, h3, h4⟩ | ⟨e, s', h1, h2, h3⟩
      · obtain ⟨e, s, h5, h6⟩ := loop_list l H I Q stop step m (i + 1) y nx' hlt (by omega) h3
        refine ⟨e, s, ?_, h4 e s h6⟩
        rw [← h5, ← h2]
        simp only [iter, h1]
      · refine ⟨e, s', ?_, h3⟩
        unfold iter
        rw [h2]
        cases e with
        | nrm => exact absurd rfl h1
        | ret => rfl
        | ex j => rfl
    · have he : i = l.length := by omega
      subst he
      obtain ⟨e, s', h1, h2, h3⟩ := stop x nx hI
      refine ⟨e, s', ?_, by simpa using h3⟩
      unfold iter
      rw [h2]
      cases e with
      | nrm => exact absurd rfl h1
      | ret => rfl
      | ex j => rfl

/-- How a loop ends: it goes out by the label k (with what is kept in temporaries), or the function returns, a value in temporary r. -/
def LQ (k r len : Nat) (keep : List (Nat × AV)) (bs rs : List Ob) (out : Option AV) (e : Ex) (st : St) : Prop :=
  (∃ nx', st.2 = ⟨bs, rs, nx'⟩) ∧ match out with
    | none => e = .ex k ∧ st.1.length = len ∧ ∀ p ∈ keep, st.1[p.1]? = some p.2
    | some v => e = .ret ∧ st.1[r]? = some v

theorem LQ.exit {k r len : Nat} {keep : List (Nat × AV)} {bs rs : List Ob} {e : Ex} {st : St} (h : LQ k r len keep bs rs none e st) : ∃ F nx, e = .ex k ∧ st = (F, ⟨bs, rs, nx⟩) ∧ F.length = len ∧ ∀ p ∈ keep, F[p.1]? = some p.2 := by
  obtain ⟨⟨nx, h1⟩, h2, h3, h4⟩ := h
  exact ⟨st.1, nx, h2, by rw [← h1], h3, h4⟩
theorem LQ.back {k r len : Nat} {keep : List (Nat × AV)} {bs rs : List Ob} {v : AV} {e : Ex} {st : St} (h : LQ k r len keep bs rs (some v) e st) : ∃ F nx, e = .ret ∧ st = (F, ⟨bs, rs, nx⟩) ∧ F[r]? = some v := by
  obtain ⟨⟨nx, h1⟩, h2, h3⟩ := h
  exact ⟨st.1, nx, h2, by rw [← h1], h3⟩

section
variable (code : Nat → Option AFn) (ext : Nat → Option (List AV → Hp → Option (AV × Hp)))

/-- The calls of a table. -/
abbrev run1 (n : Nat) : Nat → List AV → Hp → Option (AV × Hp) := absCall code ext n

/-- Whatever the fuel, if it is enough. -/
def Is (d f : Nat) (args : List AV) (v : AV) : Prop := ∀ n, 2 ^ 64 + d ≤ n → isoOf (run1 code ext n) f args = some v

/-- What a body leaves, as a call without memory hands it back. -/
def fin (rs : List RV) : Option (Ex × St) → Option AV
  | some (.nrm, (F, h)) => (resA F h rs).bind fun v => (dr 6 v).run { h with bs := [] }
  | some (.ret, (F, h)) => (resA F h rs).bind fun v => (dr 6 v).run { h with bs := [] }
  | _ => none

theorem Is.step {d f : Nat} {args : List AV} {v : AV} {A : AFn} (hc : code f = some A)
    (h : ∀ n, 2 ^ 64 + d ≤ n → fin A.res (acode (run1 code ext n) n A.code (args ++ List.replicate (A.nt - args.length) .top, ⟨[], [], 0⟩)) = some v) (hx : ext f = none := by rfl) :
    Is code ext (d + 1) f args v := by
  intro n hn
  obtain ⟨n, rfl⟩ : ∃ m, n = m + 1 := ⟨n - 1, by omega⟩
  have h := h n (by omega)
  unfold isoOf run1 absCall
  simp only [hc, hx]
  rw [show absCall code ext n = run1 code ext n from rfl]
  revert h
  cases acode (run1 code ext n) n A.code (args ++ List.replicate (A.nt - args.length) .top, ⟨[], [], 0⟩) with
  | none => intro h; cases h
  | some x =>
    obtain ⟨e, F, h1⟩ := x
    cases e with
    | nrm => intro h; simp only [fin] at h; cases hr : resA F h1 A.res with
      | none => rw [hr] at h; cases h
      | some y => rw [hr] at h; simp only [hr]; simpa using h
    | ret => intro h; simp only [fin] at h; cases hr : resA F h1 A.res with
      | none => rw [hr] at h; cases h
      | some y => rw [hr] at h; simp only [hr]; simpa using h
    | ex j => intro h; cases h

/-- A call that sees the caller's rows (no boxes): what comes of it, whatever the fuel. -/
def Own (d f : Nat) (args : List AV) (rs : List Ob) (Q : AV → List Ob → Prop) : Prop :=
  ∀ n, 2 ^ 64 + d ≤ n → ∀ nx, ∃ v rs' nx', run1 code ext n f args ⟨[], rs, nx⟩ = some (v, ⟨[], rs', nx'⟩) ∧ Q v rs'

theorem Own.mk {d f : Nat} {args : List AV} {rs : List Ob} {Q : AV → List Ob → Prop} {A : AFn} (hc : code f = some A)
    (h : ∀ n, 2 ^ 64 + d ≤ n → ∀ nx, ∃ e F h' x, acode (run1 code ext n) n A.code (args ++ List.replicate (A.nt - args.length) .top, ⟨[], rs, nx⟩) = some (e, (F, h')) ∧ (e = .nrm ∨ e = .ret) ∧ resA F h' A.res = some x ∧ Q x h'.rs) (hx : ext f = none := by rfl) :
    Own code ext (d + 1) f args rs Q := by
  intro n hn nx
  obtain ⟨n, rfl⟩ : ∃ m, n = m + 1 := ⟨n - 1, by omega⟩
  obtain ⟨e, F, h', x, h1, h2, h3, h4⟩ := h n (by omega) nx
  refine ⟨x, h'.rs, h'.nx, ?_, h4⟩
  unfold run1 absCall
  simp only [hc, hx]
  rw [show absCall code ext n = run1 code ext n from rfl, h1]
  rcases h2 with rfl | rfl <;> simp [h3]

theorem Own.up {d d' f : Nat} {args : List AV} {rs : List Ob} {Q : AV → List Ob → Prop} (h : Own code ext d f args rs Q) (hd : d ≤ d') : Own code ext d' f args rs Q := fun n hn => h n (by omega)

theorem Is.up {d d' f : Nat} {args : List AV} {v : AV} (h : Is code ext d f args v) (hd : d ≤ d') : Is code ext d' f args v := fun n hn => h n (by omega)
end
end Go.Pv
