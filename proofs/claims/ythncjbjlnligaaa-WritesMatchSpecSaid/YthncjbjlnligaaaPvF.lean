/-
  The data of the store's laws; what the functions come to, in plain words. Conditions: none.
-/
import Derived.Test.YthncjbjlnligaaaPvE
set_option linter.unusedVariables false
set_option linter.unusedSimpArgs false
namespace Go.Pv
open Go

structure Col where
  name : ByteArray
  kind : Int
structure Val where
  kind : Int
  num : Int
  text : ByteArray
structure Ver where
  row : Int
  frm : Int
  to : Int
  vals : List Val
structure Wr where
  kind : Int
  row : Int
  vals : List Val
structure Tr where
  id : Int
  sees : Int
  writes : List Wr
structure Sto where
  cols : List Col
  vers : List Ver
  last : Int
  nextRow : Int
  nextTrans : Int
  swept : Int
  opn : List Tr
structure Sn where
  row : Int
  vals : List Val

def Col.e (c : Col) : List AV := [.s c.name, .i c.kind]
def Val.e (v : Val) : List AV := [.i v.kind, .i v.num, .s v.text]
def eVals (l : List Val) : AV := .ro (l.map Val.e)
def Ver.e (v : Ver) : List AV := [.i v.row, .i v.frm, .i v.to, eVals v.vals]
def Wr.e (w : Wr) : List AV := [.i w.kind, .i w.row, eVals w.vals]
def Tr.e (t : Tr) : List AV := [.i t.id, .i t.sees, .ro (t.writes.map Wr.e)]
def Sto.e (s : Sto) : List AV := [.ro (s.cols.map Col.e), .ro (s.vers.map Ver.e), .i s.last, .i s.nextRow, .i s.nextTrans, .i s.swept, .ro (s.opn.map Tr.e)]
def Sn.e (x : Sn) : List AV := [.i x.row, eVals x.vals]

/-- Elements that are each of this form, all together. -/
theorem ex_map {α : Type} {p : List AV → Prop} {e : α → List AV} {ok : α → Prop} (h : ∀ x, p x → ∃ a, e a = x ∧ ok a) : ∀ (xs : List (List AV)), (∀ x ∈ xs, p x) → ∃ l : List α, l.map e = xs ∧ ∀ a ∈ l, ok a
  | [], _ => ⟨[], rfl, fun a h => by cases h⟩
  | x :: xs, hx => by
    obtain ⟨a, ha, hok⟩ := h x (hx x List.mem_cons_self)
    obtain ⟨l, hl, hall⟩ := ex_map h xs fun y hy => hx y (List.mem_cons_of_mem _ hy)
    refine ⟨a :: l, by simp [ha, hl], fun b hb => ?_⟩
    rcases List.mem_cons.1 hb with rfl | hb
    · exact hok
    · exact hall b hb

section
variable {P : Program}
/-! ### What cells of a type are -/
theorem Fit.int_inv {t : TypeId} {k : IntKind} {as : List AV} (hu : P.underlying t = some (.int k)) (h : Fit P t as) : ∃ n, as = [.v (.int k n)] ∧ (Lit.int k n).wf = true := by
  cases h with
  | bool h1 => rw [hu] at h1; cases h1
  | int h1 h2 => rw [hu] at h1; cases h1; exact ⟨_, rfl, h2⟩
  | str h1 => rw [hu] at h1; cases h1
  | slice h1 => rw [hu] at h1; cases h1
  | struct h1 => rw [hu] at h1; cases h1
  | other h1 => unfold weird at h1; rw [hu] at h1; cases h1
theorem Fit.str_inv {t : TypeId} {as : List AV} (hu : P.underlying t = some .string) (h : Fit P t as) : ∃ s : ByteArray, as = [.v (.string s)] ∧ s.size ≤ maxLen := by
  cases h with
  | bool h1 => rw [hu] at h1; cases h1
  | int h1 h2 => rw [hu] at h1; cases h1
  | str h1 h2 => exact ⟨_, rfl, h2⟩
  | slice h1 => rw [hu] at h1; cases h1
  | struct h1 => rw [hu] at h1; cases h1
  | other h1 => unfold weird at h1; rw [hu] at h1; cases h1
theorem Fit.slice_inv {t e : TypeId} {as : List AV} (hu : P.underlying t = some (.slice e)) (hz : P.cellsOf e ≠ 0) (h : Fit P t as) : ∃ xs : List (List AV), as = [.ro xs] ∧ xs.length ≤ maxLen ∧ ∀ x ∈ xs, Fit P e x := by
  cases h with
  | bool h1 => rw [hu] at h1; cases h1
  | int h1 h2 => rw [hu] at h1; cases h1
  | str h1 h2 => rw [hu] at h1; cases h1
  | slice h1 h2 h3 => rw [hu] at h1; cases h1; exact ⟨_, rfl, h2, h3⟩
  | struct h1 => rw [hu] at h1; cases h1
  | other h1 => unfold weird at h1; rw [hu] at h1; simp at h1; exact absurd h1 hz
theorem Fit.struct_inv {t : TypeId} {fs : Array Field} {as : List AV} (hu : P.underlying t = some (.struct fs)) (h : Fit P t as) : FitS P fs.toList as := by
  cases h with
  | bool h1 => rw [hu] at h1; cases h1
  | int h1 h2 => rw [hu] at h1; cases h1
  | str h1 h2 => rw [hu] at h1; cases h1
  | slice h1 h2 h3 => rw [hu] at h1; cases h1
  | struct h1 h2 => rw [hu] at h1; cases h1; exact h2
  | other h1 => unfold weird at h1; rw [hu] at h1; cases h1
theorem FitS.cons_inv {f : Field} {fs : List Field} {as : List AV} (h : FitS P (f :: fs) as) : ∃ a bs, as = a ++ bs ∧ Fit P f.type a ∧ FitS P fs bs := by
  cases h with
  | cons h1 h2 => exact ⟨_, _, rfl, h1, h2⟩
theorem FitS.nil_inv {as : List AV} (h : FitS P [] as) : as = [] := by cases h; rfl
end
end Go.Pv

namespace Go.Pv
open Go

def inB (n lo hi : Int) : Bool := decide (lo ≤ n) && decide (n ≤ hi)

def textOK (l : List UInt8) : Bool := l.all fun b => decide (32 ≤ b.toNat) && decide (b.toNat ≤ 126)

def ckVal (v : Val) : Int :=
  if v.kind = 0 then (if v.num ≠ 0 ∨ v.text.size ≠ 0 then 3 else 0)
  else if v.kind = 1 then (if v.text.size ≠ 0 then 3 else if inB v.num 0 1 then 0 else 1)
  else if v.kind = 2 then (if v.text.size ≠ 0 then 3 else if inB v.num (-1000000000000000) 1000000000000000 then 0 else 1)
  else if v.kind = 3 then (if v.num ≠ 0 then 3 else if v.text.size > 200 then 2 else if textOK v.text.data.toList then 0 else 3)
  else 4

def ckRowL : List Col → List Val → Int
  | c :: cs, v :: vs => if ckVal v ≠ 0 then ckVal v else if v.kind ≠ 0 ∧ v.kind ≠ c.kind then 10 else ckRowL cs vs
  | _, _ => 0
def ckRow (c : List Col) (v : List Val) : Int := if v.length ≠ c.length then 3 else ckRowL c v

/-- A byte of a name at a place. -/
def nameB (i : Nat) (b : UInt8) : Bool := (decide (97 ≤ b.toNat) && decide (b.toNat ≤ 122)) || (decide (i ≠ 0) && (b.toNat == 95 || (decide (48 ≤ b.toNat) && decide (b.toNat ≤ 57))))
def nameL : Nat → List UInt8 → Bool
  | _, [] => true
  | i, b :: r => nameB i b && nameL (i + 1) r
def isName (s : ByteArray) : Bool := decide (s.size ≠ 0) && decide (s.size ≤ 32) && nameL 0 s.data.toList

def ckColsL : List Col → List Col → Int
  | _, [] => 0
  | pre, x :: r => if isName x.name = false then 5 else if pre.any (fun y => y.name.toList == x.name.toList) then 7 else if inB x.kind 1 3 = false then 4 else ckColsL (pre ++ [x]) r
def ckCols (c : List Col) : Int := if c.length > 20 then 2 else if c.length = 0 then 6 else ckColsL [] c

def ckVer (s : Sto) (v : Ver) : Int :=
  if inB v.row 1 (s.nextRow - 1) = false ∨ inB v.frm 1 s.last = false then 1
  else if v.to ≠ 0 ∧ (inB v.to (v.frm + 1) s.last = false ∨ v.to ≤ s.swept) then 1
  else ckRow s.cols v.vals
def offOrder (v : Ver) : Option Ver → Bool
  | none => false
  | some b => decide (v.frm < b.frm ∨ v.frm = b.frm ∧ v.row ≤ b.row)
def ckVersL (s : Sto) : Option Ver → List Ver → Int
  | _, [] => 0
  | p, v :: r => if ckVer s v ≠ 0 then ckVer s v else if offOrder v p then 8 else ckVersL s (some v) r
def clashV (a b : Ver) : Bool := a.row == b.row && (a.to == 0 || decide (a.to > b.frm))
def twiceL : List Ver → List Ver → Bool
  | _, [] => false
  | pre, v :: r => pre.any (clashV · v) || twiceL (pre ++ [v]) r
/-- By what is kept of rows: up to which commit the last version goes. -/
def twiceM : (Int → Int) → List Ver → Bool
  | _, [] => false
  | e, v :: r => if e v.row < 0 ∨ e v.row > v.frm then true else twiceM (fun n => if n = v.row then (if v.to = 0 then -1 else v.to) else e n) r
def ckVers (s : Sto) : Int := if ckVersL s none s.vers ≠ 0 then ckVersL s none s.vers else if twiceL [] s.vers then 7 else 0

def atB (v : Ver) (c : Int) : Bool := decide (v.frm ≤ c) && (v.to == 0 || decide (v.to > c))
def Ver.sn (v : Ver) : Sn := ⟨v.row, v.vals⟩
def baseS (vs : List Ver) (c : Int) : List Sn := (vs.filter (atB · c)).map Ver.sn
def placeS (l : List Sn) (row : Int) : Option Nat := l.findIdx? (·.row == row)
def Wr.sn (w : Wr) : Sn := ⟨w.row, w.vals⟩
def wroteS (l : List Sn) (w : Wr) : List Sn :=
  if w.kind = 1 then l ++ [w.sn] else match placeS l w.row with
    | none => l
    | some k => if w.kind = 2 then l.eraseIdx k else l.set k w.sn
def afterS (l : List Sn) (w : Wr) : List Sn :=
  (l.flatMap fun x => if x.row ≠ w.row then [x] else if w.kind = 3 then [w.sn] else []) ++ if w.kind = 1 then [w.sn] else []

def ckWr (s : Sto) (l : List Sn) (there : Int → Bool) (w : Wr) : Int :=
  if inB w.kind 1 3 = false then 4
  else if w.kind = 1 ∧ inB w.row 1 (s.nextRow - 1) = false then 1
  else if w.kind = 1 ∧ there w.row = true then 7
  else if w.kind ≠ 1 ∧ placeS l w.row = none then 6
  else if w.kind = 2 then (if w.vals.length > 0 then 3 else 0)
  else ckRow s.cols w.vals
def upd (there : Int → Bool) (w : Wr) : Int → Bool := fun r => there r || (w.kind == 1 && w.row == r)
/-- A transaction's writes: the fault, and which rows there are behind them. -/
def ckWrs (st : List Sn → Wr → List Sn) (s : Sto) : List Sn → (Int → Bool) → List Wr → Int × (Int → Bool)
  | _, th, [] => (0, th)
  | l, th, w :: r => if ckWr s l th w ≠ 0 then (ckWr s l th w, th) else ckWrs st s (st l w) (upd th w) r
def ckTr (s : Sto) (p : Option Tr) (t : Tr) : Int :=
  if inB t.id 1 (s.nextTrans - 1) = false then 1
  else if (match p with | some q => decide (t.id ≤ q.id) | none => false) = true then 8
  else if inB t.sees s.swept s.last = false then 1
  else if t.writes.length > 200 then 2 else 0
def ckOpenL (st : List Sn → Wr → List Sn) (s : Sto) : (Int → Bool) → Option Tr → List Tr → Int
  | _, _, [] => 0
  | th, p, t :: r => if ckTr s p t ≠ 0 then ckTr s p t else
    if (ckWrs st s (baseS s.vers t.sees) th t.writes).1 ≠ 0 then (ckWrs st s (baseS s.vers t.sees) th t.writes).1
    else ckOpenL st s (ckWrs st s (baseS s.vers t.sees) th t.writes).2 (some t) r
def hasV (s : Sto) (row : Int) : Bool := s.vers.any (·.row == row)
def ckOpen (st : List Sn → Wr → List Sn) (s : Sto) : Int := ckOpenL st s (hasV s) none s.opn

def ckStoreW (st : List Sn → Wr → List Sn) (s : Sto) : Int :=
  if ckCols s.cols ≠ 0 then ckCols s.cols
  else if s.vers.length > 3000 ∨ s.opn.length > 20 then 2
  else if inB s.last 0 1000000 = false ∨ inB s.nextRow 1 1000000 = false ∨ inB s.nextTrans 1 1000000 = false ∨ inB s.swept 0 s.last = false then 1
  else if ckVers s ≠ 0 then ckVers s
  else ckOpen st s
abbrev ckStore (s : Sto) : Int := ckStoreW wroteS s
end Go.Pv

namespace Go.Pv
open Go

def EndsI (pre : List Ver) (e : Int → Int) : Prop := ∀ r, (e r = 0 ∧ ∀ a ∈ pre, a.row ≠ r) ∨ (e r < 0 ∧ ∃ a ∈ pre, a.row = r ∧ a.to = 0) ∨ (0 < e r ∧ (∃ a ∈ pre, a.row = r ∧ a.to = e r) ∧ ∀ a ∈ pre, a.row = r → a.to ≠ 0 ∧ a.to ≤ e r)

theorem clashV_true {a b : Ver} : clashV a b = true ↔ a.row = b.row ∧ (a.to = 0 ∨ a.to > b.frm) := by
  simp [clashV]

theorem twice_eq : ∀ (rest pre : List Ver) (e : Int → Int), (∀ v ∈ rest, 1 ≤ v.frm ∧ (v.to ≠ 0 → v.frm < v.to)) → EndsI pre e → twiceM e rest = twiceL pre rest
  | [], _, _, _, _ => rfl
  | v :: r, pre, e, hg, hI => by
    have hv := hg v List.mem_cons_self
    unfold twiceM twiceL
    by_cases hc : e v.row < 0 ∨ e v.row > v.frm
    · rw [if_pos hc]
      have : pre.any (clashV · v) = true := by
        rw [List.any_eq_true]
        rcases hI v.row with ⟨h1, _⟩ | ⟨_, a, ha, h2, h3⟩ | ⟨h1, ⟨a, ha, h2, h3⟩, _⟩
        · omega
        · exact ⟨a, ha, clashV_true.2 ⟨h2, .inl h3⟩⟩
        · exact ⟨a, ha, clashV_true.2 ⟨h2, .inr (by omega)⟩⟩
      rw [this]; rfl
    · rw [if_neg hc]
      have hn : pre.any (clashV · v) = false := by
        rw [List.any_eq_false]
        intro a ha h
        obtain ⟨h1, h2⟩ := clashV_true.1 h
        rcases hI v.row with ⟨_, h3⟩ | ⟨h3, _⟩ | ⟨h3, _, h4⟩
        · exact h3 a ha h1
        · omega
        · have := h4 a ha h1; omega
      rw [hn, Bool.false_or]
      refine twice_eq r _ _ (fun x hx => hg x (List.mem_cons_of_mem _ hx)) fun n => ?_
      by_cases h : n = v.row
      · subst h
        rw [if_pos rfl]
        right
        by_cases h0 : v.to = 0
        · rw [if_pos h0]
          exact .inl ⟨by omega, v, by simp, rfl, h0⟩
        · rw [if_neg h0]
          have := hv.2 h0
          refine .inr ⟨by omega, ⟨v, by simp, rfl, rfl⟩, fun a ha hr => ?_⟩
          rcases List.mem_append.1 ha with ha | ha
          · rcases hI v.row with ⟨_, h3⟩ | ⟨h3, _⟩ | ⟨h3, _, h4⟩
            · exact absurd hr (h3 a ha)
            · omega
            · have := h4 a ha hr; omega
          · obtain rfl : a = v := by simpa using ha
            exact ⟨h0, by omega⟩
      · rw [if_neg h]
        have hm : ∀ a, a ∈ pre ++ [v] → a.row = n → a ∈ pre := fun a ha hr => by
          rcases List.mem_append.1 ha with ha | ha
          · exact ha
          · obtain rfl : a = v := by simpa using ha
            exact absurd hr.symm h
        rcases hI n with ⟨h1, h2⟩ | ⟨h1, a, ha, h2⟩ | ⟨h1, ⟨a, ha, h2⟩, h3⟩
        · exact .inl ⟨h1, fun a ha hr => h2 a (hm a ha hr) hr⟩
        · exact .inr (.inl ⟨h1, a, List.mem_append_left _ ha, h2⟩)
        · exact .inr (.inr ⟨h1, ⟨a, List.mem_append_left _ ha, h2⟩, fun a ha hr => h3 a (hm a ha hr) hr⟩)

theorem ckVer_zero {s : Sto} {v : Ver} (h : ckVer s v = 0) : (1 ≤ v.row ∧ v.row ≤ s.nextRow - 1) ∧ (1 ≤ v.frm ∧ v.frm ≤ s.last) ∧ (v.to ≠ 0 → v.frm < v.to ∧ v.to ≤ s.last) := by
  unfold ckVer at h
  split at h
  · omega
  rename_i h1
  split at h
  · omega
  rename_i h2
  simp [inB] at h1 h2
  refine ⟨⟨?_, ?_⟩, ⟨?_, ?_⟩, fun h0 => ?_⟩
  · exact (h1.1).1
  · have := (h1.1).2; omega
  · exact (h1.2).1
  · exact (h1.2).2
  · have := h2 h0; omega

theorem ckVersL_zero {s : Sto} : ∀ (l : List Ver) (p : Option Ver), ckVersL s p l = 0 → ∀ v ∈ l, ckVer s v = 0
  | [], _, _ => fun v h => by cases h
  | v :: r, p, h => by
    unfold ckVersL at h
    split at h
    · rename_i h1; exact absurd h h1
    rename_i h1
    split at h
    · omega
    intro x hx
    rcases List.mem_cons.1 hx with rfl | hx
    · simpa using h1
    · exact ckVersL_zero r _ h x hx

/-- What is kept of rows tells what all pairs tell. -/
theorem twice_ends {s : Sto} (h : ckVersL s none s.vers = 0) : twiceM (fun _ => 0) s.vers = twiceL [] s.vers := by
  refine twice_eq _ _ _ (fun v hv => ?_) fun r => .inl ⟨rfl, fun a ha => by cases ha⟩
  have := ckVer_zero (ckVersL_zero _ _ h v hv)
  exact ⟨this.2.1.1, fun h0 => (this.2.2 h0).1⟩

/-! ### Writes -/
def rowsOf (l : List Sn) : List Int := l.map Sn.row

theorem flat_id {l : List Sn} {w : Wr} (h : ∀ x ∈ l, x.row ≠ w.row) : (l.flatMap fun x => if x.row ≠ w.row then [x] else if w.kind = 3 then [w.sn] else []) = l := by
  induction l with
  | nil => rfl
  | cons x r ih =>
    rw [List.flatMap_cons, if_pos (h x List.mem_cons_self), ih fun y hy => h y (List.mem_cons_of_mem _ hy)]
    rfl

theorem wrote_flat {w : Wr} (hk : w.kind ≠ 1) (hk2 : w.kind = 2 ∨ w.kind = 3) : ∀ {l : List Sn}, (rowsOf l).Nodup →
    (match placeS l w.row with | none => l | some k => if w.kind = 2 then l.eraseIdx k else l.set k w.sn) = (l.flatMap fun x => if x.row ≠ w.row then [x] else if w.kind = 3 then [w.sn] else [])
  | [], _ => rfl
  | x :: r, hn => by
    have hn' : x.row ∉ rowsOf r ∧ (rowsOf r).Nodup := by simpa [rowsOf] using hn
    have ih := wrote_flat hk hk2 hn'.2
    rw [List.flatMap_cons]
    unfold placeS
    rw [List.findIdx?_cons]
    by_cases hx : x.row = w.row
    · have hr : ∀ y ∈ r, y.row ≠ w.row := fun y hy h => hn'.1 (by rw [hx, ← h]; exact List.mem_map_of_mem hy)
      rw [if_pos (by simpa using hx), flat_id hr]
      simp only [hx]
      rcases hk2 with h2 | h3
      · simp [h2]
      · simp [h3]
    · rw [if_neg (by simpa using hx), if_pos hx]
      rw [← ih]
      unfold placeS
      cases hf : r.findIdx? (fun y => y.row == w.row) with
      | none => simp
      | some k => by_cases h2 : w.kind = 2 <;> simp [h2]

theorem wrote_after {l : List Sn} {w : Wr} (hk : 1 ≤ w.kind ∧ w.kind ≤ 3) (hn : (rowsOf l).Nodup) (h1 : w.kind = 1 → w.row ∉ rowsOf l) : wroteS l w = afterS l w := by
  unfold wroteS afterS
  by_cases h : w.kind = 1
  · rw [if_pos h, if_pos h, flat_id]
    intro x hx hr
    exact h1 h (by rw [← hr]; exact List.mem_map_of_mem hx)
  · rw [if_neg h, if_neg h, List.append_nil]
    exact wrote_flat h (by omega) hn

theorem flat_rows3 {w : Wr} (h : w.kind = 3) : ∀ (l : List Sn), rowsOf (l.flatMap fun x => if x.row ≠ w.row then [x] else if w.kind = 3 then [w.sn] else []) = rowsOf l
  | [] => rfl
  | x :: r => by
    rw [List.flatMap_cons]
    have := flat_rows3 h r
    unfold rowsOf at this ⊢
    rw [List.map_append, this]
    by_cases hx : x.row = w.row
    · rw [if_neg (by simpa using hx), if_pos h]; simp [Wr.sn, hx]
    · rw [if_pos hx]; simp

theorem flat_rows2 {w : Wr} (h : w.kind ≠ 3) : ∀ (l : List Sn), (l.flatMap fun x => if x.row ≠ w.row then [x] else if w.kind = 3 then [w.sn] else []) = l.filter fun x => x.row ≠ w.row
  | [] => rfl
  | x :: r => by
    rw [List.flatMap_cons, flat_rows2 h r]
    by_cases hx : x.row = w.row
    · simp [hx, h]
    · simp [hx]

theorem after_rows {l : List Sn} {w : Wr} (hn : (rowsOf l).Nodup) (h1 : w.kind = 1 → w.row ∉ rowsOf l) : (rowsOf (afterS l w)).Nodup ∧ ∀ r ∈ rowsOf (afterS l w), r ∈ rowsOf l ∨ (w.kind = 1 ∧ r = w.row) := by
  unfold afterS
  by_cases h : w.kind = 1
  · rw [if_pos h, flat_id (fun x hx hr => h1 h (by rw [← hr]; exact List.mem_map_of_mem hx))]
    have e : rowsOf (l ++ [w.sn]) = rowsOf l ++ [w.row] := by simp [rowsOf, Wr.sn]
    rw [e]
    refine ⟨?_, fun r hr => ?_⟩
    · rw [List.nodup_append]
      refine ⟨hn, by simp, fun a ha b hb => ?_⟩
      obtain rfl : b = w.row := by simpa using hb
      exact fun hab => h1 h (hab ▸ ha)
    · rcases List.mem_append.1 hr with hr | hr
      · exact .inl hr
      · exact .inr ⟨h, by simpa using hr⟩
  · rw [if_neg h, List.append_nil]
    by_cases h3 : w.kind = 3
    · rw [flat_rows3 h3]
      exact ⟨hn, fun r hr => .inl hr⟩
    · rw [flat_rows2 h3]
      have hs : (rowsOf (l.filter fun x => x.row ≠ w.row)).Sublist (rowsOf l) := List.Sublist.map _ List.filter_sublist
      exact ⟨hs.nodup hn, fun r hr => .inl (hs.subset hr)⟩

theorem ckWr_zero {s : Sto} {l : List Sn} {th : Int → Bool} {w : Wr} (h : ckWr s l th w = 0) : (1 ≤ w.kind ∧ w.kind ≤ 3) ∧ (w.kind = 1 → th w.row = false) ∧ (w.kind ≠ 1 → placeS l w.row ≠ none) := by
  unfold ckWr at h
  split at h
  · omega
  rename_i h1
  split at h
  · omega
  split at h
  · omega
  rename_i h2
  split at h
  · omega
  rename_i h3
  refine ⟨by simpa [inB] using h1, fun hk => ?_, fun hk hp => h3 ⟨hk, hp⟩⟩
  cases ht : th w.row with
  | false => rfl
  | true => exact absurd ⟨hk, ht⟩ h2

theorem ckWrs_eq {s : Sto} : ∀ (ws : List Wr) (l : List Sn) (th : Int → Bool), (rowsOf l).Nodup → (∀ r ∈ rowsOf l, th r = true) → ckWrs wroteS s l th ws = ckWrs afterS s l th ws
  | [], _, _, _, _ => rfl
  | w :: ws, l, th, hn, ht => by
    unfold ckWrs
    by_cases h : ckWr s l th w = 0
    · rw [if_neg (by simpa using h), if_neg (by simpa using h)]
      obtain ⟨h1, h2, h3⟩ := ckWr_zero h
      have h4 : w.kind = 1 → w.row ∉ rowsOf l := fun hk hr => by
        have := ht _ hr; rw [h2 hk] at this; cases this
      rw [wrote_after h1 hn h4]
      obtain ⟨h5, h6⟩ := after_rows hn h4
      refine ckWrs_eq ws _ _ h5 fun r hr => ?_
      rcases h6 r hr with h7 | ⟨h7, h8⟩
      · simp [upd, ht r h7]
      · simp [upd, h7, h8]
    · rw [if_pos (by simpa using h), if_pos (by simpa using h)]

theorem ckWrs_mono {st : List Sn → Wr → List Sn} {s : Sto} : ∀ (ws : List Wr) (l : List Sn) (th : Int → Bool) (r : Int), th r = true → (ckWrs st s l th ws).2 r = true
  | [], _, _, _, h => h
  | w :: ws, l, th, r, h => by
    unfold ckWrs
    split
    · exact h
    · exact ckWrs_mono ws _ _ r (by simp [upd, h])

theorem twice_pw : ∀ (rest pre : List Ver), pre.Pairwise (fun a b => clashV a b = false) → twiceL pre rest = false → (pre ++ rest).Pairwise (fun a b => clashV a b = false)
  | [], pre, hp, _ => by simpa using hp
  | v :: r, pre, hp, h => by
    unfold twiceL at h
    rw [Bool.or_eq_false_iff] at h
    have := twice_pw r (pre ++ [v]) (by
      rw [List.pairwise_append]
      refine ⟨hp, by simp, fun a ha b hb => ?_⟩
      obtain rfl : b = v := by simpa using hb
      have := List.any_eq_false.1 h.1 a ha
      simpa using this) h.2
    simpa using this

theorem base_rows {s : Sto} (h : twiceL [] s.vers = false) (c : Int) : (rowsOf (baseS s.vers c)).Nodup ∧ ∀ r ∈ rowsOf (baseS s.vers c), hasV s r = true := by
  have hp : s.vers.Pairwise (fun a b => clashV a b = false) := by simpa using twice_pw s.vers [] (by simp) h
  have e : rowsOf (baseS s.vers c) = (s.vers.filter (atB · c)).map Ver.row := by
    unfold rowsOf baseS; rw [List.map_map]; rfl
  rw [e]
  refine ⟨?_, fun r hr => ?_⟩
  · unfold List.Nodup
    rw [List.pairwise_map]
    refine (hp.filter (atB · c)).imp_of_mem fun {a b} ha hb hc hr => ?_
    have h1 := (List.mem_filter.1 ha).2
    have h2 := (List.mem_filter.1 hb).2
    have h3 : ¬ clashV a b = true := by rw [hc]; simp
    rw [clashV_true] at h3
    simp [atB] at h1 h2
    omega
  · obtain ⟨v, hv, rfl⟩ := List.mem_map.1 hr
    unfold hasV
    rw [List.any_eq_true]
    exact ⟨v, (List.mem_filter.1 hv).1, by simp⟩

theorem ckOpenL_eq {s : Sto} (h : twiceL [] s.vers = false) : ∀ (ts : List Tr) (th : Int → Bool) (p : Option Tr), (∀ r, hasV s r = true → th r = true) → ckOpenL wroteS s th p ts = ckOpenL afterS s th p ts
  | [], _, _, _ => rfl
  | t :: ts, th, p, ht => by
    obtain ⟨h1, h2⟩ := base_rows h t.sees
    have e := ckWrs_eq (s := s) t.writes (baseS s.vers t.sees) th h1 fun r hr => ht r (h2 r hr)
    unfold ckOpenL
    rw [e]
    split
    · rfl
    split
    · rfl
    exact ckOpenL_eq h ts _ _ fun r hr => ckWrs_mono _ _ _ r (ht r hr)

/-- The program's way to step over writes, and the document's: the check of a store is the same. -/
theorem ckStore_eq (s : Sto) : ckStoreW wroteS s = ckStoreW afterS s := by
  unfold ckStoreW
  split
  · rfl
  split
  · rfl
  split
  · rfl
  split
  · rfl
  rename_i h
  unfold ckVers at h
  split at h
  · rename_i h1; exact absurd h1 h
  · split at h
    · simp at h
    · rename_i h2
      exact ckOpenL_eq (by simpa using h2) _ _ _ fun r hr => hr
end Go.Pv

namespace Go.Pv
open Go

def seesS (s : Sto) (t : Tr) : List Sn := t.writes.foldl wroteS (baseS s.vers t.sees)
def seesA (s : Sto) (t : Tr) : List Sn := t.writes.foldl afterS (baseS s.vers t.sees)

/-- Writes that can be stepped over, one behind another. -/
def WOk : List Sn → List Wr → Prop
  | _, [] => True
  | l, w :: r => ((1 ≤ w.kind ∧ w.kind ≤ 3) ∧ (w.kind ≠ 1 → placeS l w.row ≠ none)) ∧ WOk (wroteS l w) r

theorem wok_of {s : Sto} : ∀ (ws : List Wr) (l : List Sn) (th : Int → Bool), (ckWrs wroteS s l th ws).1 = 0 → WOk l ws
  | [], _, _, _ => trivial
  | w :: ws, l, th, h => by
    unfold ckWrs at h
    split at h
    · rename_i q; exact absurd h q
    · rename_i q
      obtain ⟨h1, _, h3⟩ := ckWr_zero (by simpa using q)
      exact ⟨⟨h1, h3⟩, wok_of ws _ _ h⟩

theorem sees_eqL {s : Sto} : ∀ (ws : List Wr) (l : List Sn) (th : Int → Bool), (rowsOf l).Nodup → (∀ r ∈ rowsOf l, th r = true) → (ckWrs wroteS s l th ws).1 = 0 → ws.foldl wroteS l = ws.foldl afterS l ∧ (rowsOf (ws.foldl wroteS l)).Nodup
  | [], _, _, hn, _, _ => ⟨rfl, hn⟩
  | w :: ws, l, th, hn, ht, h => by
    unfold ckWrs at h
    split at h
    · rename_i q; exact absurd h q
    · rename_i q
      obtain ⟨h1, h2, h3⟩ := ckWr_zero (by simpa using q)
      have h4 : w.kind = 1 → w.row ∉ rowsOf l := fun hk hr => by
        have := ht _ hr; rw [h2 hk] at this; cases this
      rw [wrote_after h1 hn h4] at h
      obtain ⟨h5, h6⟩ := after_rows hn h4
      rw [List.foldl_cons, List.foldl_cons, wrote_after h1 hn h4]
      refine sees_eqL ws _ _ h5 (fun r hr => ?_) h
      rcases h6 r hr with h7 | ⟨h7, h8⟩
      · simp [upd, ht r h7]
      · simp [upd, h7, h8]

theorem ckOpenL_zero {s : Sto} : ∀ (ts : List Tr) (th : Int → Bool) (p : Option Tr), (∀ r, hasV s r = true → th r = true) → ckOpenL wroteS s th p ts = 0 →
    ∀ t ∈ ts, (∃ p, ckTr s p t = 0) ∧ ∃ th, (∀ r, hasV s r = true → th r = true) ∧ (ckWrs wroteS s (baseS s.vers t.sees) th t.writes).1 = 0
  | [], _, _, _, _ => fun t ht => by cases ht
  | t :: ts, th, p, hth, h => by
    unfold ckOpenL at h
    split at h
    · rename_i q; exact absurd h q
    rename_i q1
    split at h
    · rename_i q; exact absurd h q
    rename_i q2
    intro t' ht'
    rcases List.mem_cons.1 ht' with rfl | ht'
    · exact ⟨⟨p, by simpa using q1⟩, th, hth, by simpa using q2⟩
    · exact ckOpenL_zero ts _ _ (fun r hr => ckWrs_mono _ _ _ r (hth r hr)) h t' ht'

/-- The parts of a check that says nothing. -/
theorem ckStore_zero {s : Sto} (h : ckStore s = 0) : ckCols s.cols = 0 ∧ ckVersL s none s.vers = 0 ∧ twiceL [] s.vers = false ∧ ckOpen wroteS s = 0 := by
  unfold ckStore ckStoreW at h
  split at h
  · rename_i q; exact absurd h q
  rename_i q1
  split at h
  · omega
  split at h
  · omega
  split at h
  · rename_i q; exact absurd h q
  rename_i q2
  unfold ckVers at q2
  split at q2
  · rename_i q; exact absurd q2 (by simpa using q)
  rename_i q3
  split at q2
  · simp at q2
  rename_i q4
  exact ⟨by simpa using q1, by simpa using q3, by simpa using q4, h⟩

theorem ckTr_zero {s : Sto} {p : Option Tr} {t : Tr} (hp : ckTr s p t = 0) : (s.swept ≤ t.sees ∧ t.sees ≤ s.last) ∧ t.writes.length ≤ 200 := by
  have h : ¬ inB t.sees s.swept s.last = false ∧ ¬ t.writes.length > 200 := by
    unfold ckTr at hp
    split at hp
    · omega
    split at hp
    all_goals
      split at hp
      · omega
      split at hp
      · omega
      split at hp
      · omega
      exact ⟨by assumption, by assumption⟩
  obtain ⟨h1, h2⟩ := h
  simp [inB] at h1
  omega

theorem tr_ok {s : Sto} (h : ckStore s = 0) {t : Tr} (ht : t ∈ s.opn) : WOk (baseS s.vers t.sees) t.writes ∧ seesS s t = seesA s t ∧ (rowsOf (seesS s t)).Nodup ∧ (s.swept ≤ t.sees ∧ t.sees ≤ s.last) ∧ t.writes.length ≤ 200 := by
  obtain ⟨_, _, h2, h3⟩ := ckStore_zero h
  obtain ⟨⟨p, hp⟩, th, h4, h5⟩ := ckOpenL_zero s.opn (hasV s) none (fun r hr => hr) h3 t ht
  obtain ⟨b1, b2⟩ := base_rows h2 t.sees
  obtain ⟨e1, e2⟩ := sees_eqL t.writes (baseS s.vers t.sees) th b1 (fun r hr => h4 r (b2 r hr)) h5
  refine ⟨wok_of _ _ _ h5, e1, e2, ?_, ?_⟩
  · exact (ckTr_zero hp).1
  · exact (ckTr_zero hp).2
end Go.Pv

namespace Go.Pv
open Go
theorem ba_len (s : ByteArray) : s.data.toList.length = s.size := Array.length_toList
theorem ba_get (s : ByteArray) (i : Nat) (h : i < s.data.toList.length) : s[i]? = some s.data.toList[i] := by
  have h' : i < s.size := by rw [← ba_len]; exact h
  rw [getElem?_pos s i h']
  rfl
theorem emp_eq (s : ByteArray) : (s.toList == (⟨#[]⟩ : ByteArray).toList) = (s.size == 0) := by
  rw [ByteArray.toList_eq, ByteArray.toList_eq, ← ba_len]
  cases s.data.toList with
  | nil => rfl
  | cons a r => rfl
theorem emp_is (s : ByteArray) : s.toList.isEmpty = decide (s.size = 0) := by
  rw [ByteArray.toList_eq, ← ba_len]
  cases s.data.toList with
  | nil => rfl
  | cons a r => rfl
theorem emp_iff (s : ByteArray) : (s.toList = []) = (s.size = 0) := by
  rw [ByteArray.toList_eq, ← ba_len]
  cases s.data.toList with
  | nil => simp
  | cons a r => simp
theorem beq_int (a b : Int) : (a == b) = decide (a = b) := by by_cases h : a = b <;> simp [h]
theorem bne_int (a b : Int) : (a != b) = !decide (a = b) := by by_cases h : a = b <;> simp [h]
end Go.Pv
