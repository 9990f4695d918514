/-
  The functions' code in the interpreter's form, first part. Conditions: none.
-/
import Derived.Test.YthncjbjlnligaaaPvF
import Derived.Test.YthncjbjlnligaaaProg
import Derived.KernelRfl
set_option linter.unusedVariables false
set_option linter.unusedSimpArgs false
namespace Go.Pv
open Go Go.Proofs
set_option maxRecDepth 100000
def md : Nat → Nat := fun f => if [42,91,92,93,53,103,88,74,51,87,76,77].contains f then 1 else if [111,106,100,67,64].contains f then 2 else 0

/-- peristyle/value.CheckColumns -/
def A41M0 : List Bool := [true, false, false, false, true, false, false, false, false, false, false, false, false, true, true, true, false, false, false, false, false, false, false, false, false, false, true, true, true, false, false, false, false, false, false, false, false, false, false, false, false, false, false]
def A41L0 : AC :=
  .seq (.reg 0 [⟨(some 29), .bin .lss (.t 28) (.t 27), none⟩])
  (.seq (.cond (.t 29)
    (.skip)
    (.exit 2))
  (.seq (.block 3
    (.seq (.reg 1 [⟨(some 30), .ia 2 (.t 26) (.t 28), none⟩,
        ⟨(some 31), .load 2 true (.t 30), none⟩,
        ⟨(some 6), .alloc 0 [(.v (.string ⟨#[]⟩)), (.v (.int .i64 0))], none⟩,
        ⟨none, .store 2 (.t 6) (.t 31), none⟩])
    (.seq (.reg 0 [⟨(some 32), .fa 0 (.t 6), none⟩,
        ⟨(some 33), .load 1 false (.t 32), none⟩,
        ⟨(some 34), .fa 0 (.t 4), none⟩,
        ⟨(some 35), .load 1 false (.t 34), none⟩,
        ⟨(some 36), .bin .eql (.t 33) (.t 35), none⟩])
    (.cond (.t 36)
      (.seq (.reg 0 [⟨(some 2), .mv (.c (.v (.int .i64 7))), none⟩])
      (.ret))
      (.skip)))))
  (.reg 0 [⟨(some 37), .bin .add (.t 28) (.c (.v (.int .i64 1))), none⟩,
      ⟨(some 28), .mv (.t 37), none⟩])))
def A41M1 : List Bool := [true, false, false, false, false, false, false, false, false, false, false, false, false, true, true, true, false, false, false, false, false, false, false, false, false, false, false, false, false, false, false, false, false, false, false, false, false, false, false, false, false, false, false]
def A41L1 : AC :=
  .seq (.reg 0 [⟨(some 16), .bin .lss (.t 15) (.t 14), none⟩])
  (.seq (.cond (.t 16)
    (.skip)
    (.exit 0))
  (.seq (.block 1
    (.seq (.reg 1 [⟨(some 17), .mv (.t 15), none⟩,
        ⟨(some 18), .ia 2 (.t 13) (.t 15), none⟩,
        ⟨(some 19), .load 2 true (.t 18), none⟩,
        ⟨(some 4), .alloc 0 [(.v (.string ⟨#[]⟩)), (.v (.int .i64 0))], none⟩,
        ⟨(some 3), .mv (.t 17), none⟩,
        ⟨none, .store 2 (.t 4) (.t 19), none⟩])
    (.seq (.seq (.reg 0 [⟨(some 20), .fa 0 (.t 4), none⟩,
        ⟨(some 21), .load 1 false (.t 20), none⟩,
        ⟨(some 22), .call 0 83 [(.t 21)], none⟩,
        ⟨(some 23), .un .not (.t 22), none⟩])
    (.cond (.t 23)
      (.seq (.reg 0 [⟨(some 2), .mv (.c (.v (.int .i64 5))), none⟩])
      (.ret))
      (.skip)))
    (.seq (.seq (.reg 0 [⟨(some 24), .mv (.t 0), none⟩,
        ⟨(some 25), .mv (.t 3), none⟩,
        ⟨(some 26), .sl 2 (.t 24) none (some (.t 25)), none⟩,
        ⟨(some 27), .len false (.t 26), none⟩,
        ⟨(some 28), .mv (.c (.v (.int .i64 0))), none⟩])
    (.block 2
      (.loop A41M0 A41L0)))
    (.seq (.reg 0 [⟨(some 38), .fa 1 (.t 4), none⟩,
        ⟨(some 39), .load 1 false (.t 38), none⟩,
        ⟨(some 40), .call 0 44 [(.t 39), (.c (.v (.int .i64 1))), (.c (.v (.int .i64 3)))], none⟩,
        ⟨(some 41), .un .not (.t 40), none⟩])
    (.cond (.t 41)
      (.seq (.reg 0 [⟨(some 2), .mv (.c (.v (.int .i64 4))), none⟩])
      (.ret))
      (.skip)))))))
  (.reg 0 [⟨(some 42), .bin .add (.t 15) (.c (.v (.int .i64 1))), none⟩,
      ⟨(some 15), .mv (.t 42), none⟩])))
def A41 : AFn := ⟨43, [.tmp 2],
  .seq (.reg 0 [⟨(some 2), .mv (.c (.v (.int .i64 0))), none⟩])
  (.seq (.seq (.reg 0 [⟨(some 7), .mv (.t 0), none⟩,
      ⟨(some 8), .len false (.t 7), none⟩,
      ⟨(some 9), .bin .gtr (.t 8) (.c (.v (.int .i64 20))), none⟩])
  (.cond (.t 9)
    (.seq (.reg 0 [⟨(some 2), .mv (.c (.v (.int .i64 2))), none⟩])
    (.ret))
    (.skip)))
  (.seq (.seq (.reg 0 [⟨(some 10), .mv (.t 0), none⟩,
      ⟨(some 11), .len false (.t 10), none⟩,
      ⟨(some 12), .bin .eql (.t 11) (.c (.v (.int .i64 0))), none⟩])
  (.cond (.t 12)
    (.seq (.reg 0 [⟨(some 2), .mv (.c (.v (.int .i64 6))), none⟩])
    (.ret))
    (.skip)))
  (.seq (.seq (.reg 0 [⟨(some 13), .mv (.t 0), none⟩,
      ⟨(some 14), .len false (.t 13), none⟩,
      ⟨(some 15), .mv (.c (.v (.int .i64 0))), none⟩])
  (.block 0
    (.loop A41M1 A41L1)))
  (.seq (.reg 0 [⟨(some 2), .mv (.c (.v (.int .i64 0))), none⟩])
  (.ret)))))⟩
/-- Live: [0, 4, 13, 14, 15, 26, 27, 28] -/
abbrev A41H0 (t0 t4 t13 t14 t15 t26 t27 t28 : AV) : List AV := [t0, .top, .top, .top, t4, .top, .top, .top, .top, .top, .top, .top, .top, t13, t14, t15, .top, .top, .top, .top, .top, .top, .top, .top, .top, .top, t26, t27, t28, .top, .top, .top, .top, .top, .top, .top, .top, .top, .top, .top, .top, .top, .top]
theorem A41M0_eq (t0 t1 t2 t3 t4 t5 t6 t7 t8 t9 t10 t11 t12 t13 t14 t15 t16 t17 t18 t19 t20 t21 t22 t23 t24 t25 t26 t27 t28 t29 t30 t31 t32 t33 t34 t35 t36 t37 t38 t39 t40 t41 t42 : AV) : mask A41M0 [t0, t1, t2, t3, t4, t5, t6, t7, t8, t9, t10, t11, t12, t13, t14, t15, t16, t17, t18, t19, t20, t21, t22, t23, t24, t25, t26, t27, t28, t29, t30, t31, t32, t33, t34, t35, t36, t37, t38, t39, t40, t41, t42] = [t0, .top, .top, .top, t4, .top, .top, .top, .top, .top, .top, .top, .top, t13, t14, t15, .top, .top, .top, .top, .top, .top, .top, .top, .top, .top, t26, t27, t28, .top, .top, .top, .top, .top, .top, .top, .top, .top, .top, .top, .top, .top, .top] := rfl
/-- Live: [0, 13, 14, 15] -/
abbrev A41H1 (t0 t13 t14 t15 : AV) : List AV := [t0, .top, .top, .top, .top, .top, .top, .top, .top, .top, .top, .top, .top, t13, t14, t15, .top, .top, .top, .top, .top, .top, .top, .top, .top, .top, .top, .top, .top, .top, .top, .top, .top, .top, .top, .top, .top, .top, .top, .top, .top, .top, .top]
theorem A41M1_eq (t0 t1 t2 t3 t4 t5 t6 t7 t8 t9 t10 t11 t12 t13 t14 t15 t16 t17 t18 t19 t20 t21 t22 t23 t24 t25 t26 t27 t28 t29 t30 t31 t32 t33 t34 t35 t36 t37 t38 t39 t40 t41 t42 : AV) : mask A41M1 [t0, t1, t2, t3, t4, t5, t6, t7, t8, t9, t10, t11, t12, t13, t14, t15, t16, t17, t18, t19, t20, t21, t22, t23, t24, t25, t26, t27, t28, t29, t30, t31, t32, t33, t34, t35, t36, t37, t38, t39, t40, t41, t42] = [t0, .top, .top, .top, .top, .top, .top, .top, .top, .top, .top, .top, .top, t13, t14, t15, .top, .top, .top, .top, .top, .top, .top, .top, .top, .top, .top, .top, .top, .top, .top, .top, .top, .top, .top, .top, .top, .top, .top, .top, .top, .top, .top] := rfl
theorem A41_is : compFn Try.prog md Try.f41 = some { A41 with code := A41.code.erase } := by kernel_rfl

/-- slices.Clone[[]peristyle/api.Column,peristyle/api.Column] -/
def A42 : AFn := ⟨8, [.tmp 2],
  .seq (.reg 0 [⟨(some 2), .mv (.c .nils), none⟩])
  (.seq (.seq (.reg 0 [⟨(some 3), .mv (.t 0), none⟩,
      ⟨(some 4), .nilq false (.t 3), none⟩])
  (.cond (.t 4)
    (.seq (.reg 0 [⟨(some 2), .mv (.c .nils), none⟩])
    (.ret))
    (.skip)))
  (.seq (.reg 0 [⟨(some 5), .bsl 2 0 [(.v (.string ⟨#[]⟩)), (.v (.int .i64 0))] [], none⟩,
      ⟨(some 6), .mv (.t 0), none⟩,
      ⟨(some 7), .app 2 24 (.t 5) (.t 6), none⟩,
      ⟨(some 2), .mv (.t 7), none⟩])
  (.ret)))⟩
theorem A42_is : compFn Try.prog md Try.f42 = some { A42 with code := A42.code.erase } := by kernel_rfl

/-- peristyle/peristyleref1.CheckColumns -/
def A43M0 : List Bool := [true, false, false, true, true, false, false, false, false, false, false, false, false, false, false, false, false, false, false, false, false, false, false, false, false, false, false, false, false, false, false, false, false, false, false, false, false, false, false, false, false, false, false, false, false, false, false]
def A43L0 : AC :=
  .seq (.seq (.reg 0 [⟨(some 24), .mv (.t 4), none⟩,
      ⟨(some 25), .mv (.t 3), none⟩,
      ⟨(some 26), .bin .lss (.t 24) (.t 25), none⟩])
  (.cond (.t 26)
    (.skip)
    (.exit 2)))
  (.seq (.block 3
    (.seq (.dreg 0 [⟨(some 29), .mv (.t 0), none⟩,
        ⟨(some 30), .mv (.t 4), none⟩,
        ⟨(some 31), .ia 2 (.t 29) (.t 30), none⟩,
        ⟨(some 32), .fa 0 (.t 31), none⟩,
        ⟨(some 33), .load 1 false (.t 32), none⟩,
        ⟨(some 34), .mv (.t 0), none⟩,
        ⟨(some 35), .mv (.t 3), none⟩,
        ⟨(some 36), .ia 2 (.t 34) (.t 35), none⟩,
        ⟨(some 37), .fa 0 (.t 36), none⟩,
        ⟨(some 38), .load 1 false (.t 37), none⟩,
        ⟨(some 39), .bin .eql (.t 33) (.t 38), none⟩] [(2, 7), (4, 7), (2, 9), (4, 9)])
    (.cond (.t 39)
      (.seq (.reg 0 [⟨(some 2), .mv (.c (.v (.int .i64 7))), none⟩])
      (.ret))
      (.skip))))
  (.reg 0 [⟨(some 27), .mv (.t 4), none⟩,
      ⟨(some 28), .bin .add (.t 27) (.c (.v (.int .i64 1))), none⟩,
      ⟨(some 4), .mv (.t 28), none⟩]))
def A43M1 : List Bool := [true, false, false, true, false, false, false, false, false, false, false, false, false, false, false, false, false, false, false, false, false, false, false, false, false, false, false, false, false, false, false, false, false, false, false, false, false, false, false, false, false, false, false, false, false, false, false]
def A43L1 : AC :=
  .seq (.seq (.reg 0 [⟨(some 11), .mv (.t 3), none⟩,
      ⟨(some 12), .mv (.t 0), none⟩,
      ⟨(some 13), .len false (.t 12), none⟩,
      ⟨(some 14), .bin .lss (.t 11) (.t 13), none⟩])
  (.cond (.t 14)
    (.skip)
    (.exit 0)))
  (.seq (.block 1
    (.seq (.seq (.reg 0 [⟨(some 17), .mv (.t 0), none⟩,
        ⟨(some 18), .mv (.t 3), none⟩,
        ⟨(some 19), .ia 2 (.t 17) (.t 18), none⟩,
        ⟨(some 20), .fa 0 (.t 19), none⟩,
        ⟨(some 21), .load 1 false (.t 20), none⟩,
        ⟨(some 22), .call 0 84 [(.t 21)], none⟩,
        ⟨(some 23), .un .not (.t 22), none⟩])
    (.cond (.t 23)
      (.seq (.reg 0 [⟨(some 2), .mv (.c (.v (.int .i64 5))), none⟩])
      (.ret))
      (.skip)))
    (.seq (.seq (.reg 0 [⟨(some 4), .mv (.c (.v (.int .i64 0))), none⟩])
    (.block 2
      (.loop A43M0 A43L0)))
    (.seq (.reg 0 [⟨(some 40), .mv (.t 0), none⟩,
        ⟨(some 41), .mv (.t 3), none⟩,
        ⟨(some 42), .ia 2 (.t 40) (.t 41), none⟩,
        ⟨(some 43), .fa 1 (.t 42), none⟩,
        ⟨(some 44), .load 1 false (.t 43), none⟩,
        ⟨(some 45), .call 0 85 [(.t 44), (.c (.v (.int .i64 1))), (.c (.v (.int .i64 3)))], none⟩,
        ⟨(some 46), .un .not (.t 45), none⟩])
    (.cond (.t 46)
      (.seq (.reg 0 [⟨(some 2), .mv (.c (.v (.int .i64 4))), none⟩])
      (.ret))
      (.skip))))))
  (.reg 0 [⟨(some 15), .mv (.t 3), none⟩,
      ⟨(some 16), .bin .add (.t 15) (.c (.v (.int .i64 1))), none⟩,
      ⟨(some 3), .mv (.t 16), none⟩]))
def A43 : AFn := ⟨47, [.tmp 2],
  .seq (.reg 0 [⟨(some 2), .mv (.c (.v (.int .i64 0))), none⟩])
  (.seq (.seq (.reg 0 [⟨(some 5), .mv (.t 0), none⟩,
      ⟨(some 6), .len false (.t 5), none⟩,
      ⟨(some 7), .bin .gtr (.t 6) (.c (.v (.int .i64 20))), none⟩])
  (.cond (.t 7)
    (.seq (.reg 0 [⟨(some 2), .mv (.c (.v (.int .i64 2))), none⟩])
    (.ret))
    (.skip)))
  (.seq (.seq (.reg 0 [⟨(some 8), .mv (.t 0), none⟩,
      ⟨(some 9), .len false (.t 8), none⟩,
      ⟨(some 10), .bin .eql (.t 9) (.c (.v (.int .i64 0))), none⟩])
  (.cond (.t 10)
    (.seq (.reg 0 [⟨(some 2), .mv (.c (.v (.int .i64 6))), none⟩])
    (.ret))
    (.skip)))
  (.seq (.seq (.reg 0 [⟨(some 3), .mv (.c (.v (.int .i64 0))), none⟩])
  (.block 0
    (.loop A43M1 A43L1)))
  (.seq (.reg 0 [⟨(some 2), .mv (.c (.v (.int .i64 0))), none⟩])
  (.ret)))))⟩
/-- Live: [0, 3, 4] -/
abbrev A43H0 (t0 t3 t4 : AV) : List AV := [t0, .top, .top, t3, t4, .top, .top, .top, .top, .top, .top, .top, .top, .top, .top, .top, .top, .top, .top, .top, .top, .top, .top, .top, .top, .top, .top, .top, .top, .top, .top, .top, .top, .top, .top, .top, .top, .top, .top, .top, .top, .top, .top, .top, .top, .top, .top]
theorem A43M0_eq (t0 t1 t2 t3 t4 t5 t6 t7 t8 t9 t10 t11 t12 t13 t14 t15 t16 t17 t18 t19 t20 t21 t22 t23 t24 t25 t26 t27 t28 t29 t30 t31 t32 t33 t34 t35 t36 t37 t38 t39 t40 t41 t42 t43 t44 t45 t46 : AV) : mask A43M0 [t0, t1, t2, t3, t4, t5, t6, t7, t8, t9, t10, t11, t12, t13, t14, t15, t16, t17, t18, t19, t20, t21, t22, t23, t24, t25, t26, t27, t28, t29, t30, t31, t32, t33, t34, t35, t36, t37, t38, t39, t40, t41, t42, t43, t44, t45, t46] = [t0, .top, .top, t3, t4, .top, .top, .top, .top, .top, .top, .top, .top, .top, .top, .top, .top, .top, .top, .top, .top, .top, .top, .top, .top, .top, .top, .top, .top, .top, .top, .top, .top, .top, .top, .top, .top, .top, .top, .top, .top, .top, .top, .top, .top, .top, .top] := rfl
/-- Live: [0, 3] -/
abbrev A43H1 (t0 t3 : AV) : List AV := [t0, .top, .top, t3, .top, .top, .top, .top, .top, .top, .top, .top, .top, .top, .top, .top, .top, .top, .top, .top, .top, .top, .top, .top, .top, .top, .top, .top, .top, .top, .top, .top, .top, .top, .top, .top, .top, .top, .top, .top, .top, .top, .top, .top, .top, .top, .top]
theorem A43M1_eq (t0 t1 t2 t3 t4 t5 t6 t7 t8 t9 t10 t11 t12 t13 t14 t15 t16 t17 t18 t19 t20 t21 t22 t23 t24 t25 t26 t27 t28 t29 t30 t31 t32 t33 t34 t35 t36 t37 t38 t39 t40 t41 t42 t43 t44 t45 t46 : AV) : mask A43M1 [t0, t1, t2, t3, t4, t5, t6, t7, t8, t9, t10, t11, t12, t13, t14, t15, t16, t17, t18, t19, t20, t21, t22, t23, t24, t25, t26, t27, t28, t29, t30, t31, t32, t33, t34, t35, t36, t37, t38, t39, t40, t41, t42, t43, t44, t45, t46] = [t0, .top, .top, t3, .top, .top, .top, .top, .top, .top, .top, .top, .top, .top, .top, .top, .top, .top, .top, .top, .top, .top, .top, .top, .top, .top, .top, .top, .top, .top, .top, .top, .top, .top, .top, .top, .top, .top, .top, .top, .top, .top, .top, .top, .top, .top, .top] := rfl
theorem A43_is : compFn Try.prog md Try.f43 = some { A43 with code := A43.code.erase } := by kernel_rfl

/-- peristyle/kit.In -/
def A44 : AFn := ⟨15, [.tmp 6],
  .seq (.reg 0 [⟨(some 6), .mv (.c (.v (.bool false))), none⟩])
  (.seq (.reg 0 [⟨(some 7), .mv (.t 1), none⟩,
      ⟨(some 8), .mv (.t 0), none⟩,
      ⟨(some 9), .bin .leq (.t 7) (.t 8), none⟩,
      ⟨(some 10), .mv (.t 9), none⟩,
      ⟨(some 11), .mv (.t 0), (some (10, true))⟩,
      ⟨(some 12), .mv (.t 2), (some (10, true))⟩,
      ⟨(some 13), .bin .leq (.t 11) (.t 12), (some (10, true))⟩,
      ⟨(some 14), .pick (.t 10) (.t 13) (.c (.v (.bool false))), none⟩,
      ⟨(some 6), .mv (.t 14), none⟩])
  (.ret))⟩
theorem A44_is : compFn Try.prog md Try.f44 = some { A44 with code := A44.code.erase } := by kernel_rfl

/-- peristyle/store.checkVersions -/
def A45M0 : List Bool := [false, true, false, false, false, false, false, false, false, false, false, false, true, true, true, false, false, false, false, false, false, false, false, false, false, false, false, false, false, false, false, false, false, false, false, false, false, false, false, false, false, false, false, false, false, false, false, false, false, false, false, false, false, false, false, false, false, false, false, false, false, false, false, false, false, false, false, false, false, false, false, false, false, false, false, false, false, false, false, false, false, false, false, false, false]
def A45L0 : AC :=
  .seq (.reg 0 [⟨(some 15), .bin .lss (.t 14) (.t 13), none⟩])
  (.seq (.cond (.t 15)
    (.skip)
    (.exit 0))
  (.seq (.block 1
    (.seq (.reg 1 [⟨(some 16), .mv (.t 14), none⟩,
        ⟨(some 17), .ia 4 (.t 12) (.t 14), none⟩,
        ⟨(some 18), .load 4 true (.t 17), none⟩,
        ⟨(some 4), .alloc 0 [(.v (.int .i64 0)), (.v (.int .i64 0)), (.v (.int .i64 0)), .nils], none⟩,
        ⟨(some 3), .mv (.t 16), none⟩,
        ⟨none, .store 4 (.t 4) (.t 18), none⟩])
    (.seq (.seq (.reg 0 [⟨(some 19), .load 7 true (.t 1), none⟩,
        ⟨(some 20), .load 4 true (.t 4), none⟩,
        ⟨(some 21), .call 0 86 [(.t 19), (.t 20)], none⟩,
        ⟨(some 5), .mv (.t 21), none⟩])
    (.seq (.reg 0 [⟨(some 22), .mv (.t 5), none⟩,
        ⟨(some 23), .bin .neq (.t 22) (.c (.v (.int .i64 0))), none⟩])
    (.cond (.t 23)
      (.seq (.reg 0 [⟨(some 24), .mv (.t 5), none⟩,
          ⟨(some 2), .mv (.t 24), none⟩])
      (.ret))
      (.skip))))
    (.seq (.reg 0 [⟨(some 25), .mv (.t 3), none⟩,
        ⟨(some 26), .bin .gtr (.t 25) (.c (.v (.int .i64 0))), none⟩])
    (.cond (.t 26)
      (.seq (.reg 1 [⟨(some 27), .fa 1 (.t 1), none⟩,
          ⟨(some 28), .load 1 false (.t 27), none⟩,
          ⟨(some 29), .mv (.t 3), none⟩,
          ⟨(some 30), .bin .sub (.t 29) (.c (.v (.int .i64 1))), none⟩,
          ⟨(some 31), .ia 4 (.t 28) (.t 30), none⟩,
          ⟨(some 32), .load 4 true (.t 31), none⟩,
          ⟨(some 6), .alloc 0 [(.v (.int .i64 0)), (.v (.int .i64 0)), (.v (.int .i64 0)), .nils], none⟩,
          ⟨none, .store 4 (.t 6) (.t 32), none⟩])
      (.seq (.reg 0 [⟨(some 33), .fa 1 (.t 4), none⟩,
          ⟨(some 34), .load 1 false (.t 33), none⟩,
          ⟨(some 35), .fa 1 (.t 6), none⟩,
          ⟨(some 36), .load 1 false (.t 35), none⟩,
          ⟨(some 37), .bin .lss (.t 34) (.t 36), none⟩,
          ⟨(some 38), .mv (.t 37), none⟩,
          ⟨(some 39), .fa 1 (.t 4), (some (38, false))⟩,
          ⟨(some 40), .load 1 false (.t 39), (some (38, false))⟩,
          ⟨(some 41), .fa 1 (.t 6), (some (38, false))⟩,
          ⟨(some 42), .load 1 false (.t 41), (some (38, false))⟩,
          ⟨(some 43), .bin .eql (.t 40) (.t 42), (some (38, false))⟩,
          ⟨(some 44), .mv (.t 43), (some (38, false))⟩,
          ⟨(some 45), .fa 0 (.t 4), (some (44, true))⟩,
          ⟨(some 46), .load 1 false (.t 45), (some (44, true))⟩,
          ⟨(some 47), .fa 0 (.t 6), (some (44, true))⟩,
          ⟨(some 48), .load 1 false (.t 47), (some (44, true))⟩,
          ⟨(some 49), .bin .leq (.t 46) (.t 48), (some (44, true))⟩,
          ⟨(some 50), .pick (.t 44) (.t 49) (.c (.v (.bool false))), (some (38, false))⟩,
          ⟨(some 51), .pick (.t 38) (.c (.v (.bool true))) (.t 50), none⟩])
      (.cond (.t 51)
        (.seq (.reg 0 [⟨(some 2), .mv (.c (.v (.int .i64 8))), none⟩])
        (.ret))
        (.skip))))
      (.skip))))))
  (.reg 0 [⟨(some 52), .bin .add (.t 14) (.c (.v (.int .i64 1))), none⟩,
      ⟨(some 14), .mv (.t 52), none⟩])))
def A45M1 : List Bool := [false, false, false, false, false, false, false, true, false, false, false, false, false, false, false, false, false, false, false, false, false, false, false, false, false, false, false, false, false, false, false, false, false, false, false, false, false, false, false, false, false, false, false, false, false, false, false, false, false, false, false, false, false, false, false, true, true, true, false, false, false, false, false, false, false, false, false, false, false, false, false, false, false, false, false, false, false, false, false, false, false, false, false, false, false]
def A45L1 : AC :=
  .seq (.reg 0 [⟨(some 58), .bin .lss (.t 57) (.t 56), none⟩])
  (.seq (.cond (.t 58)
    (.skip)
    (.exit 2))
  (.seq (.block 3
    (.seq (.reg 1 [⟨(some 59), .ia 4 (.t 55) (.t 57), none⟩,
        ⟨(some 60), .load 4 true (.t 59), none⟩,
        ⟨(some 9), .alloc 0 [(.v (.int .i64 0)), (.v (.int .i64 0)), (.v (.int .i64 0)), .nils], none⟩,
        ⟨none, .store 4 (.t 9) (.t 60), none⟩])
    (.seq (.seq (.reg 0 [⟨(some 61), .mv (.t 7), none⟩,
        ⟨(some 62), .fa 0 (.t 9), none⟩,
        ⟨(some 63), .load 1 false (.t 62), none⟩,
        ⟨(some 64), .lk (.v (.int .i64 0)) false (.t 61) (.t 63), none⟩,
        ⟨(some 10), .mv (.t 64), none⟩])
    (.seq (.reg 0 [⟨(some 65), .mv (.t 10), none⟩,
        ⟨(some 66), .bin .lss (.t 65) (.c (.v (.int .i64 0))), none⟩,
        ⟨(some 67), .mv (.t 66), none⟩,
        ⟨(some 68), .mv (.t 10), (some (67, false))⟩,
        ⟨(some 69), .fa 1 (.t 9), (some (67, false))⟩,
        ⟨(some 70), .load 1 false (.t 69), (some (67, false))⟩,
        ⟨(some 71), .bin .gtr (.t 68) (.t 70), (some (67, false))⟩,
        ⟨(some 72), .pick (.t 67) (.c (.v (.bool true))) (.t 71), none⟩])
    (.cond (.t 72)
      (.seq (.reg 0 [⟨(some 2), .mv (.c (.v (.int .i64 7))), none⟩])
      (.ret))
      (.skip))))
    (.seq (.reg 0 [⟨(some 73), .mv (.t 7), none⟩,
        ⟨(some 74), .fa 0 (.t 9), none⟩,
        ⟨(some 75), .load 1 false (.t 74), none⟩,
        ⟨(some 76), .fa 2 (.t 9), none⟩,
        ⟨(some 77), .load 1 false (.t 76), none⟩,
        ⟨none, .mu (.t 73) (.t 75) (.t 77), none⟩])
    (.seq (.reg 0 [⟨(some 78), .fa 2 (.t 9), none⟩,
        ⟨(some 79), .load 1 false (.t 78), none⟩,
        ⟨(some 80), .bin .eql (.t 79) (.c (.v (.int .i64 0))), none⟩])
    (.cond (.t 80)
      (.reg 0 [⟨(some 81), .mv (.t 7), none⟩,
          ⟨(some 82), .fa 0 (.t 9), none⟩,
          ⟨(some 83), .load 1 false (.t 82), none⟩,
          ⟨none, .mu (.t 81) (.t 83) (.c (.v (.int .i64 (-1)))), none⟩])
      (.skip)))))))
  (.reg 0 [⟨(some 84), .bin .add (.t 57) (.c (.v (.int .i64 1))), none⟩,
      ⟨(some 57), .mv (.t 84), none⟩])))
def A45 : AFn := ⟨85, [.tmp 2],
  .seq (.reg 1 [⟨(some 1), .box 0 (.t 0), none⟩,
      ⟨(some 2), .mv (.c (.v (.int .i64 0))), none⟩])
  (.seq (.seq (.reg 0 [⟨(some 11), .fa 1 (.t 1), none⟩,
      ⟨(some 12), .load 1 false (.t 11), none⟩,
      ⟨(some 13), .len false (.t 12), none⟩,
      ⟨(some 14), .mv (.c (.v (.int .i64 0))), none⟩])
  (.block 0
    (.loop A45M0 A45L0)))
  (.seq (.reg 0 [⟨(some 53), .mkm, none⟩,
      ⟨(some 7), .mv (.t 53), none⟩])
  (.seq (.seq (.reg 0 [⟨(some 54), .fa 1 (.t 1), none⟩,
      ⟨(some 55), .load 1 false (.t 54), none⟩,
      ⟨(some 56), .len false (.t 55), none⟩,
      ⟨(some 57), .mv (.c (.v (.int .i64 0))), none⟩])
  (.block 2
    (.loop A45M1 A45L1)))
  (.seq (.reg 0 [⟨(some 2), .mv (.c (.v (.int .i64 0))), none⟩])
  (.ret)))))⟩
/-- Live: [1, 12, 13, 14] -/
abbrev A45H0 (t1 t12 t13 t14 : AV) : List AV := [.top, t1, .top, .top, .top, .top, .top, .top, .top, .top, .top, .top, t12, t13, t14, .top, .top, .top, .top, .top, .top, .top, .top, .top, .top, .top, .top, .top, .top, .top, .top, .top, .top, .top, .top, .top, .top, .top, .top, .top, .top, .top, .top, .top, .top, .top, .top, .top, .top, .top, .top, .top, .top, .top, .top, .top, .top, .top, .top, .top, .top, .top, .top, .top, .top, .top, .top, .top, .top, .top, .top, .top, .top, .top, .top, .top, .top, .top, .top, .top, .top, .top, .top, .top, .top]
theorem A45M0_eq (t0 t1 t2 t3 t4 t5 t6 t7 t8 t9 t10 t11 t12 t13 t14 t15 t16 t17 t18 t19 t20 t21 t22 t23 t24 t25 t26 t27 t28 t29 t30 t31 t32 t33 t34 t35 t36 t37 t38 t39 t40 t41 t42 t43 t44 t45 t46 t47 t48 t49 t50 t51 t52 t53 t54 t55 t56 t57 t58 t59 t60 t61 t62 t63 t64 t65 t66 t67 t68 t69 t70 t71 t72 t73 t74 t75 t76 t77 t78 t79 t80 t81 t82 t83 t84 : AV) : mask A45M0 [t0, t1, t2, t3, t4, t5, t6, t7, t8, t9, t10, t11, t12, t13, t14, t15, t16, t17, t18, t19, t20, t21, t22, t23, t24, t25, t26, t27, t28, t29, t30, t31, t32, t33, t34, t35, t36, t37, t38, t39, t40, t41, t42, t43, t44, t45, t46, t47, t48, t49, t50, t51, t52, t53, t54, t55, t56, t57, t58, t59, t60, t61, t62, t63, t64, t65, t66, t67, t68, t69, t70, t71, t72, t73, t74, t75, t76, t77, t78, t79, t80, t81, t82, t83, t84] = [.top, t1, .top, .top, .top, .top, .top, .top, .top, .top, .top, .top, t12, t13, t14, .top, .top, .top, .top, .top, .top, .top, .top, .top, .top, .top, .top, .top, .top, .top, .top, .top, .top, .top, .top, .top, .top, .top, .top, .top, .top, .top, .top, .top, .top, .top, .top, .top, .top, .top, .top, .top, .top, .top, .top, .top, .top, .top, .top, .top, .top, .top, .top, .top, .top, .top, .top, .top, .top, .top, .top, .top, .top, .top, .top, .top, .top, .top, .top, .top, .top, .top, .top, .top, .top] := rfl
/-- Live: [7, 55, 56, 57] -/
abbrev A45H1 (t7 t55 t56 t57 : AV) : List AV := [.top, .top, .top, .top, .top, .top, .top, t7, .top, .top, .top, .top, .top, .top, .top, .top, .top, .top, .top, .top, .top, .top, .top, .top, .top, .top, .top, .top, .top, .top, .top, .top, .top, .top, .top, .top, .top, .top, .top, .top, .top, .top, .top, .top, .top, .top, .top, .top, .top, .top, .top, .top, .top, .top, .top, t55, t56, t57, .top, .top, .top, .top, .top, .top, .top, .top, .top, .top, .top, .top, .top, .top, .top, .top, .top, .top, .top, .top, .top, .top, .top, .top, .top, .top, .top]
theorem A45M1_eq (t0 t1 t2 t3 t4 t5 t6 t7 t8 t9 t10 t11 t12 t13 t14 t15 t16 t17 t18 t19 t20 t21 t22 t23 t24 t25 t26 t27 t28 t29 t30 t31 t32 t33 t34 t35 t36 t37 t38 t39 t40 t41 t42 t43 t44 t45 t46 t47 t48 t49 t50 t51 t52 t53 t54 t55 t56 t57 t58 t59 t60 t61 t62 t63 t64 t65 t66 t67 t68 t69 t70 t71 t72 t73 t74 t75 t76 t77 t78 t79 t80 t81 t82 t83 t84 : AV) : mask A45M1 [t0, t1, t2, t3, t4, t5, t6, t7, t8, t9, t10, t11, t12, t13, t14, t15, t16, t17, t18, t19, t20, t21, t22, t23, t24, t25, t26, t27, t28, t29, t30, t31, t32, t33, t34, t35, t36, t37, t38, t39, t40, t41, t42, t43, t44, t45, t46, t47, t48, t49, t50, t51, t52, t53, t54, t55, t56, t57, t58, t59, t60, t61, t62, t63, t64, t65, t66, t67, t68, t69, t70, t71, t72, t73, t74, t75, t76, t77, t78, t79, t80, t81, t82, t83, t84] = [.top, .top, .top, .top, .top, .top, .top, t7, .top, .top, .top, .top, .top, .top, .top, .top, .top, .top, .top, .top, .top, .top, .top, .top, .top, .top, .top, .top, .top, .top, .top, .top, .top, .top, .top, .top, .top, .top, .top, .top, .top, .top, .top, .top, .top, .top, .top, .top, .top, .top, .top, .top, .top, .top, .top, t55, t56, t57, .top, .top, .top, .top, .top, .top, .top, .top, .top, .top, .top, .top, .top, .top, .top, .top, .top, .top, .top, .top, .top, .top, .top, .top, .top, .top, .top] := rfl
theorem A45_is : compFn Try.prog md Try.f45 = some { A45 with code := A45.code.erase } := by kernel_rfl

/-- peristyle/store.checkOpen -/
def A46M0 : List Bool := [false, true, false, true, false, false, false, false, false, false, false, false, false, false, true, true, true, false, false, false, false, false, false, false, false, false, false, false, false, false, false, false, false, false, false, false, false, false, false, false, false, false, false, false, false, false, false, false, false, false, false, false, false, false, false, false, false, false, false, false, false, false, false, false, false, false, false, false, false, false, false, false, false, false, false, false, false, false, false, false, false, false, false, false, false, false, false, false, false, false, false, false, false, false, false]
def A46L0 : AC :=
  .seq (.reg 0 [⟨(some 17), .bin .lss (.t 16) (.t 15), none⟩])
  (.seq (.cond (.t 17)
    (.skip)
    (.exit 0))
  (.seq (.block 1
    (.seq (.reg 1 [⟨(some 18), .ia 4 (.t 14) (.t 16), none⟩,
        ⟨(some 19), .load 4 true (.t 18), none⟩,
        ⟨(some 5), .alloc 0 [(.v (.int .i64 0)), (.v (.int .i64 0)), (.v (.int .i64 0)), .nils], none⟩,
        ⟨none, .store 4 (.t 5) (.t 19), none⟩])
    (.reg 0 [⟨(some 20), .mv (.t 3), none⟩,
        ⟨(some 21), .fa 0 (.t 5), none⟩,
        ⟨(some 22), .load 1 false (.t 21), none⟩,
        ⟨none, .mu (.t 20) (.t 22) (.c (.v (.bool true))), none⟩])))
  (.reg 0 [⟨(some 23), .bin .add (.t 16) (.c (.v (.int .i64 1))), none⟩,
      ⟨(some 16), .mv (.t 23), none⟩])))
def A46M1 : List Bool := [false, true, false, true, false, false, false, false, true, false, false, false, false, false, false, false, false, false, false, false, false, false, false, false, false, true, true, true, false, false, false, false, false, false, false, false, false, false, false, false, false, false, false, false, false, false, false, false, false, false, false, false, false, false, false, false, false, false, false, false, false, false, false, false, false, false, false, false, false, false, true, true, true, false, false, false, false, false, false, false, false, false, false, false, false, false, false, false, false, false, false, false, false, false, false]
def A46L1 : AC :=
  .seq (.reg 0 [⟨(some 73), .bin .lss (.t 72) (.t 71), none⟩])
  (.seq (.cond (.t 73)
    (.skip)
    (.exit 4))
  (.seq (.block 5
    (.seq (.reg 1 [⟨(some 74), .ia 3 (.t 70) (.t 72), none⟩,
        ⟨(some 75), .load 3 true (.t 74), none⟩,
        ⟨(some 10), .alloc 0 [(.v (.int .i64 0)), (.v (.int .i64 0)), .nils], none⟩,
        ⟨none, .store 3 (.t 10) (.t 75), none⟩])
    (.seq (.seq (.reg 0 [⟨(some 76), .load 7 true (.t 1), none⟩,
        ⟨(some 77), .mv (.t 8), none⟩,
        ⟨(some 78), .load 3 true (.t 10), none⟩,
        ⟨(some 79), .mv (.t 3), none⟩,
        ⟨(some 80), .call 1 87 [(.t 76), (.t 77), (.t 78), (.t 79)], none⟩,
        ⟨(some 11), .mv (.t 80), none⟩])
    (.seq (.reg 0 [⟨(some 81), .mv (.t 11), none⟩,
        ⟨(some 82), .bin .neq (.t 81) (.c (.v (.int .i64 0))), none⟩])
    (.cond (.t 82)
      (.seq (.reg 0 [⟨(some 83), .mv (.t 11), none⟩,
          ⟨(some 2), .mv (.t 83), none⟩])
      (.ret))
      (.skip))))
    (.seq (.seq (.reg 0 [⟨(some 84), .fa 0 (.t 10), none⟩,
        ⟨(some 85), .load 1 false (.t 84), none⟩,
        ⟨(some 86), .bin .eql (.t 85) (.c (.v (.int .i64 1))), none⟩])
    (.cond (.t 86)
      (.reg 0 [⟨(some 87), .mv (.t 3), none⟩,
          ⟨(some 88), .fa 1 (.t 10), none⟩,
          ⟨(some 89), .load 1 false (.t 88), none⟩,
          ⟨none, .mu (.t 87) (.t 89) (.c (.v (.bool true))), none⟩])
      (.skip)))
    (.reg 0 [⟨(some 90), .mv (.t 8), none⟩,
        ⟨(some 91), .load 3 true (.t 10), none⟩,
        ⟨(some 92), .call 1 88 [(.t 90), (.t 91)], none⟩,
        ⟨(some 8), .mv (.t 92), none⟩])))))
  (.reg 0 [⟨(some 93), .bin .add (.t 72) (.c (.v (.int .i64 1))), none⟩,
      ⟨(some 72), .mv (.t 93), none⟩])))
def A46M2 : List Bool := [false, true, false, true, false, false, false, false, false, false, false, false, false, false, false, false, false, false, false, false, false, false, false, false, false, true, true, true, false, false, false, false, false, false, false, false, false, false, false, false, false, false, false, false, false, false, false, false, false, false, false, false, false, false, false, false, false, false, false, false, false, false, false, false, false, false, false, false, false, false, false, false, false, false, false, false, false, false, false, false, false, false, false, false, false, false, false, false, false, false, false, false, false, false, false]
def A46L2 : AC :=
  .seq (.reg 0 [⟨(some 28), .bin .lss (.t 27) (.t 26), none⟩])
  (.seq (.cond (.t 28)
    (.skip)
    (.exit 2))
  (.seq (.block 3
    (.seq (.reg 1 [⟨(some 29), .mv (.t 27), none⟩,
        ⟨(some 30), .ia 3 (.t 25) (.t 27), none⟩,
        ⟨(some 31), .load 3 true (.t 30), none⟩,
        ⟨(some 7), .alloc 0 [(.v (.int .i64 0)), (.v (.int .i64 0)), .nils], none⟩,
        ⟨(some 6), .mv (.t 29), none⟩,
        ⟨none, .store 3 (.t 7) (.t 31), none⟩])
    (.seq (.seq (.reg 0 [⟨(some 32), .fa 0 (.t 7), none⟩,
        ⟨(some 33), .load 1 false (.t 32), none⟩,
        ⟨(some 34), .fa 4 (.t 1), none⟩,
        ⟨(some 35), .load 1 false (.t 34), none⟩,
        ⟨(some 36), .bin .sub (.t 35) (.c (.v (.int .i64 1))), none⟩,
        ⟨(some 37), .call 0 44 [(.t 33), (.c (.v (.int .i64 1))), (.t 36)], none⟩,
        ⟨(some 38), .un .not (.t 37), none⟩])
    (.cond (.t 38)
      (.seq (.reg 0 [⟨(some 2), .mv (.c (.v (.int .i64 1))), none⟩])
      (.ret))
      (.skip)))
    (.seq (.seq (.dreg 0 [⟨(some 39), .mv (.t 6), none⟩,
        ⟨(some 40), .bin .gtr (.t 39) (.c (.v (.int .i64 0))), none⟩,
        ⟨(some 41), .mv (.t 40), none⟩,
        ⟨(some 42), .fa 0 (.t 7), (some (41, true))⟩,
        ⟨(some 43), .load 1 false (.t 42), (some (41, true))⟩,
        ⟨(some 44), .fa 6 (.t 1), (some (41, true))⟩,
        ⟨(some 45), .load 1 false (.t 44), (some (41, true))⟩,
        ⟨(some 46), .mv (.t 6), (some (41, true))⟩,
        ⟨(some 47), .bin .sub (.t 46) (.c (.v (.int .i64 1))), (some (41, true))⟩,
        ⟨(some 48), .ia 3 (.t 45) (.t 47), (some (41, true))⟩,
        ⟨(some 49), .fa 0 (.t 48), (some (41, true))⟩,
        ⟨(some 50), .load 1 false (.t 49), (some (41, true))⟩,
        ⟨(some 51), .bin .leq (.t 43) (.t 50), (some (41, true))⟩,
        ⟨(some 52), .pick (.t 41) (.t 51) (.c (.v (.bool false))), none⟩] [(4, 6), (4, 9), (4, 11)])
    (.cond (.t 52)
      (.seq (.reg 0 [⟨(some 2), .mv (.c (.v (.int .i64 8))), none⟩])
      (.ret))
      (.skip)))
    (.seq (.seq (.reg 0 [⟨(some 53), .fa 1 (.t 7), none⟩,
        ⟨(some 54), .load 1 false (.t 53), none⟩,
        ⟨(some 55), .fa 5 (.t 1), none⟩,
        ⟨(some 56), .load 1 false (.t 55), none⟩,
        ⟨(some 57), .fa 2 (.t 1), none⟩,
        ⟨(some 58), .load 1 false (.t 57), none⟩,
        ⟨(some 59), .call 0 44 [(.t 54), (.t 56), (.t 58)], none⟩,
        ⟨(some 60), .un .not (.t 59), none⟩])
    (.cond (.t 60)
      (.seq (.reg 0 [⟨(some 2), .mv (.c (.v (.int .i64 1))), none⟩])
      (.ret))
      (.skip)))
    (.seq (.seq (.reg 0 [⟨(some 61), .fa 2 (.t 7), none⟩,
        ⟨(some 62), .load 1 false (.t 61), none⟩,
        ⟨(some 63), .len false (.t 62), none⟩,
        ⟨(some 64), .bin .gtr (.t 63) (.c (.v (.int .i64 200))), none⟩])
    (.cond (.t 64)
      (.seq (.reg 0 [⟨(some 2), .mv (.c (.v (.int .i64 2))), none⟩])
      (.ret))
      (.skip)))
    (.seq (.reg 0 [⟨(some 65), .load 7 true (.t 1), none⟩,
        ⟨(some 66), .fa 1 (.t 7), none⟩,
        ⟨(some 67), .load 1 false (.t 66), none⟩,
        ⟨(some 68), .call 1 74 [(.t 65), (.t 67)], none⟩,
        ⟨(some 8), .mv (.t 68), none⟩])
    (.seq (.reg 0 [⟨(some 69), .fa 2 (.t 7), none⟩,
        ⟨(some 70), .load 1 false (.t 69), none⟩,
        ⟨(some 71), .len false (.t 70), none⟩,
        ⟨(some 72), .mv (.c (.v (.int .i64 0))), none⟩])
    (.block 4
      (.loop A46M1 A46L1))))))))))
  (.reg 0 [⟨(some 94), .bin .add (.t 27) (.c (.v (.int .i64 1))), none⟩,
      ⟨(some 27), .mv (.t 94), none⟩])))
def A46 : AFn := ⟨95, [.tmp 2],
  .seq (.reg 1 [⟨(some 1), .box 0 (.t 0), none⟩,
      ⟨(some 2), .mv (.c (.v (.int .i64 0))), none⟩])
  (.seq (.reg 0 [⟨(some 12), .mkm, none⟩,
      ⟨(some 3), .mv (.t 12), none⟩])
  (.seq (.seq (.reg 0 [⟨(some 13), .fa 1 (.t 1), none⟩,
      ⟨(some 14), .load 1 false (.t 13), none⟩,
      ⟨(some 15), .len false (.t 14), none⟩,
      ⟨(some 16), .mv (.c (.v (.int .i64 0))), none⟩])
  (.block 0
    (.loop A46M0 A46L0)))
  (.seq (.seq (.reg 0 [⟨(some 24), .fa 6 (.t 1), none⟩,
      ⟨(some 25), .load 1 false (.t 24), none⟩,
      ⟨(some 26), .len false (.t 25), none⟩,
      ⟨(some 27), .mv (.c (.v (.int .i64 0))), none⟩])
  (.block 2
    (.loop A46M2 A46L2)))
  (.seq (.reg 0 [⟨(some 2), .mv (.c (.v (.int .i64 0))), none⟩])
  (.ret)))))⟩
/-- Live: [1, 3, 14, 15, 16] -/
abbrev A46H0 (t1 t3 t14 t15 t16 : AV) : List AV := [.top, t1, .top, t3, .top, .top, .top, .top, .top, .top, .top, .top, .top, .top, t14, t15, t16, .top, .top, .top, .top, .top, .top, .top, .top, .top, .top, .top, .top, .top, .top, .top, .top, .top, .top, .top, .top, .top, .top, .top, .top, .top, .top, .top, .top, .top, .top, .top, .top, .top, .top, .top, .top, .top, .top, .top, .top, .top, .top, .top, .top, .top, .top, .top, .top, .top, .top, .top, .top, .top, .top, .top, .top, .top, .top, .top, .top, .top, .top, .top, .top, .top, .top, .top, .top, .top, .top, .top, .top, .top, .top, .top, .top, .top, .top]
theorem A46M0_eq (t0 t1 t2 t3 t4 t5 t6 t7 t8 t9 t10 t11 t12 t13 t14 t15 t16 t17 t18 t19 t20 t21 t22 t23 t24 t25 t26 t27 t28 t29 t30 t31 t32 t33 t34 t35 t36 t37 t38 t39 t40 t41 t42 t43 t44 t45 t46 t47 t48 t49 t50 t51 t52 t53 t54 t55 t56 t57 t58 t59 t60 t61 t62 t63 t64 t65 t66 t67 t68 t69 t70 t71 t72 t73 t74 t75 t76 t77 t78 t79 t80 t81 t82 t83 t84 t85 t86 t87 t88 t89 t90 t91 t92 t93 t94 : AV) : mask A46M0 [t0, t1, t2, t3, t4, t5, t6, t7, t8, t9, t10, t11, t12, t13, t14, t15, t16, t17, t18, t19, t20, t21, t22, t23, t24, t25, t26, t27, t28, t29, t30, t31, t32, t33, t34, t35, t36, t37, t38, t39, t40, t41, t42, t43, t44, t45, t46, t47, t48, t49, t50, t51, t52, t53, t54, t55, t56, t57, t58, t59, t60, t61, t62, t63, t64, t65, t66, t67, t68, t69, t70, t71, t72, t73, t74, t75, t76, t77, t78, t79, t80, t81, t82, t83, t84, t85, t86, t87, t88, t89, t90, t91, t92, t93, t94] = [.top, t1, .top, t3, .top, .top, .top, .top, .top, .top, .top, .top, .top, .top, t14, t15, t16, .top, .top, .top, .top, .top, .top, .top, .top, .top, .top, .top, .top, .top, .top, .top, .top, .top, .top, .top, .top, .top, .top, .top, .top, .top, .top, .top, .top, .top, .top, .top, .top, .top, .top, .top, .top, .top, .top, .top, .top, .top, .top, .top, .top, .top, .top, .top, .top, .top, .top, .top, .top, .top, .top, .top, .top, .top, .top, .top, .top, .top, .top, .top, .top, .top, .top, .top, .top, .top, .top, .top, .top, .top, .top, .top, .top, .top, .top] := rfl
/-- Live: [1, 3, 8, 25, 26, 27, 70, 71, 72] -/
abbrev A46H1 (t1 t3 t8 t25 t26 t27 t70 t71 t72 : AV) : List AV := [.top, t1, .top, t3, .top, .top, .top, .top, t8, .top, .top, .top, .top, .top, .top, .top, .top, .top, .top, .top, .top, .top, .top, .top, .top, t25, t26, t27, .top, .top, .top, .top, .top, .top, .top, .top, .top, .top, .top, .top, .top, .top, .top, .top, .top, .top, .top, .top, .top, .top, .top, .top, .top, .top, .top, .top, .top, .top, .top, .top, .top, .top, .top, .top, .top, .top, .top, .top, .top, .top, t70, t71, t72, .top, .top, .top, .top, .top, .top, .top, .top, .top, .top, .top, .top, .top, .top, .top, .top, .top, .top, .top, .top, .top, .top]
theorem A46M1_eq (t0 t1 t2 t3 t4 t5 t6 t7 t8 t9 t10 t11 t12 t13 t14 t15 t16 t17 t18 t19 t20 t21 t22 t23 t24 t25 t26 t27 t28 t29 t30 t31 t32 t33 t34 t35 t36 t37 t38 t39 t40 t41 t42 t43 t44 t45 t46 t47 t48 t49 t50 t51 t52 t53 t54 t55 t56 t57 t58 t59 t60 t61 t62 t63 t64 t65 t66 t67 t68 t69 t70 t71 t72 t73 t74 t75 t76 t77 t78 t79 t80 t81 t82 t83 t84 t85 t86 t87 t88 t89 t90 t91 t92 t93 t94 : AV) : mask A46M1 [t0, t1, t2, t3, t4, t5, t6, t7, t8, t9, t10, t11, t12, t13, t14, t15, t16, t17, t18, t19, t20, t21, t22, t23, t24, t25, t26, t27, t28, t29, t30, t31, t32, t33, t34, t35, t36, t37, t38, t39, t40, t41, t42, t43, t44, t45, t46, t47, t48, t49, t50, t51, t52, t53, t54, t55, t56, t57, t58, t59, t60, t61, t62, t63, t64, t65, t66, t67, t68, t69, t70, t71, t72, t73, t74, t75, t76, t77, t78, t79, t80, t81, t82, t83, t84, t85, t86, t87, t88, t89, t90, t91, t92, t93, t94] = [.top, t1, .top, t3, .top, .top, .top, .top, t8, .top, .top, .top, .top, .top, .top, .top, .top, .top, .top, .top, .top, .top, .top, .top, .top, t25, t26, t27, .top, .top, .top, .top, .top, .top, .top, .top, .top, .top, .top, .top, .top, .top, .top, .top, .top, .top, .top, .top, .top, .top, .top, .top, .top, .top, .top, .top, .top, .top, .top, .top, .top, .top, .top, .top, .top, .top, .top, .top, .top, .top, t70, t71, t72, .top, .top, .top, .top, .top, .top, .top, .top, .top, .top, .top, .top, .top, .top, .top, .top, .top, .top, .top, .top, .top, .top] := rfl
/-- Live: [1, 3, 25, 26, 27] -/
abbrev A46H2 (t1 t3 t25 t26 t27 : AV) : List AV := [.top, t1, .top, t3, .top, .top, .top, .top, .top, .top, .top, .top, .top, .top, .top, .top, .top, .top, .top, .top, .top, .top, .top, .top, .top, t25, t26, t27, .top, .top, .top, .top, .top, .top, .top, .top, .top, .top, .top, .top, .top, .top, .top, .top, .top, .top, .top, .top, .top, .top, .top, .top, .top, .top, .top, .top, .top, .top, .top, .top, .top, .top, .top, .top, .top, .top, .top, .top, .top, .top, .top, .top, .top, .top, .top, .top, .top, .top, .top, .top, .top, .top, .top, .top, .top, .top, .top, .top, .top, .top, .top, .top, .top, .top, .top]
theorem A46M2_eq (t0 t1 t2 t3 t4 t5 t6 t7 t8 t9 t10 t11 t12 t13 t14 t15 t16 t17 t18 t19 t20 t21 t22 t23 t24 t25 t26 t27 t28 t29 t30 t31 t32 t33 t34 t35 t36 t37 t38 t39 t40 t41 t42 t43 t44 t45 t46 t47 t48 t49 t50 t51 t52 t53 t54 t55 t56 t57 t58 t59 t60 t61 t62 t63 t64 t65 t66 t67 t68 t69 t70 t71 t72 t73 t74 t75 t76 t77 t78 t79 t80 t81 t82 t83 t84 t85 t86 t87 t88 t89 t90 t91 t92 t93 t94 : AV) : mask A46M2 [t0, t1, t2, t3, t4, t5, t6, t7, t8, t9, t10, t11, t12, t13, t14, t15, t16, t17, t18, t19, t20, t21, t22, t23, t24, t25, t26, t27, t28, t29, t30, t31, t32, t33, t34, t35, t36, t37, t38, t39, t40, t41, t42, t43, t44, t45, t46, t47, t48, t49, t50, t51, t52, t53, t54, t55, t56, t57, t58, t59, t60, t61, t62, t63, t64, t65, t66, t67, t68, t69, t70, t71, t72, t73, t74, t75, t76, t77, t78, t79, t80, t81, t82, t83, t84, t85, t86, t87, t88, t89, t90, t91, t92, t93, t94] = [.top, t1, .top, t3, .top, .top, .top, .top, .top, .top, .top, .top, .top, .top, .top, .top, .top, .top, .top, .top, .top, .top, .top, .top, .top, t25, t26, t27, .top, .top, .top, .top, .top, .top, .top, .top, .top, .top, .top, .top, .top, .top, .top, .top, .top, .top, .top, .top, .top, .top, .top, .top, .top, .top, .top, .top, .top, .top, .top, .top, .top, .top, .top, .top, .top, .top, .top, .top, .top, .top, .top, .top, .top, .top, .top, .top, .top, .top, .top, .top, .top, .top, .top, .top, .top, .top, .top, .top, .top, .top, .top, .top, .top, .top, .top] := rfl
theorem A46_is : compFn Try.prog md Try.f46 = some { A46 with code := A46.code.erase } := by kernel_rfl

/-- peristyle/peristyleref11.within -/
def A47 : AFn := ⟨15, [.tmp 6],
  .seq (.reg 0 [⟨(some 6), .mv (.c (.v (.bool false))), none⟩])
  (.seq (.reg 0 [⟨(some 7), .mv (.t 0), none⟩,
      ⟨(some 8), .mv (.t 1), none⟩,
      ⟨(some 9), .bin .geq (.t 7) (.t 8), none⟩,
      ⟨(some 10), .mv (.t 9), none⟩,
      ⟨(some 11), .mv (.t 0), (some (10, true))⟩,
      ⟨(some 12), .mv (.t 2), (some (10, true))⟩,
      ⟨(some 13), .bin .leq (.t 11) (.t 12), (some (10, true))⟩,
      ⟨(some 14), .pick (.t 10) (.t 13) (.c (.v (.bool false))), none⟩,
      ⟨(some 6), .mv (.t 14), none⟩])
  (.ret))⟩
theorem A47_is : compFn Try.prog md Try.f47 = some { A47 with code := A47.code.erase } := by kernel_rfl

/-- peristyle/peristyleref11.checkVersions -/
def A48M0 : List Bool := [false, true, false, true, false, false, false, false, false, false, false, false, false, false, false, false, false, false, false, false, false, false, false, false, false, false, false, false, false, false, false, false, false, false, false, false, false, false, false, false, false, false, false, false, false, false, false, false, false, false, false, false, false, false, false, false, false, false, false, false, false, false, false, false, false, false, false, false, false, false, false, false, false, false, false, false, false, false, false, false, false, false, false, false, false, false, false, false, false, false, false, false, false, false, false, false, false, false, false, false, false, false, false, false, false, false, false, false, false, false, false, false, false, false, false, false, false, false, false, false, false, false, false, false, false, false, false, false, false, false, false, false, false, false, false]
def A48L0 : AC :=
  .seq (.seq (.reg 0 [⟨(some 11), .mv (.t 3), none⟩,
      ⟨(some 12), .fa 1 (.t 1), none⟩,
      ⟨(some 13), .load 1 false (.t 12), none⟩,
      ⟨(some 14), .len false (.t 13), none⟩,
      ⟨(some 15), .bin .lss (.t 11) (.t 14), none⟩])
  (.cond (.t 15)
    (.skip)
    (.exit 0)))
  (.seq (.block 1
    (.seq (.reg 1 [⟨(some 18), .fa 1 (.t 1), none⟩,
        ⟨(some 19), .load 1 false (.t 18), none⟩,
        ⟨(some 20), .mv (.t 3), none⟩,
        ⟨(some 21), .ia 4 (.t 19) (.t 20), none⟩,
        ⟨(some 22), .load 4 true (.t 21), none⟩,
        ⟨(some 4), .alloc 0 [(.v (.int .i64 0)), (.v (.int .i64 0)), (.v (.int .i64 0)), .nils], none⟩,
        ⟨none, .store 4 (.t 4) (.t 22), none⟩])
    (.seq (.seq (.reg 0 [⟨(some 23), .fa 0 (.t 4), none⟩,
        ⟨(some 24), .load 1 false (.t 23), none⟩,
        ⟨(some 25), .fa 3 (.t 1), none⟩,
        ⟨(some 26), .load 1 false (.t 25), none⟩,
        ⟨(some 27), .bin .sub (.t 26) (.c (.v (.int .i64 1))), none⟩,
        ⟨(some 28), .call 0 47 [(.t 24), (.c (.v (.int .i64 1))), (.t 27)], none⟩,
        ⟨(some 29), .un .not (.t 28), none⟩,
        ⟨(some 30), .mv (.t 29), none⟩,
        ⟨(some 31), .fa 1 (.t 4), (some (30, false))⟩,
        ⟨(some 32), .load 1 false (.t 31), (some (30, false))⟩,
        ⟨(some 33), .fa 2 (.t 1), (some (30, false))⟩,
        ⟨(some 34), .load 1 false (.t 33), (some (30, false))⟩,
        ⟨(some 35), .call 0 47 [(.t 32), (.c (.v (.int .i64 1))), (.t 34)], (some (30, false))⟩,
        ⟨(some 36), .un .not (.t 35), (some (30, false))⟩,
        ⟨(some 37), .pick (.t 30) (.c (.v (.bool true))) (.t 36), none⟩,
        ⟨(some 38), .mv (.t 37), none⟩,
        ⟨(some 39), .fa 2 (.t 4), (some (38, false))⟩,
        ⟨(some 40), .load 1 false (.t 39), (some (38, false))⟩,
        ⟨(some 41), .bin .neq (.t 40) (.c (.v (.int .i64 0))), (some (38, false))⟩,
        ⟨(some 42), .mv (.t 41), (some (38, false))⟩,
        ⟨(some 43), .fa 2 (.t 4), (some (42, true))⟩,
        ⟨(some 44), .load 1 false (.t 43), (some (42, true))⟩,
        ⟨(some 45), .fa 1 (.t 4), (some (42, true))⟩,
        ⟨(some 46), .load 1 false (.t 45), (some (42, true))⟩,
        ⟨(some 47), .bin .add (.t 46) (.c (.v (.int .i64 1))), (some (42, true))⟩,
        ⟨(some 48), .fa 2 (.t 1), (some (42, true))⟩,
        ⟨(some 49), .load 1 false (.t 48), (some (42, true))⟩,
        ⟨(some 50), .call 0 47 [(.t 44), (.t 47), (.t 49)], (some (42, true))⟩,
        ⟨(some 51), .un .not (.t 50), (some (42, true))⟩,
        ⟨(some 52), .mv (.t 51), (some (42, true))⟩,
        ⟨(some 53), .fa 2 (.t 4), (some (52, false))⟩,
        ⟨(some 54), .load 1 false (.t 53), (some (52, false))⟩,
        ⟨(some 55), .fa 5 (.t 1), (some (52, false))⟩,
        ⟨(some 56), .load 1 false (.t 55), (some (52, false))⟩,
        ⟨(some 57), .bin .leq (.t 54) (.t 56), (some (52, false))⟩,
        ⟨(some 58), .pick (.t 52) (.c (.v (.bool true))) (.t 57), (some (42, true))⟩,
        ⟨(some 59), .pick (.t 42) (.t 58) (.c (.v (.bool false))), (some (38, false))⟩,
        ⟨(some 60), .pick (.t 38) (.c (.v (.bool true))) (.t 59), none⟩])
    (.cond (.t 60)
      (.seq (.reg 0 [⟨(some 2), .mv (.c (.v (.int .i64 1))), none⟩])
      (.ret))
      (.skip)))
    (.seq (.seq (.reg 0 [⟨(some 61), .fa 0 (.t 1), none⟩,
        ⟨(some 62), .load 1 false (.t 61), none⟩,
        ⟨(some 63), .fa 3 (.t 4), none⟩,
        ⟨(some 64), .load 1 false (.t 63), none⟩,
        ⟨(some 65), .call 0 58 [(.t 62), (.t 64)], none⟩,
        ⟨(some 5), .mv (.t 65), none⟩])
    (.seq (.reg 0 [⟨(some 66), .mv (.t 5), none⟩,
        ⟨(some 67), .bin .neq (.t 66) (.c (.v (.int .i64 0))), none⟩])
    (.cond (.t 67)
      (.seq (.reg 0 [⟨(some 68), .mv (.t 5), none⟩,
          ⟨(some 2), .mv (.t 68), none⟩])
      (.ret))
      (.skip))))
    (.seq (.reg 0 [⟨(some 69), .mv (.t 3), none⟩,
        ⟨(some 70), .bin .gtr (.t 69) (.c (.v (.int .i64 0))), none⟩])
    (.cond (.t 70)
      (.seq (.reg 1 [⟨(some 71), .fa 1 (.t 1), none⟩,
          ⟨(some 72), .load 1 false (.t 71), none⟩,
          ⟨(some 73), .mv (.t 3), none⟩,
          ⟨(some 74), .bin .sub (.t 73) (.c (.v (.int .i64 1))), none⟩,
          ⟨(some 75), .ia 4 (.t 72) (.t 74), none⟩,
          ⟨(some 76), .load 4 true (.t 75), none⟩,
          ⟨(some 6), .alloc 0 [(.v (.int .i64 0)), (.v (.int .i64 0)), (.v (.int .i64 0)), .nils], none⟩,
          ⟨none, .store 4 (.t 6) (.t 76), none⟩])
      (.seq (.reg 0 [⟨(some 77), .fa 1 (.t 4), none⟩,
          ⟨(some 78), .load 1 false (.t 77), none⟩,
          ⟨(some 79), .fa 1 (.t 6), none⟩,
          ⟨(some 80), .load 1 false (.t 79), none⟩,
          ⟨(some 81), .bin .lss (.t 78) (.t 80), none⟩,
          ⟨(some 82), .mv (.t 81), none⟩,
          ⟨(some 83), .fa 1 (.t 4), (some (82, false))⟩,
          ⟨(some 84), .load 1 false (.t 83), (some (82, false))⟩,
          ⟨(some 85), .fa 1 (.t 6), (some (82, false))⟩,
          ⟨(some 86), .load 1 false (.t 85), (some (82, false))⟩,
          ⟨(some 87), .bin .eql (.t 84) (.t 86), (some (82, false))⟩,
          ⟨(some 88), .mv (.t 87), (some (82, false))⟩,
          ⟨(some 89), .fa 0 (.t 4), (some (88, true))⟩,
          ⟨(some 90), .load 1 false (.t 89), (some (88, true))⟩,
          ⟨(some 91), .fa 0 (.t 6), (some (88, true))⟩,
          ⟨(some 92), .load 1 false (.t 91), (some (88, true))⟩,
          ⟨(some 93), .bin .leq (.t 90) (.t 92), (some (88, true))⟩,
          ⟨(some 94), .pick (.t 88) (.t 93) (.c (.v (.bool false))), (some (82, false))⟩,
          ⟨(some 95), .pick (.t 82) (.c (.v (.bool true))) (.t 94), none⟩])
      (.cond (.t 95)
        (.seq (.reg 0 [⟨(some 2), .mv (.c (.v (.int .i64 8))), none⟩])
        (.ret))
        (.skip))))
      (.skip)))))))
  (.reg 0 [⟨(some 16), .mv (.t 3), none⟩,
      ⟨(some 17), .bin .add (.t 16) (.c (.v (.int .i64 1))), none⟩,
      ⟨(some 3), .mv (.t 17), none⟩]))
def A48M1 : List Bool := [false, true, false, false, false, false, false, true, true, false, false, false, false, false, false, false, false, false, false, false, false, false, false, false, false, false, false, false, false, false, false, false, false, false, false, false, false, false, false, false, false, false, false, false, false, false, false, false, false, false, false, false, false, false, false, false, false, false, false, false, false, false, false, false, false, false, false, false, false, false, false, false, false, false, false, false, false, false, false, false, false, false, false, false, false, false, false, false, false, false, false, false, false, false, false, false, false, false, false, false, false, false, false, false, false, false, false, false, false, false, false, false, false, false, false, false, false, false, false, false, false, false, false, false, false, false, false, false, false, false, false, false, false, false, false]
def A48L1 : AC :=
  .seq (.seq (.reg 0 [⟨(some 103), .mv (.t 8), none⟩,
      ⟨(some 104), .mv (.t 7), none⟩,
      ⟨(some 105), .bin .lss (.t 103) (.t 104), none⟩])
  (.cond (.t 105)
    (.skip)
    (.exit 4)))
  (.seq (.block 5
    (.seq (.dreg 2 [⟨(some 108), .fa 1 (.t 1), none⟩,
        ⟨(some 109), .load 1 false (.t 108), none⟩,
        ⟨(some 110), .mv (.t 8), none⟩,
        ⟨(some 111), .ia 4 (.t 109) (.t 110), none⟩,
        ⟨(some 112), .load 4 true (.t 111), none⟩,
        ⟨(some 113), .fa 1 (.t 1), none⟩,
        ⟨(some 114), .load 1 false (.t 113), none⟩,
        ⟨(some 115), .mv (.t 7), none⟩,
        ⟨(some 116), .ia 4 (.t 114) (.t 115), none⟩,
        ⟨(some 117), .load 4 true (.t 116), none⟩,
        ⟨(some 9), .alloc 0 [(.v (.int .i64 0)), (.v (.int .i64 0)), (.v (.int .i64 0)), .nils], none⟩,
        ⟨(some 10), .alloc 1 [(.v (.int .i64 0)), (.v (.int .i64 0)), (.v (.int .i64 0)), .nils], none⟩,
        ⟨none, .store 4 (.t 9) (.t 112), none⟩,
        ⟨none, .store 4 (.t 10) (.t 117), none⟩] [(1, 6), (3, 6), (4, 6), (1, 8), (3, 8), (4, 8), (1, 9), (3, 9), (4, 9), (1, 10), (3, 10), (4, 10), (6, 10), (8, 10), (9, 10), (1, 11), (3, 11), (4, 11), (6, 11), (8, 11), (9, 11), (10, 11), (6, 12), (8, 12), (9, 12)])
    (.seq (.reg 0 [⟨(some 118), .fa 0 (.t 9), none⟩,
        ⟨(some 119), .load 1 false (.t 118), none⟩,
        ⟨(some 120), .fa 0 (.t 10), none⟩,
        ⟨(some 121), .load 1 false (.t 120), none⟩,
        ⟨(some 122), .bin .eql (.t 119) (.t 121), none⟩,
        ⟨(some 123), .mv (.t 122), none⟩,
        ⟨(some 124), .fa 2 (.t 9), (some (123, true))⟩,
        ⟨(some 125), .load 1 false (.t 124), (some (123, true))⟩,
        ⟨(some 126), .bin .eql (.t 125) (.c (.v (.int .i64 0))), (some (123, true))⟩,
        ⟨(some 127), .mv (.t 126), (some (123, true))⟩,
        ⟨(some 128), .fa 2 (.t 9), (some (127, false))⟩,
        ⟨(some 129), .load 1 false (.t 128), (some (127, false))⟩,
        ⟨(some 130), .fa 1 (.t 10), (some (127, false))⟩,
        ⟨(some 131), .load 1 false (.t 130), (some (127, false))⟩,
        ⟨(some 132), .bin .gtr (.t 129) (.t 131), (some (127, false))⟩,
        ⟨(some 133), .pick (.t 127) (.c (.v (.bool true))) (.t 132), (some (123, true))⟩,
        ⟨(some 134), .pick (.t 123) (.t 133) (.c (.v (.bool false))), none⟩])
    (.cond (.t 134)
      (.seq (.reg 0 [⟨(some 2), .mv (.c (.v (.int .i64 7))), none⟩])
      (.ret))
      (.skip)))))
  (.reg 0 [⟨(some 106), .mv (.t 8), none⟩,
      ⟨(some 107), .bin .add (.t 106) (.c (.v (.int .i64 1))), none⟩,
      ⟨(some 8), .mv (.t 107), none⟩]))
def A48M2 : List Bool := [false, true, false, false, false, false, false, true, false, false, false, false, false, false, false, false, false, false, false, false, false, false, false, false, false, false, false, false, false, false, false, false, false, false, false, false, false, false, false, false, false, false, false, false, false, false, false, false, false, false, false, false, false, false, false, false, false, false, false, false, false, false, false, false, false, false, false, false, false, false, false, false, false, false, false, false, false, false, false, false, false, false, false, false, false, false, false, false, false, false, false, false, false, false, false, false, false, false, false, false, false, false, false, false, false, false, false, false, false, false, false, false, false, false, false, false, false, false, false, false, false, false, false, false, false, false, false, false, false, false, false, false, false, false, false]
def A48L2 : AC :=
  .seq (.seq (.reg 0 [⟨(some 96), .mv (.t 7), none⟩,
      ⟨(some 97), .fa 1 (.t 1), none⟩,
      ⟨(some 98), .load 1 false (.t 97), none⟩,
      ⟨(some 99), .len false (.t 98), none⟩,
      ⟨(some 100), .bin .lss (.t 96) (.t 99), none⟩])
  (.cond (.t 100)
    (.skip)
    (.exit 2)))
  (.seq (.block 3
    (.seq (.reg 0 [⟨(some 8), .mv (.c (.v (.int .i64 0))), none⟩])
    (.block 4
      (.loop A48M1 A48L1))))
  (.reg 0 [⟨(some 101), .mv (.t 7), none⟩,
      ⟨(some 102), .bin .add (.t 101) (.c (.v (.int .i64 1))), none⟩,
      ⟨(some 7), .mv (.t 102), none⟩]))
def A48 : AFn := ⟨135, [.tmp 2],
  .seq (.reg 1 [⟨(some 1), .box 0 (.t 0), none⟩,
      ⟨(some 2), .mv (.c (.v (.int .i64 0))), none⟩])
  (.seq (.seq (.reg 0 [⟨(some 3), .mv (.c (.v (.int .i64 0))), none⟩])
  (.block 0
    (.loop A48M0 A48L0)))
  (.seq (.seq (.reg 0 [⟨(some 7), .mv (.c (.v (.int .i64 0))), none⟩])
  (.block 2
    (.loop A48M2 A48L2)))
  (.seq (.reg 0 [⟨(some 2), .mv (.c (.v (.int .i64 0))), none⟩])
  (.ret))))⟩
/-- Live: [1, 3] -/
abbrev A48H0 (t1 t3 : AV) : List AV := [.top, t1, .top, t3, .top, .top, .top, .top, .top, .top, .top, .top, .top, .top, .top, .top, .top, .top, .top, .top, .top, .top, .top, .top, .top, .top, .top, .top, .top, .top, .top, .top, .top, .top, .top, .top, .top, .top, .top, .top, .top, .top, .top, .top, .top, .top, .top, .top, .top, .top, .top, .top, .top, .top, .top, .top, .top, .top, .top, .top, .top, .top, .top, .top, .top, .top, .top, .top, .top, .top, .top, .top, .top, .top, .top, .top, .top, .top, .top, .top, .top, .top, .top, .top, .top, .top, .top, .top, .top, .top, .top, .top, .top, .top, .top, .top, .top, .top, .top, .top, .top, .top, .top, .top, .top, .top, .top, .top, .top, .top, .top, .top, .top, .top, .top, .top, .top, .top, .top, .top, .top, .top, .top, .top, .top, .top, .top, .top, .top, .top, .top, .top, .top, .top, .top]
theorem A48M0_eq (t0 t1 t2 t3 t4 t5 t6 t7 t8 t9 t10 t11 t12 t13 t14 t15 t16 t17 t18 t19 t20 t21 t22 t23 t24 t25 t26 t27 t28 t29 t30 t31 t32 t33 t34 t35 t36 t37 t38 t39 t40 t41 t42 t43 t44 t45 t46 t47 t48 t49 t50 t51 t52 t53 t54 t55 t56 t57 t58 t59 t60 t61 t62 t63 t64 t65 t66 t67 t68 t69 t70 t71 t72 t73 t74 t75 t76 t77 t78 t79 t80 t81 t82 t83 t84 t85 t86 t87 t88 t89 t90 t91 t92 t93 t94 t95 t96 t97 t98 t99 t100 t101 t102 t103 t104 t105 t106 t107 t108 t109 t110 t111 t112 t113 t114 t115 t116 t117 t118 t119 t120 t121 t122 t123 t124 t125 t126 t127 t128 t129 t130 t131 t132 t133 t134 : AV) : mask A48M0 [t0, t1, t2, t3, t4, t5, t6, t7, t8, t9, t10, t11, t12, t13, t14, t15, t16, t17, t18, t19, t20, t21, t22, t23, t24, t25, t26, t27, t28, t29, t30, t31, t32, t33, t34, t35, t36, t37, t38, t39, t40, t41, t42, t43, t44, t45, t46, t47, t48, t49, t50, t51, t52, t53, t54, t55, t56, t57, t58, t59, t60, t61, t62, t63, t64, t65, t66, t67, t68, t69, t70, t71, t72, t73, t74, t75, t76, t77, t78, t79, t80, t81, t82, t83, t84, t85, t86, t87, t88, t89, t90, t91, t92, t93, t94, t95, t96, t97, t98, t99, t100, t101, t102, t103, t104, t105, t106, t107, t108, t109, t110, t111, t112, t113, t114, t115, t116, t117, t118, t119, t120, t121, t122, t123, t124, t125, t126, t127, t128, t129, t130, t131, t132, t133, t134] = [.top, t1, .top, t3, .top, .top, .top, .top, .top, .top, .top, .top, .top, .top, .top, .top, .top, .top, .top, .top, .top, .top, .top, .top, .top, .top, .top, .top, .top, .top, .top, .top, .top, .top, .top, .top, .top, .top, .top, .top, .top, .top, .top, .top, .top, .top, .top, .top, .top, .top, .top, .top, .top, .top, .top, .top, .top, .top, .top, .top, .top, .top, .top, .top, .top, .top, .top, .top, .top, .top, .top, .top, .top, .top, .top, .top, .top, .top, .top, .top, .top, .top, .top, .top, .top, .top, .top, .top, .top, .top, .top, .top, .top, .top, .top, .top, .top, .top, .top, .top, .top, .top, .top, .top, .top, .top, .top, .top, .top, .top, .top, .top, .top, .top, .top, .top, .top, .top, .top, .top, .top, .top, .top, .top, .top, .top, .top, .top, .top, .top, .top, .top, .top, .top, .top] := rfl
/-- Live: [1, 7, 8] -/
abbrev A48H1 (t1 t7 t8 : AV) : List AV := [.top, t1, .top, .top, .top, .top, .top, t7, t8, .top, .top, .top, .top, .top, .top, .top, .top, .top, .top, .top, .top, .top, .top, .top, .top, .top, .top, .top, .top, .top, .top, .top, .top, .top, .top, .top, .top, .top, .top, .top, .top, .top, .top, .top, .top, .top, .top, .top, .top, .top, .top, .top, .top, .top, .top, .top, .top, .top, .top, .top, .top, .top, .top, .top, .top, .top, .top, .top, .top, .top, .top, .top, .top, .top, .top, .top, .top, .top, .top, .top, .top, .top, .top, .top, .top, .top, .top, .top, .top, .top, .top, .top, .top, .top, .top, .top, .top, .top, .top, .top, .top, .top, .top, .top, .top, .top, .top, .top, .top, .top, .top, .top, .top, .top, .top, .top, .top, .top, .top, .top, .top, .top, .top, .top, .top, .top, .top, .top, .top, .top, .top, .top, .top, .top, .top]
theorem A48M1_eq (t0 t1 t2 t3 t4 t5 t6 t7 t8 t9 t10 t11 t12 t13 t14 t15 t16 t17 t18 t19 t20 t21 t22 t23 t24 t25 t26 t27 t28 t29 t30 t31 t32 t33 t34 t35 t36 t37 t38 t39 t40 t41 t42 t43 t44 t45 t46 t47 t48 t49 t50 t51 t52 t53 t54 t55 t56 t57 t58 t59 t60 t61 t62 t63 t64 t65 t66 t67 t68 t69 t70 t71 t72 t73 t74 t75 t76 t77 t78 t79 t80 t81 t82 t83 t84 t85 t86 t87 t88 t89 t90 t91 t92 t93 t94 t95 t96 t97 t98 t99 t100 t101 t102 t103 t104 t105 t106 t107 t108 t109 t110 t111 t112 t113 t114 t115 t116 t117 t118 t119 t120 t121 t122 t123 t124 t125 t126 t127 t128 t129 t130 t131 t132 t133 t134 : AV) : mask A48M1 [t0, t1, t2, t3, t4, t5, t6, t7, t8, t9, t10, t11, t12, t13, t14, t15, t16, t17, t18, t19, t20, t21, t22, t23, t24, t25, t26, t27, t28, t29, t30, t31, t32, t33, t34, t35, t36, t37, t38, t39, t40, t41, t42, t43, t44, t45, t46, t47, t48, t49, t50, t51, t52, t53, t54, t55, t56, t57, t58, t59, t60, t61, t62, t63, t64, t65, t66, t67, t68, t69, t70, t71, t72, t73, t74, t75, t76, t77, t78, t79, t80, t81, t82, t83, t84, t85, t86, t87, t88, t89, t90, t91, t92, t93, t94, t95, t96, t97, t98, t99, t100, t101, t102, t103, t104, t105, t106, t107, t108, t109, t110, t111, t112, t113, t114, t115, t116, t117, t118, t119, t120, t121, t122, t123, t124, t125, t126, t127, t128, t129, t130, t131, t132, t133, t134] = [.top, t1, .top, .top, .top, .top, .top, t7, t8, .top, .top, .top, .top, .top, .top, .top, .top, .top, .top, .top, .top, .top, .top, .top, .top, .top, .top, .top, .top, .top, .top, .top, .top, .top, .top, .top, .top, .top, .top, .top, .top, .top, .top, .top, .top, .top, .top, .top, .top, .top, .top, .top, .top, .top, .top, .top, .top, .top, .top, .top, .top, .top, .top, .top, .top, .top, .top, .top, .top, .top, .top, .top, .top, .top, .top, .top, .top, .top, .top, .top, .top, .top, .top, .top, .top, .top, .top, .top, .top, .top, .top, .top, .top, .top, .top, .top, .top, .top, .top, .top, .top, .top, .top, .top, .top, .top, .top, .top, .top, .top, .top, .top, .top, .top, .top, .top, .top, .top, .top, .top, .top, .top, .top, .top, .top, .top, .top, .top, .top, .top, .top, .top, .top, .top, .top] := rfl
/-- Live: [1, 7] -/
abbrev A48H2 (t1 t7 : AV) : List AV := [.top, t1, .top, .top, .top, .top, .top, t7, .top, .top, .top, .top, .top, .top, .top, .top, .top, .top, .top, .top, .top, .top, .top, .top, .top, .top, .top, .top, .top, .top, .top, .top, .top, .top, .top, .top, .top, .top, .top, .top, .top, .top, .top, .top, .top, .top, .top, .top, .top, .top, .top, .top, .top, .top, .top, .top, .top, .top, .top, .top, .top, .top, .top, .top, .top, .top, .top, .top, .top, .top, .top, .top, .top, .top, .top, .top, .top, .top, .top, .top, .top, .top, .top, .top, .top, .top, .top, .top, .top, .top, .top, .top, .top, .top, .top, .top, .top, .top, .top, .top, .top, .top, .top, .top, .top, .top, .top, .top, .top, .top, .top, .top, .top, .top, .top, .top, .top, .top, .top, .top, .top, .top, .top, .top, .top, .top, .top, .top, .top, .top, .top, .top, .top, .top, .top]
theorem A48M2_eq (t0 t1 t2 t3 t4 t5 t6 t7 t8 t9 t10 t11 t12 t13 t14 t15 t16 t17 t18 t19 t20 t21 t22 t23 t24 t25 t26 t27 t28 t29 t30 t31 t32 t33 t34 t35 t36 t37 t38 t39 t40 t41 t42 t43 t44 t45 t46 t47 t48 t49 t50 t51 t52 t53 t54 t55 t56 t57 t58 t59 t60 t61 t62 t63 t64 t65 t66 t67 t68 t69 t70 t71 t72 t73 t74 t75 t76 t77 t78 t79 t80 t81 t82 t83 t84 t85 t86 t87 t88 t89 t90 t91 t92 t93 t94 t95 t96 t97 t98 t99 t100 t101 t102 t103 t104 t105 t106 t107 t108 t109 t110 t111 t112 t113 t114 t115 t116 t117 t118 t119 t120 t121 t122 t123 t124 t125 t126 t127 t128 t129 t130 t131 t132 t133 t134 : AV) : mask A48M2 [t0, t1, t2, t3, t4, t5, t6, t7, t8, t9, t10, t11, t12, t13, t14, t15, t16, t17, t18, t19, t20, t21, t22, t23, t24, t25, t26, t27, t28, t29, t30, t31, t32, t33, t34, t35, t36, t37, t38, t39, t40, t41, t42, t43, t44, t45, t46, t47, t48, t49, t50, t51, t52, t53, t54, t55, t56, t57, t58, t59, t60, t61, t62, t63, t64, t65, t66, t67, t68, t69, t70, t71, t72, t73, t74, t75, t76, t77, t78, t79, t80, t81, t82, t83, t84, t85, t86, t87, t88, t89, t90, t91, t92, t93, t94, t95, t96, t97, t98, t99, t100, t101, t102, t103, t104, t105, t106, t107, t108, t109, t110, t111, t112, t113, t114, t115, t116, t117, t118, t119, t120, t121, t122, t123, t124, t125, t126, t127, t128, t129, t130, t131, t132, t133, t134] = [.top, t1, .top, .top, .top, .top, .top, t7, .top, .top, .top, .top, .top, .top, .top, .top, .top, .top, .top, .top, .top, .top, .top, .top, .top, .top, .top, .top, .top, .top, .top, .top, .top, .top, .top, .top, .top, .top, .top, .top, .top, .top, .top, .top, .top, .top, .top, .top, .top, .top, .top, .top, .top, .top, .top, .top, .top, .top, .top, .top, .top, .top, .top, .top, .top, .top, .top, .top, .top, .top, .top, .top, .top, .top, .top, .top, .top, .top, .top, .top, .top, .top, .top, .top, .top, .top, .top, .top, .top, .top, .top, .top, .top, .top, .top, .top, .top, .top, .top, .top, .top, .top, .top, .top, .top, .top, .top, .top, .top, .top, .top, .top, .top, .top, .top, .top, .top, .top, .top, .top, .top, .top, .top, .top, .top, .top, .top, .top, .top, .top, .top, .top, .top, .top, .top] := rfl
theorem A48_is : compFn Try.prog md Try.f48 = some { A48 with code := A48.code.erase } := by kernel_rfl

/-- peristyle/peristyleref11.checkOpen -/
def A49M0 : List Bool := [false, true, false, true, true, true, true, true, false, false, false, false, false, false, false, false, false, false, false, false, false, false, false, false, false, false, false, false, false, false, false, false, false, false, false, false, false, false, false, false, false, false, false, false, false, false, false, false, false, false, false, false, false, false, false, false, false, false, false, false, false, false, false, false, false, false, false, false, false, false, false, false, false, false, false, false, false, false, false, false, false, false, false, false, false, false, false, false, false, false, false, false]
def A49L0 : AC :=
  .seq (.seq (.reg 0 [⟨(some 58), .mv (.t 7), none⟩,
      ⟨(some 59), .fa 2 (.t 5), none⟩,
      ⟨(some 60), .load 1 false (.t 59), none⟩,
      ⟨(some 61), .len false (.t 60), none⟩,
      ⟨(some 62), .bin .lss (.t 58) (.t 61), none⟩])
  (.cond (.t 62)
    (.skip)
    (.exit 2)))
  (.seq (.block 3
    (.seq (.seq (.dreg 0 [⟨(some 65), .load 7 true (.t 1), none⟩,
        ⟨(some 66), .mv (.t 6), none⟩,
        ⟨(some 67), .mv (.t 3), none⟩,
        ⟨(some 68), .fa 2 (.t 5), none⟩,
        ⟨(some 69), .load 1 false (.t 68), none⟩,
        ⟨(some 70), .mv (.t 7), none⟩,
        ⟨(some 71), .ia 3 (.t 69) (.t 70), none⟩,
        ⟨(some 72), .load 3 true (.t 71), none⟩,
        ⟨(some 73), .call 0 89 [(.t 65), (.t 66), (.t 67), (.t 72)], none⟩,
        ⟨(some 8), .mv (.t 73), none⟩] [(0, 4), (0, 6), (0, 7)])
    (.seq (.reg 0 [⟨(some 74), .mv (.t 8), none⟩,
        ⟨(some 75), .bin .neq (.t 74) (.c (.v (.int .i64 0))), none⟩])
    (.cond (.t 75)
      (.seq (.reg 0 [⟨(some 76), .mv (.t 8), none⟩,
          ⟨(some 2), .mv (.t 76), none⟩])
      (.ret))
      (.skip))))
    (.seq (.reg 0 [⟨(some 77), .mv (.t 6), none⟩,
        ⟨(some 78), .fa 2 (.t 5), none⟩,
        ⟨(some 79), .load 1 false (.t 78), none⟩,
        ⟨(some 80), .mv (.t 7), none⟩,
        ⟨(some 81), .ia 3 (.t 79) (.t 80), none⟩,
        ⟨(some 82), .load 3 true (.t 81), none⟩,
        ⟨(some 83), .call 0 90 [(.t 77), (.t 82)], none⟩,
        ⟨(some 6), .mv (.t 83), none⟩])
    (.reg 0 [⟨(some 84), .mv (.t 3), none⟩,
        ⟨(some 85), .fa 2 (.t 5), none⟩,
        ⟨(some 86), .load 1 false (.t 85), none⟩,
        ⟨(some 87), .mv (.t 7), none⟩,
        ⟨(some 88), .ia 3 (.t 86) (.t 87), none⟩,
        ⟨(some 89), .load 3 true (.t 88), none⟩,
        ⟨(some 90), .bsl 3 1 [(.v (.int .i64 0)), (.v (.int .i64 0)), .nils] [(0, (.t 89))], none⟩,
        ⟨(some 91), .app 3 40 (.t 84) (.t 90), none⟩,
        ⟨(some 3), .mv (.t 91), none⟩]))))
  (.reg 0 [⟨(some 63), .mv (.t 7), none⟩,
      ⟨(some 64), .bin .add (.t 63) (.c (.v (.int .i64 1))), none⟩,
      ⟨(some 7), .mv (.t 64), none⟩]))
def A49M1 : List Bool := [false, true, false, true, true, false, false, false, false, false, false, false, false, false, false, false, false, false, false, false, false, false, false, false, false, false, false, false, false, false, false, false, false, false, false, false, false, false, false, false, false, false, false, false, false, false, false, false, false, false, false, false, false, false, false, false, false, false, false, false, false, false, false, false, false, false, false, false, false, false, false, false, false, false, false, false, false, false, false, false, false, false, false, false, false, false, false, false, false, false, false, false]
def A49L1 : AC :=
  .seq (.seq (.reg 0 [⟨(some 9), .mv (.t 4), none⟩,
      ⟨(some 10), .fa 6 (.t 1), none⟩,
      ⟨(some 11), .load 1 false (.t 10), none⟩,
      ⟨(some 12), .len false (.t 11), none⟩,
      ⟨(some 13), .bin .lss (.t 9) (.t 12), none⟩])
  (.cond (.t 13)
    (.skip)
    (.exit 0)))
  (.seq (.block 1
    (.seq (.reg 1 [⟨(some 16), .fa 6 (.t 1), none⟩,
        ⟨(some 17), .load 1 false (.t 16), none⟩,
        ⟨(some 18), .mv (.t 4), none⟩,
        ⟨(some 19), .ia 3 (.t 17) (.t 18), none⟩,
        ⟨(some 20), .load 3 true (.t 19), none⟩,
        ⟨(some 5), .alloc 0 [(.v (.int .i64 0)), (.v (.int .i64 0)), .nils], none⟩,
        ⟨none, .store 3 (.t 5) (.t 20), none⟩])
    (.seq (.seq (.reg 0 [⟨(some 21), .fa 0 (.t 5), none⟩,
        ⟨(some 22), .load 1 false (.t 21), none⟩,
        ⟨(some 23), .fa 4 (.t 1), none⟩,
        ⟨(some 24), .load 1 false (.t 23), none⟩,
        ⟨(some 25), .bin .sub (.t 24) (.c (.v (.int .i64 1))), none⟩,
        ⟨(some 26), .call 0 47 [(.t 22), (.c (.v (.int .i64 1))), (.t 25)], none⟩,
        ⟨(some 27), .un .not (.t 26), none⟩])
    (.cond (.t 27)
      (.seq (.reg 0 [⟨(some 2), .mv (.c (.v (.int .i64 1))), none⟩])
      (.ret))
      (.skip)))
    (.seq (.seq (.dreg 0 [⟨(some 28), .mv (.t 4), none⟩,
        ⟨(some 29), .bin .gtr (.t 28) (.c (.v (.int .i64 0))), none⟩,
        ⟨(some 30), .mv (.t 29), none⟩,
        ⟨(some 31), .fa 0 (.t 5), (some (30, true))⟩,
        ⟨(some 32), .load 1 false (.t 31), (some (30, true))⟩,
        ⟨(some 33), .fa 6 (.t 1), (some (30, true))⟩,
        ⟨(some 34), .load 1 false (.t 33), (some (30, true))⟩,
        ⟨(some 35), .mv (.t 4), (some (30, true))⟩,
        ⟨(some 36), .bin .sub (.t 35) (.c (.v (.int .i64 1))), (some (30, true))⟩,
        ⟨(some 37), .ia 3 (.t 34) (.t 36), (some (30, true))⟩,
        ⟨(some 38), .fa 0 (.t 37), (some (30, true))⟩,
        ⟨(some 39), .load 1 false (.t 38), (some (30, true))⟩,
        ⟨(some 40), .bin .leq (.t 32) (.t 39), (some (30, true))⟩,
        ⟨(some 41), .pick (.t 30) (.t 40) (.c (.v (.bool false))), none⟩] [(4, 6), (4, 9), (4, 11)])
    (.cond (.t 41)
      (.seq (.reg 0 [⟨(some 2), .mv (.c (.v (.int .i64 8))), none⟩])
      (.ret))
      (.skip)))
    (.seq (.seq (.reg 0 [⟨(some 42), .fa 1 (.t 5), none⟩,
        ⟨(some 43), .load 1 false (.t 42), none⟩,
        ⟨(some 44), .fa 5 (.t 1), none⟩,
        ⟨(some 45), .load 1 false (.t 44), none⟩,
        ⟨(some 46), .fa 2 (.t 1), none⟩,
        ⟨(some 47), .load 1 false (.t 46), none⟩,
        ⟨(some 48), .call 0 47 [(.t 43), (.t 45), (.t 47)], none⟩,
        ⟨(some 49), .un .not (.t 48), none⟩])
    (.cond (.t 49)
      (.seq (.reg 0 [⟨(some 2), .mv (.c (.v (.int .i64 1))), none⟩])
      (.ret))
      (.skip)))
    (.seq (.seq (.reg 0 [⟨(some 50), .fa 2 (.t 5), none⟩,
        ⟨(some 51), .load 1 false (.t 50), none⟩,
        ⟨(some 52), .len false (.t 51), none⟩,
        ⟨(some 53), .bin .gtr (.t 52) (.c (.v (.int .i64 200))), none⟩])
    (.cond (.t 53)
      (.seq (.reg 0 [⟨(some 2), .mv (.c (.v (.int .i64 2))), none⟩])
      (.ret))
      (.skip)))
    (.seq (.reg 0 [⟨(some 54), .load 7 true (.t 1), none⟩,
        ⟨(some 55), .fa 1 (.t 5), none⟩,
        ⟨(some 56), .load 1 false (.t 55), none⟩,
        ⟨(some 57), .call 0 79 [(.t 54), (.t 56)], none⟩,
        ⟨(some 6), .mv (.t 57), none⟩])
    (.seq (.reg 0 [⟨(some 7), .mv (.c (.v (.int .i64 0))), none⟩])
    (.block 2
      (.loop A49M0 A49L0))))))))))
  (.reg 0 [⟨(some 14), .mv (.t 4), none⟩,
      ⟨(some 15), .bin .add (.t 14) (.c (.v (.int .i64 1))), none⟩,
      ⟨(some 4), .mv (.t 15), none⟩]))
def A49 : AFn := ⟨92, [.tmp 2],
  .seq (.reg 1 [⟨(some 1), .box 0 (.t 0), none⟩,
      ⟨(some 2), .mv (.c (.v (.int .i64 0))), none⟩])
  (.seq (.reg 0 [⟨(some 3), .mv (.c .nils), none⟩])
  (.seq (.seq (.reg 0 [⟨(some 4), .mv (.c (.v (.int .i64 0))), none⟩])
  (.block 0
    (.loop A49M1 A49L1)))
  (.seq (.reg 0 [⟨(some 2), .mv (.c (.v (.int .i64 0))), none⟩])
  (.ret))))⟩
/-- Live: [1, 3, 4, 5, 6, 7] -/
abbrev A49H0 (t1 t3 t4 t5 t6 t7 : AV) : List AV := [.top, t1, .top, t3, t4, t5, t6, t7, .top, .top, .top, .top, .top, .top, .top, .top, .top, .top, .top, .top, .top, .top, .top, .top, .top, .top, .top, .top, .top, .top, .top, .top, .top, .top, .top, .top, .top, .top, .top, .top, .top, .top, .top, .top, .top, .top, .top, .top, .top, .top, .top, .top, .top, .top, .top, .top, .top, .top, .top, .top, .top, .top, .top, .top, .top, .top, .top, .top, .top, .top, .top, .top, .top, .top, .top, .top, .top, .top, .top, .top, .top, .top, .top, .top, .top, .top, .top, .top, .top, .top, .top, .top]
theorem A49M0_eq (t0 t1 t2 t3 t4 t5 t6 t7 t8 t9 t10 t11 t12 t13 t14 t15 t16 t17 t18 t19 t20 t21 t22 t23 t24 t25 t26 t27 t28 t29 t30 t31 t32 t33 t34 t35 t36 t37 t38 t39 t40 t41 t42 t43 t44 t45 t46 t47 t48 t49 t50 t51 t52 t53 t54 t55 t56 t57 t58 t59 t60 t61 t62 t63 t64 t65 t66 t67 t68 t69 t70 t71 t72 t73 t74 t75 t76 t77 t78 t79 t80 t81 t82 t83 t84 t85 t86 t87 t88 t89 t90 t91 : AV) : mask A49M0 [t0, t1, t2, t3, t4, t5, t6, t7, t8, t9, t10, t11, t12, t13, t14, t15, t16, t17, t18, t19, t20, t21, t22, t23, t24, t25, t26, t27, t28, t29, t30, t31, t32, t33, t34, t35, t36, t37, t38, t39, t40, t41, t42, t43, t44, t45, t46, t47, t48, t49, t50, t51, t52, t53, t54, t55, t56, t57, t58, t59, t60, t61, t62, t63, t64, t65, t66, t67, t68, t69, t70, t71, t72, t73, t74, t75, t76, t77, t78, t79, t80, t81, t82, t83, t84, t85, t86, t87, t88, t89, t90, t91] = [.top, t1, .top, t3, t4, t5, t6, t7, .top, .top, .top, .top, .top, .top, .top, .top, .top, .top, .top, .top, .top, .top, .top, .top, .top, .top, .top, .top, .top, .top, .top, .top, .top, .top, .top, .top, .top, .top, .top, .top, .top, .top, .top, .top, .top, .top, .top, .top, .top, .top, .top, .top, .top, .top, .top, .top, .top, .top, .top, .top, .top, .top, .top, .top, .top, .top, .top, .top, .top, .top, .top, .top, .top, .top, .top, .top, .top, .top, .top, .top, .top, .top, .top, .top, .top, .top, .top, .top, .top, .top, .top, .top] := rfl
/-- Live: [1, 3, 4] -/
abbrev A49H1 (t1 t3 t4 : AV) : List AV := [.top, t1, .top, t3, t4, .top, .top, .top, .top, .top, .top, .top, .top, .top, .top, .top, .top, .top, .top, .top, .top, .top, .top, .top, .top, .top, .top, .top, .top, .top, .top, .top, .top, .top, .top, .top, .top, .top, .top, .top, .top, .top, .top, .top, .top, .top, .top, .top, .top, .top, .top, .top, .top, .top, .top, .top, .top, .top, .top, .top, .top, .top, .top, .top, .top, .top, .top, .top, .top, .top, .top, .top, .top, .top, .top, .top, .top, .top, .top, .top, .top, .top, .top, .top, .top, .top, .top, .top, .top, .top, .top, .top]
theorem A49M1_eq (t0 t1 t2 t3 t4 t5 t6 t7 t8 t9 t10 t11 t12 t13 t14 t15 t16 t17 t18 t19 t20 t21 t22 t23 t24 t25 t26 t27 t28 t29 t30 t31 t32 t33 t34 t35 t36 t37 t38 t39 t40 t41 t42 t43 t44 t45 t46 t47 t48 t49 t50 t51 t52 t53 t54 t55 t56 t57 t58 t59 t60 t61 t62 t63 t64 t65 t66 t67 t68 t69 t70 t71 t72 t73 t74 t75 t76 t77 t78 t79 t80 t81 t82 t83 t84 t85 t86 t87 t88 t89 t90 t91 : AV) : mask A49M1 [t0, t1, t2, t3, t4, t5, t6, t7, t8, t9, t10, t11, t12, t13, t14, t15, t16, t17, t18, t19, t20, t21, t22, t23, t24, t25, t26, t27, t28, t29, t30, t31, t32, t33, t34, t35, t36, t37, t38, t39, t40, t41, t42, t43, t44, t45, t46, t47, t48, t49, t50, t51, t52, t53, t54, t55, t56, t57, t58, t59, t60, t61, t62, t63, t64, t65, t66, t67, t68, t69, t70, t71, t72, t73, t74, t75, t76, t77, t78, t79, t80, t81, t82, t83, t84, t85, t86, t87, t88, t89, t90, t91] = [.top, t1, .top, t3, t4, .top, .top, .top, .top, .top, .top, .top, .top, .top, .top, .top, .top, .top, .top, .top, .top, .top, .top, .top, .top, .top, .top, .top, .top, .top, .top, .top, .top, .top, .top, .top, .top, .top, .top, .top, .top, .top, .top, .top, .top, .top, .top, .top, .top, .top, .top, .top, .top, .top, .top, .top, .top, .top, .top, .top, .top, .top, .top, .top, .top, .top, .top, .top, .top, .top, .top, .top, .top, .top, .top, .top, .top, .top, .top, .top, .top, .top, .top, .top, .top, .top, .top, .top, .top, .top, .top, .top] := rfl
theorem A49_is : compFn Try.prog md Try.f49 = some { A49 with code := A49.code.erase } := by kernel_rfl

/-- peristyle/peristyleref11.Alike -/
def A50 : AFn := ⟨38, [.tmp 4],
  .seq (.reg 2 [⟨(some 2), .box 0 (.t 0), none⟩,
      ⟨(some 3), .box 1 (.t 1), none⟩,
      ⟨(some 4), .mv (.c (.v (.bool false))), none⟩])
  (.seq (.reg 0 [⟨(some 5), .fa 0 (.t 2), none⟩,
      ⟨(some 6), .load 1 false (.t 5), none⟩,
      ⟨(some 7), .fa 0 (.t 3), none⟩,
      ⟨(some 8), .load 1 false (.t 7), none⟩,
      ⟨(some 9), .call 0 72 [(.t 6), (.t 8)], none⟩,
      ⟨(some 10), .mv (.t 9), none⟩,
      ⟨(some 11), .fa 1 (.t 2), (some (10, true))⟩,
      ⟨(some 12), .load 1 false (.t 11), (some (10, true))⟩,
      ⟨(some 13), .fa 1 (.t 3), (some (10, true))⟩,
      ⟨(some 14), .load 1 false (.t 13), (some (10, true))⟩,
      ⟨(some 15), .call 0 39 [(.t 12), (.t 14)], (some (10, true))⟩,
      ⟨(some 16), .pick (.t 10) (.t 15) (.c (.v (.bool false))), none⟩,
      ⟨(some 17), .mv (.t 16), none⟩,
      ⟨(some 18), .fa 2 (.t 2), (some (17, true))⟩,
      ⟨(some 19), .load 1 false (.t 18), (some (17, true))⟩,
      ⟨(some 20), .fa 2 (.t 3), (some (17, true))⟩,
      ⟨(some 21), .load 1 false (.t 20), (some (17, true))⟩,
      ⟨(some 22), .bin .eql (.t 19) (.t 21), (some (17, true))⟩,
      ⟨(some 23), .pick (.t 17) (.t 22) (.c (.v (.bool false))), none⟩,
      ⟨(some 24), .mv (.t 23), none⟩,
      ⟨(some 25), .fa 3 (.t 2), (some (24, true))⟩,
      ⟨(some 26), .load 1 false (.t 25), (some (24, true))⟩,
      ⟨(some 27), .fa 3 (.t 3), (some (24, true))⟩,
      ⟨(some 28), .load 1 false (.t 27), (some (24, true))⟩,
      ⟨(some 29), .bin .eql (.t 26) (.t 28), (some (24, true))⟩,
      ⟨(some 30), .pick (.t 24) (.t 29) (.c (.v (.bool false))), none⟩,
      ⟨(some 31), .mv (.t 30), none⟩,
      ⟨(some 32), .fa 5 (.t 2), (some (31, true))⟩,
      ⟨(some 33), .load 1 false (.t 32), (some (31, true))⟩,
      ⟨(some 34), .fa 5 (.t 3), (some (31, true))⟩,
      ⟨(some 35), .load 1 false (.t 34), (some (31, true))⟩,
      ⟨(some 36), .bin .eql (.t 33) (.t 35), (some (31, true))⟩,
      ⟨(some 37), .pick (.t 31) (.t 36) (.c (.v (.bool false))), none⟩,
      ⟨(some 4), .mv (.t 37), none⟩])
  (.ret))⟩
theorem A50_is : compFn Try.prog md Try.f50 = some { A50 with code := A50.code.erase } := by kernel_rfl

/-- peristyle/store.cloned -/
def A51M0 : List Bool := [false, true, true, true, false, false, false, false, false, false, false, false, false, false, false, false, false, false, false, true, true, true, false, false, false, false, false, false, false, false, false, false, false, false, false, false, false, false, false, false, false, false, false, false, false, false, false, false, false, false, false, false, false, false, false, false, false, false, false, false, false, false, false, false, false, false, false, false, false, false, false, false, false]
def A51L0 : AC :=
  .seq (.reg 0 [⟨(some 22), .bin .lss (.t 21) (.t 20), none⟩])
  (.seq (.cond (.t 22)
    (.skip)
    (.exit 0))
  (.seq (.block 1
    (.seq (.reg 1 [⟨(some 23), .mv (.t 21), none⟩,
        ⟨(some 24), .ia 4 (.t 19) (.t 21), none⟩,
        ⟨(some 25), .load 4 true (.t 24), none⟩,
        ⟨(some 5), .alloc 0 [(.v (.int .i64 0)), (.v (.int .i64 0)), (.v (.int .i64 0)), .nils], none⟩,
        ⟨(some 4), .mv (.t 23), none⟩,
        ⟨none, .store 4 (.t 5) (.t 25), none⟩])
    (.reg 0 [⟨(some 26), .mv (.t 3), none⟩,
        ⟨(some 27), .mv (.t 4), none⟩,
        ⟨(some 28), .fa 3 (.t 5), none⟩,
        ⟨(some 29), .load 1 false (.t 28), none⟩,
        ⟨(some 30), .call 0 57 [(.t 29)], none⟩,
        ⟨(some 31), .ia 4 (.t 26) (.t 27), none⟩,
        ⟨(some 32), .fa 3 (.t 31), none⟩,
        ⟨none, .store 1 (.t 32) (.t 30), none⟩])))
  (.reg 0 [⟨(some 33), .bin .add (.t 21) (.c (.v (.int .i64 1))), none⟩,
      ⟨(some 21), .mv (.t 33), none⟩])))
def A51M1 : List Bool := [false, true, true, true, false, false, true, true, false, true, false, false, false, false, false, false, false, false, false, false, false, false, false, false, false, false, false, false, false, false, false, false, false, false, false, false, false, true, true, true, false, false, false, false, false, false, false, true, true, true, false, false, false, false, false, false, false, false, false, false, false, false, false, false, false, false, false, false, false, false, false, false, false]
def A51L1 : AC :=
  .seq (.reg 0 [⟨(some 50), .bin .lss (.t 49) (.t 48), none⟩])
  (.seq (.cond (.t 50)
    (.skip)
    (.exit 4))
  (.seq (.block 5
    (.seq (.reg 1 [⟨(some 51), .mv (.t 49), none⟩,
        ⟨(some 52), .ia 3 (.t 47) (.t 49), none⟩,
        ⟨(some 53), .load 3 true (.t 52), none⟩,
        ⟨(some 11), .alloc 0 [(.v (.int .i64 0)), (.v (.int .i64 0)), .nils], none⟩,
        ⟨(some 10), .mv (.t 51), none⟩,
        ⟨none, .store 3 (.t 11) (.t 53), none⟩])
    (.reg 0 [⟨(some 54), .mv (.t 9), none⟩,
        ⟨(some 55), .mv (.t 10), none⟩,
        ⟨(some 56), .fa 2 (.t 11), none⟩,
        ⟨(some 57), .load 1 false (.t 56), none⟩,
        ⟨(some 58), .call 0 57 [(.t 57)], none⟩,
        ⟨(some 59), .ia 3 (.t 54) (.t 55), none⟩,
        ⟨(some 60), .fa 2 (.t 59), none⟩,
        ⟨none, .store 1 (.t 60) (.t 58), none⟩])))
  (.reg 0 [⟨(some 61), .bin .add (.t 49) (.c (.v (.int .i64 1))), none⟩,
      ⟨(some 49), .mv (.t 61), none⟩])))
def A51M2 : List Bool := [false, true, true, true, false, false, true, false, false, false, false, false, false, false, false, false, false, false, false, false, false, false, false, false, false, false, false, false, false, false, false, false, false, false, false, false, false, true, true, true, false, false, false, false, false, false, false, false, false, false, false, false, false, false, false, false, false, false, false, false, false, false, false, false, false, false, false, false, false, false, false, false, false]
def A51L2 : AC :=
  .seq (.reg 0 [⟨(some 40), .bin .lss (.t 39) (.t 38), none⟩])
  (.seq (.cond (.t 40)
    (.skip)
    (.exit 2))
  (.seq (.block 3
    (.seq (.reg 1 [⟨(some 41), .mv (.t 39), none⟩,
        ⟨(some 42), .ia 3 (.t 37) (.t 39), none⟩,
        ⟨(some 43), .load 3 true (.t 42), none⟩,
        ⟨(some 8), .alloc 0 [(.v (.int .i64 0)), (.v (.int .i64 0)), .nils], none⟩,
        ⟨(some 7), .mv (.t 41), none⟩,
        ⟨none, .store 3 (.t 8) (.t 43), none⟩])
    (.seq (.reg 0 [⟨(some 44), .fa 2 (.t 8), none⟩,
        ⟨(some 45), .load 1 false (.t 44), none⟩,
        ⟨(some 46), .call 1 93 [(.t 45)], none⟩,
        ⟨(some 9), .mv (.t 46), none⟩])
    (.seq (.seq (.reg 0 [⟨(some 47), .mv (.t 9), none⟩,
        ⟨(some 48), .len false (.t 47), none⟩,
        ⟨(some 49), .mv (.c (.v (.int .i64 0))), none⟩])
    (.block 4
      (.loop A51M1 A51L1)))
    (.reg 0 [⟨(some 62), .mv (.t 6), none⟩,
        ⟨(some 63), .mv (.t 7), none⟩,
        ⟨(some 64), .mv (.t 9), none⟩,
        ⟨(some 65), .ia 3 (.t 62) (.t 63), none⟩,
        ⟨(some 66), .fa 2 (.t 65), none⟩,
        ⟨none, .store 1 (.t 66) (.t 64), none⟩])))))
  (.reg 0 [⟨(some 67), .bin .add (.t 39) (.c (.v (.int .i64 1))), none⟩,
      ⟨(some 39), .mv (.t 67), none⟩])))
def A51 : AFn := ⟨73, [.cell 2 7 true],
  .seq (.reg 2 [⟨(some 1), .box 0 (.t 0), none⟩,
      ⟨(some 2), .alloc 1 [.nils, .nils, (.v (.int .i64 0)), (.v (.int .i64 0)), (.v (.int .i64 0)), (.v (.int .i64 0)), .nils], none⟩])
  (.seq (.reg 0 [⟨(some 12), .fa 0 (.t 1), none⟩,
      ⟨(some 13), .load 1 false (.t 12), none⟩,
      ⟨(some 14), .call 1 42 [(.t 13)], none⟩,
      ⟨(some 15), .fa 0 (.t 1), none⟩,
      ⟨none, .store 1 (.t 15) (.t 14), none⟩])
  (.seq (.reg 0 [⟨(some 16), .fa 1 (.t 1), none⟩,
      ⟨(some 17), .load 1 false (.t 16), none⟩,
      ⟨(some 18), .call 1 91 [(.t 17)], none⟩,
      ⟨(some 3), .mv (.t 18), none⟩])
  (.seq (.seq (.reg 0 [⟨(some 19), .mv (.t 3), none⟩,
      ⟨(some 20), .len false (.t 19), none⟩,
      ⟨(some 21), .mv (.c (.v (.int .i64 0))), none⟩])
  (.block 0
    (.loop A51M0 A51L0)))
  (.seq (.reg 0 [⟨(some 34), .fa 6 (.t 1), none⟩,
      ⟨(some 35), .load 1 false (.t 34), none⟩,
      ⟨(some 36), .call 1 92 [(.t 35)], none⟩,
      ⟨(some 6), .mv (.t 36), none⟩])
  (.seq (.seq (.reg 0 [⟨(some 37), .mv (.t 6), none⟩,
      ⟨(some 38), .len false (.t 37), none⟩,
      ⟨(some 39), .mv (.c (.v (.int .i64 0))), none⟩])
  (.block 2
    (.loop A51M2 A51L2)))
  (.seq (.reg 0 [⟨(some 68), .mv (.t 3), none⟩,
      ⟨(some 69), .mv (.t 6), none⟩,
      ⟨(some 70), .fa 1 (.t 1), none⟩,
      ⟨none, .store 1 (.t 70) (.t 68), none⟩,
      ⟨(some 71), .fa 6 (.t 1), none⟩,
      ⟨none, .store 1 (.t 71) (.t 69), none⟩])
  (.seq (.reg 0 [⟨(some 72), .load 7 true (.t 1), none⟩,
      ⟨none, .store 7 (.t 2) (.t 72), none⟩])
  (.ret))))))))⟩
/-- Live: [1, 2, 3, 19, 20, 21] -/
abbrev A51H0 (t1 t2 t3 t19 t20 t21 : AV) : List AV := [.top, t1, t2, t3, .top, .top, .top, .top, .top, .top, .top, .top, .top, .top, .top, .top, .top, .top, .top, t19, t20, t21, .top, .top, .top, .top, .top, .top, .top, .top, .top, .top, .top, .top, .top, .top, .top, .top, .top, .top, .top, .top, .top, .top, .top, .top, .top, .top, .top, .top, .top, .top, .top, .top, .top, .top, .top, .top, .top, .top, .top, .top, .top, .top, .top, .top, .top, .top, .top, .top, .top, .top, .top]
theorem A51M0_eq (t0 t1 t2 t3 t4 t5 t6 t7 t8 t9 t10 t11 t12 t13 t14 t15 t16 t17 t18 t19 t20 t21 t22 t23 t24 t25 t26 t27 t28 t29 t30 t31 t32 t33 t34 t35 t36 t37 t38 t39 t40 t41 t42 t43 t44 t45 t46 t47 t48 t49 t50 t51 t52 t53 t54 t55 t56 t57 t58 t59 t60 t61 t62 t63 t64 t65 t66 t67 t68 t69 t70 t71 t72 : AV) : mask A51M0 [t0, t1, t2, t3, t4, t5, t6, t7, t8, t9, t10, t11, t12, t13, t14, t15, t16, t17, t18, t19, t20, t21, t22, t23, t24, t25, t26, t27, t28, t29, t30, t31, t32, t33, t34, t35, t36, t37, t38, t39, t40, t41, t42, t43, t44, t45, t46, t47, t48, t49, t50, t51, t52, t53, t54, t55, t56, t57, t58, t59, t60, t61, t62, t63, t64, t65, t66, t67, t68, t69, t70, t71, t72] = [.top, t1, t2, t3, .top, .top, .top, .top, .top, .top, .top, .top, .top, .top, .top, .top, .top, .top, .top, t19, t20, t21, .top, .top, .top, .top, .top, .top, .top, .top, .top, .top, .top, .top, .top, .top, .top, .top, .top, .top, .top, .top, .top, .top, .top, .top, .top, .top, .top, .top, .top, .top, .top, .top, .top, .top, .top, .top, .top, .top, .top, .top, .top, .top, .top, .top, .top, .top, .top, .top, .top, .top, .top] := rfl
/-- Live: [1, 2, 3, 6, 7, 9, 37, 38, 39, 47, 48, 49] -/
abbrev A51H1 (t1 t2 t3 t6 t7 t9 t37 t38 t39 t47 t48 t49 : AV) : List AV := [.top, t1, t2, t3, .top, .top, t6, t7, .top, t9, .top, .top, .top, .top, .top, .top, .top, .top, .top, .top, .top, .top, .top, .top, .top, .top, .top, .top, .top, .top, .top, .top, .top, .top, .top, .top, .top, t37, t38, t39, .top, .top, .top, .top, .top, .top, .top, t47, t48, t49, .top, .top, .top, .top, .top, .top, .top, .top, .top, .top, .top, .top, .top, .top, .top, .top, .top, .top, .top, .top, .top, .top, .top]
theorem A51M1_eq (t0 t1 t2 t3 t4 t5 t6 t7 t8 t9 t10 t11 t12 t13 t14 t15 t16 t17 t18 t19 t20 t21 t22 t23 t24 t25 t26 t27 t28 t29 t30 t31 t32 t33 t34 t35 t36 t37 t38 t39 t40 t41 t42 t43 t44 t45 t46 t47 t48 t49 t50 t51 t52 t53 t54 t55 t56 t57 t58 t59 t60 t61 t62 t63 t64 t65 t66 t67 t68 t69 t70 t71 t72 : AV) : mask A51M1 [t0, t1, t2, t3, t4, t5, t6, t7, t8, t9, t10, t11, t12, t13, t14, t15, t16, t17, t18, t19, t20, t21, t22, t23, t24, t25, t26, t27, t28, t29, t30, t31, t32, t33, t34, t35, t36, t37, t38, t39, t40, t41, t42, t43, t44, t45, t46, t47, t48, t49, t50, t51, t52, t53, t54, t55, t56, t57, t58, t59, t60, t61, t62, t63, t64, t65, t66, t67, t68, t69, t70, t71, t72] = [.top, t1, t2, t3, .top, .top, t6, t7, .top, t9, .top, .top, .top, .top, .top, .top, .top, .top, .top, .top, .top, .top, .top, .top, .top, .top, .top, .top, .top, .top, .top, .top, .top, .top, .top, .top, .top, t37, t38, t39, .top, .top, .top, .top, .top, .top, .top, t47, t48, t49, .top, .top, .top, .top, .top, .top, .top, .top, .top, .top, .top, .top, .top, .top, .top, .top, .top, .top, .top, .top, .top, .top, .top] := rfl
/-- Live: [1, 2, 3, 6, 37, 38, 39] -/
abbrev A51H2 (t1 t2 t3 t6 t37 t38 t39 : AV) : List AV := [.top, t1, t2, t3, .top, .top, t6, .top, .top, .top, .top, .top, .top, .top, .top, .top, .top, .top, .top, .top, .top, .top, .top, .top, .top, .top, .top, .top, .top, .top, .top, .top, .top, .top, .top, .top, .top, t37, t38, t39, .top, .top, .top, .top, .top, .top, .top, .top, .top, .top, .top, .top, .top, .top, .top, .top, .top, .top, .top, .top, .top, .top, .top, .top, .top, .top, .top, .top, .top, .top, .top, .top, .top]
theorem A51M2_eq (t0 t1 t2 t3 t4 t5 t6 t7 t8 t9 t10 t11 t12 t13 t14 t15 t16 t17 t18 t19 t20 t21 t22 t23 t24 t25 t26 t27 t28 t29 t30 t31 t32 t33 t34 t35 t36 t37 t38 t39 t40 t41 t42 t43 t44 t45 t46 t47 t48 t49 t50 t51 t52 t53 t54 t55 t56 t57 t58 t59 t60 t61 t62 t63 t64 t65 t66 t67 t68 t69 t70 t71 t72 : AV) : mask A51M2 [t0, t1, t2, t3, t4, t5, t6, t7, t8, t9, t10, t11, t12, t13, t14, t15, t16, t17, t18, t19, t20, t21, t22, t23, t24, t25, t26, t27, t28, t29, t30, t31, t32, t33, t34, t35, t36, t37, t38, t39, t40, t41, t42, t43, t44, t45, t46, t47, t48, t49, t50, t51, t52, t53, t54, t55, t56, t57, t58, t59, t60, t61, t62, t63, t64, t65, t66, t67, t68, t69, t70, t71, t72] = [.top, t1, t2, t3, .top, .top, t6, .top, .top, .top, .top, .top, .top, .top, .top, .top, .top, .top, .top, .top, .top, .top, .top, .top, .top, .top, .top, .top, .top, .top, .top, .top, .top, .top, .top, .top, .top, t37, t38, t39, .top, .top, .top, .top, .top, .top, .top, .top, .top, .top, .top, .top, .top, .top, .top, .top, .top, .top, .top, .top, .top, .top, .top, .top, .top, .top, .top, .top, .top, .top, .top, .top, .top] := rfl
theorem A51_is : compFn Try.prog md Try.f51 = some { A51 with code := A51.code.erase } := by kernel_rfl

/-- peristyle/store.found -/
def A52 : AFn := ⟨19, [.tmp 4, .tmp 5],
  .seq (.reg 1 [⟨(some 2), .box 0 (.t 0), none⟩,
      ⟨(some 4), .mv (.c (.v (.int .i64 0))), none⟩,
      ⟨(some 5), .mv (.c (.v (.int .i64 0))), none⟩])
  (.seq (.seq (.reg 0 [⟨(some 8), .load 7 true (.t 2), none⟩,
      ⟨(some 9), .call 0 11 [(.t 8)], none⟩,
      ⟨(some 6), .mv (.t 9), none⟩])
  (.seq (.reg 0 [⟨(some 10), .mv (.t 6), none⟩,
      ⟨(some 11), .bin .neq (.t 10) (.c (.v (.int .i64 0))), none⟩])
  (.cond (.t 11)
    (.seq (.reg 0 [⟨(some 12), .mv (.t 6), none⟩,
        ⟨(some 4), .mv (.c (.v (.int .i64 0))), none⟩,
        ⟨(some 5), .mv (.t 12), none⟩])
    (.ret))
    (.skip))))
  (.seq (.reg 0 [⟨(some 13), .load 7 true (.t 2), none⟩,
      ⟨(some 14), .mv (.t 1), none⟩,
      ⟨(some 15), .call 0 94 [(.t 13), (.t 14)], none⟩,
      ⟨(some 7), .mv (.t 15), none⟩])
  (.seq (.seq (.reg 0 [⟨(some 16), .mv (.t 7), none⟩,
      ⟨(some 17), .bin .lss (.t 16) (.c (.v (.int .i64 0))), none⟩])
  (.cond (.t 17)
    (.seq (.reg 0 [⟨(some 4), .mv (.c (.v (.int .i64 0))), none⟩,
        ⟨(some 5), .mv (.c (.v (.int .i64 6))), none⟩])
    (.ret))
    (.skip)))
  (.seq (.reg 0 [⟨(some 18), .mv (.t 7), none⟩,
      ⟨(some 4), .mv (.t 18), none⟩,
      ⟨(some 5), .mv (.c (.v (.int .i64 0))), none⟩])
  (.ret)))))⟩
theorem A52_is : compFn Try.prog md Try.f52 = some { A52 with code := A52.code.erase } := by kernel_rfl

/-- slices.Delete[[]peristyle/api.Trans,peristyle/api.Trans] -/
def A53 : AFn := ⟨33, [.tmp 6],
  .seq (.reg 0 [⟨(some 6), .mv (.c .nils), none⟩])
  (.seq (.reg 0 [⟨(some 8), .mv (.t 0), none⟩,
      ⟨(some 9), .mv (.t 1), none⟩,
      ⟨(some 10), .mv (.t 2), none⟩,
      ⟨(some 11), .mv (.t 0), none⟩,
      ⟨(some 12), .len false (.t 11), none⟩,
      ⟨(some 13), .sl3 3 (.t 8) (.t 9) (.t 10) (.t 12), none⟩])
  (.seq (.seq (.reg 0 [⟨(some 14), .mv (.t 1), none⟩,
      ⟨(some 15), .mv (.t 2), none⟩,
      ⟨(some 16), .bin .eql (.t 14) (.t 15), none⟩])
  (.cond (.t 16)
    (.seq (.reg 0 [⟨(some 17), .mv (.t 0), none⟩,
        ⟨(some 6), .mv (.t 17), none⟩])
    (.ret))
    (.skip)))
  (.seq (.reg 0 [⟨(some 18), .mv (.t 0), none⟩,
      ⟨(some 19), .len false (.t 18), none⟩,
      ⟨(some 7), .mv (.t 19), none⟩])
  (.seq (.dreg 0 [⟨(some 20), .mv (.t 0), none⟩,
      ⟨(some 21), .mv (.t 1), none⟩,
      ⟨(some 22), .sl 3 (.t 20) none (some (.t 21)), none⟩,
      ⟨(some 23), .mv (.t 0), none⟩,
      ⟨(some 24), .mv (.t 2), none⟩,
      ⟨(some 25), .sl 3 (.t 23) (some (.t 24)) none, none⟩,
      ⟨(some 26), .app 3 40 (.t 22) (.t 25), none⟩,
      ⟨(some 0), .mv (.t 26), none⟩] [(2, 5)])
  (.seq (.reg 0 [⟨(some 27), .mv (.t 0), none⟩,
      ⟨(some 28), .mv (.t 0), none⟩,
      ⟨(some 29), .len false (.t 28), none⟩,
      ⟨(some 30), .mv (.t 7), none⟩,
      ⟨(some 31), .sl 3 (.t 27) (some (.t 29)) (some (.t 30)), none⟩,
      ⟨none, .clr 3 [(.v (.int .i64 0)), (.v (.int .i64 0)), .nils] (.t 31), none⟩])
  (.seq (.reg 0 [⟨(some 32), .mv (.t 0), none⟩,
      ⟨(some 6), .mv (.t 32), none⟩])
  (.ret)))))))⟩
theorem A53_is : compFn Try.prog md Try.f53 = some { A53 with code := A53.code.erase } := by kernel_rfl

/-- peristyle/peristyleref11.transOf -/
def A54M0 : List Bool := [false, true, true, false, false, true, false, false, false, false, false, false, false, false, false, false, false, false, false, false, false, false]
def A54L0 : AC :=
  .seq (.seq (.reg 0 [⟨(some 6), .mv (.t 5), none⟩,
      ⟨(some 7), .fa 6 (.t 2), none⟩,
      ⟨(some 8), .load 1 false (.t 7), none⟩,
      ⟨(some 9), .len false (.t 8), none⟩,
      ⟨(some 10), .bin .lss (.t 6) (.t 9), none⟩])
  (.cond (.t 10)
    (.skip)
    (.exit 0)))
  (.seq (.block 1
    (.seq (.reg 0 [⟨(some 13), .fa 6 (.t 2), none⟩,
        ⟨(some 14), .load 1 false (.t 13), none⟩,
        ⟨(some 15), .mv (.t 5), none⟩,
        ⟨(some 16), .ia 3 (.t 14) (.t 15), none⟩,
        ⟨(some 17), .fa 0 (.t 16), none⟩,
        ⟨(some 18), .load 1 false (.t 17), none⟩,
        ⟨(some 19), .mv (.t 1), none⟩,
        ⟨(some 20), .bin .eql (.t 18) (.t 19), none⟩])
    (.cond (.t 20)
      (.seq (.reg 0 [⟨(some 21), .mv (.t 5), none⟩,
          ⟨(some 4), .mv (.t 21), none⟩])
      (.ret))
      (.skip))))
  (.reg 0 [⟨(some 11), .mv (.t 5), none⟩,
      ⟨(some 12), .bin .add (.t 11) (.c (.v (.int .i64 1))), none⟩,
      ⟨(some 5), .mv (.t 12), none⟩]))
def A54 : AFn := ⟨22, [.tmp 4],
  .seq (.reg 1 [⟨(some 2), .box 0 (.t 0), none⟩,
      ⟨(some 4), .mv (.c (.v (.int .i64 0))), none⟩])
  (.seq (.seq (.reg 0 [⟨(some 5), .mv (.c (.v (.int .i64 0))), none⟩])
  (.block 0
    (.loop A54M0 A54L0)))
  (.seq (.reg 0 [⟨(some 4), .mv (.c (.v (.int .i64 (-1)))), none⟩])
  (.ret)))⟩
/-- Live: [1, 2, 5] -/
abbrev A54H0 (t1 t2 t5 : AV) : List AV := [.top, t1, t2, .top, .top, t5, .top, .top, .top, .top, .top, .top, .top, .top, .top, .top, .top, .top, .top, .top, .top, .top]
theorem A54M0_eq (t0 t1 t2 t3 t4 t5 t6 t7 t8 t9 t10 t11 t12 t13 t14 t15 t16 t17 t18 t19 t20 t21 : AV) : mask A54M0 [t0, t1, t2, t3, t4, t5, t6, t7, t8, t9, t10, t11, t12, t13, t14, t15, t16, t17, t18, t19, t20, t21] = [.top, t1, t2, .top, .top, t5, .top, .top, .top, .top, .top, .top, .top, .top, .top, .top, .top, .top, .top, .top, .top, .top] := rfl
theorem A54_is : compFn Try.prog md Try.f54 = some { A54 with code := A54.code.erase } := by kernel_rfl

/-- peristyle/peristyleref11.without -/
def A55 : AFn := ⟨21, [.cell 4 7 true],
  .seq (.reg 2 [⟨(some 2), .box 0 (.t 0), none⟩,
      ⟨(some 4), .alloc 1 [.nils, .nils, (.v (.int .i64 0)), (.v (.int .i64 0)), (.v (.int .i64 0)), (.v (.int .i64 0)), .nils], none⟩])
  (.seq (.reg 0 [⟨(some 5), .mv (.c .nils), none⟩])
  (.seq (.reg 0 [⟨(some 6), .mv (.t 5), none⟩,
      ⟨(some 7), .fa 6 (.t 2), none⟩,
      ⟨(some 8), .load 1 false (.t 7), none⟩,
      ⟨(some 9), .mv (.t 1), none⟩,
      ⟨(some 10), .sl 3 (.t 8) none (some (.t 9)), none⟩,
      ⟨(some 11), .app 3 40 (.t 6) (.t 10), none⟩,
      ⟨(some 5), .mv (.t 11), none⟩])
  (.seq (.reg 0 [⟨(some 12), .mv (.t 5), none⟩,
      ⟨(some 13), .fa 6 (.t 2), none⟩,
      ⟨(some 14), .load 1 false (.t 13), none⟩,
      ⟨(some 15), .mv (.t 1), none⟩,
      ⟨(some 16), .bin .add (.t 15) (.c (.v (.int .i64 1))), none⟩,
      ⟨(some 17), .sl 3 (.t 14) (some (.t 16)) none, none⟩,
      ⟨(some 18), .app 3 40 (.t 12) (.t 17), none⟩,
      ⟨(some 19), .fa 6 (.t 2), none⟩,
      ⟨none, .store 1 (.t 19) (.t 18), none⟩])
  (.seq (.reg 0 [⟨(some 20), .load 7 true (.t 2), none⟩,
      ⟨none, .store 7 (.t 4) (.t 20), none⟩])
  (.ret)))))⟩
theorem A55_is : compFn Try.prog md Try.f55 = some { A55 with code := A55.code.erase } := by kernel_rfl

/-- peristyle/store.row -/
def A56 : AFn := ⟨9, [.tmp 4],
  .seq (.reg 0 [⟨(some 4), .mv (.c (.v (.int .i64 0))), none⟩])
  (.seq (.reg 0 [⟨(some 5), .mv (.t 0), none⟩,
      ⟨(some 6), .mv (.t 1), none⟩,
      ⟨(some 7), .build [.nils] [(0, 1, (.t 6))], none⟩,
      ⟨(some 8), .call 0 95 [(.t 5), (.t 7)], none⟩,
      ⟨(some 4), .mv (.t 8), none⟩])
  (.ret))⟩
theorem A56_is : compFn Try.prog md Try.f56 = some { A56 with code := A56.code.erase } := by kernel_rfl

/-- peristyle/kit.Clone -/
def A57 : AFn := ⟨5, [.tmp 2],
  .seq (.reg 0 [⟨(some 2), .mv (.c .nils), none⟩])
  (.seq (.reg 0 [⟨(some 3), .mv (.t 0), none⟩,
      ⟨(some 4), .app 3 32 (.c .nils) (.t 3), none⟩,
      ⟨(some 2), .mv (.t 4), none⟩])
  (.ret))⟩
theorem A57_is : compFn Try.prog md Try.f57 = some { A57 with code := A57.code.erase } := by kernel_rfl

/-- peristyle/peristyleref11.checkValues -/
def A58 : AFn := ⟨9, [.tmp 4],
  .seq (.reg 0 [⟨(some 4), .mv (.c (.v (.int .i64 0))), none⟩])
  (.seq (.reg 0 [⟨(some 5), .mv (.t 0), none⟩,
      ⟨(some 6), .mv (.t 1), none⟩,
      ⟨(some 7), .build [.nils] [(0, 1, (.t 6))], none⟩,
      ⟨(some 8), .call 0 96 [(.t 5), (.t 7)], none⟩,
      ⟨(some 4), .mv (.t 8), none⟩])
  (.ret))⟩
theorem A58_is : compFn Try.prog md Try.f58 = some { A58 with code := A58.code.erase } := by kernel_rfl

/-- peristyle/peristyleref11.wrote -/
def A59 : AFn := ⟨31, [.cell 6 7 true],
  .seq (.reg 3 [⟨(some 3), .box 0 (.t 0), none⟩,
      ⟨(some 5), .box 1 (.t 2), none⟩,
      ⟨(some 6), .alloc 2 [.nils, .nils, (.v (.int .i64 0)), (.v (.int .i64 0)), (.v (.int .i64 0)), (.v (.int .i64 0)), .nils], none⟩])
  (.seq (.reg 0 [⟨(some 7), .mv (.c .nils), none⟩])
  (.seq (.reg 0 [⟨(some 9), .mv (.t 7), none⟩,
      ⟨(some 10), .fa 6 (.t 3), none⟩,
      ⟨(some 11), .load 1 false (.t 10), none⟩,
      ⟨(some 12), .app 3 40 (.t 9) (.t 11), none⟩,
      ⟨(some 7), .mv (.t 12), none⟩])
  (.seq (.reg 0 [⟨(some 8), .mv (.c .nils), none⟩])
  (.seq (.reg 0 [⟨(some 13), .mv (.t 8), none⟩,
      ⟨(some 14), .mv (.t 7), none⟩,
      ⟨(some 15), .mv (.t 1), none⟩,
      ⟨(some 16), .ia 3 (.t 14) (.t 15), none⟩,
      ⟨(some 17), .fa 2 (.t 16), none⟩,
      ⟨(some 18), .load 1 false (.t 17), none⟩,
      ⟨(some 19), .app 3 40 (.t 13) (.t 18), none⟩,
      ⟨(some 8), .mv (.t 19), none⟩])
  (.seq (.reg 0 [⟨(some 20), .mv (.t 7), none⟩,
      ⟨(some 21), .mv (.t 1), none⟩,
      ⟨(some 22), .mv (.t 8), none⟩,
      ⟨(some 23), .load 3 true (.t 5), none⟩,
      ⟨(some 24), .bsl 3 1 [(.v (.int .i64 0)), (.v (.int .i64 0)), .nils] [(0, (.t 23))], none⟩,
      ⟨(some 25), .app 3 40 (.t 22) (.t 24), none⟩,
      ⟨(some 26), .ia 3 (.t 20) (.t 21), none⟩,
      ⟨(some 27), .fa 2 (.t 26), none⟩,
      ⟨none, .store 1 (.t 27) (.t 25), none⟩])
  (.seq (.reg 0 [⟨(some 28), .mv (.t 7), none⟩,
      ⟨(some 29), .fa 6 (.t 3), none⟩,
      ⟨none, .store 1 (.t 29) (.t 28), none⟩])
  (.seq (.reg 0 [⟨(some 30), .load 7 true (.t 3), none⟩,
      ⟨none, .store 7 (.t 6) (.t 30), none⟩])
  (.ret))))))))⟩
theorem A59_is : compFn Try.prog md Try.f59 = some { A59 with code := A59.code.erase } := by kernel_rfl

/-- peristyle/store.write -/
def A60 : AFn := ⟨46, [.cell 6 7 true, .tmp 7],
  .seq (.reg 3 [⟨(some 3), .box 0 (.t 0), none⟩,
      ⟨(some 5), .box 1 (.t 2), none⟩,
      ⟨(some 6), .alloc 2 [.nils, .nils, (.v (.int .i64 0)), (.v (.int .i64 0)), (.v (.int .i64 0)), (.v (.int .i64 0)), .nils], none⟩,
      ⟨(some 7), .mv (.c (.v (.int .i64 0))), none⟩])
  (.seq (.seq (.dreg 0 [⟨(some 8), .load 7 true (.t 3), none⟩,
      ⟨(some 9), .fa 6 (.t 3), none⟩,
      ⟨(some 10), .load 1 false (.t 9), none⟩,
      ⟨(some 11), .mv (.t 1), none⟩,
      ⟨(some 12), .ia 3 (.t 10) (.t 11), none⟩,
      ⟨(some 13), .load 3 true (.t 12), none⟩,
      ⟨(some 14), .call 0 70 [(.t 8), (.t 13)], none⟩,
      ⟨(some 15), .fa 1 (.t 5), none⟩,
      ⟨(some 16), .load 1 false (.t 15), none⟩,
      ⟨(some 17), .call 0 97 [(.t 14), (.t 16)], none⟩,
      ⟨(some 18), .bin .lss (.t 17) (.c (.v (.int .i64 0))), none⟩] [(0, 2), (0, 4), (0, 5), (0, 8), (2, 8), (4, 8), (5, 8), (6, 8)])
  (.cond (.t 18)
    (.seq (.reg 0 [⟨(some 19), .build [.nils, .nils, (.v (.int .i64 0)), (.v (.int .i64 0)), (.v (.int .i64 0)), (.v (.int .i64 0)), .nils] [], none⟩,
        ⟨none, .store 7 (.t 6) (.t 19), none⟩,
        ⟨(some 7), .mv (.c (.v (.int .i64 6))), none⟩])
    (.ret))
    (.skip)))
  (.seq (.seq (.reg 0 [⟨(some 20), .fa 6 (.t 3), none⟩,
      ⟨(some 21), .load 1 false (.t 20), none⟩,
      ⟨(some 22), .mv (.t 1), none⟩,
      ⟨(some 23), .ia 3 (.t 21) (.t 22), none⟩,
      ⟨(some 24), .fa 2 (.t 23), none⟩,
      ⟨(some 25), .load 1 false (.t 24), none⟩,
      ⟨(some 26), .len false (.t 25), none⟩,
      ⟨(some 27), .bin .eql (.t 26) (.c (.v (.int .i64 200))), none⟩])
  (.cond (.t 27)
    (.seq (.reg 0 [⟨(some 28), .build [.nils, .nils, (.v (.int .i64 0)), (.v (.int .i64 0)), (.v (.int .i64 0)), (.v (.int .i64 0)), .nils] [], none⟩,
        ⟨none, .store 7 (.t 6) (.t 28), none⟩,
        ⟨(some 7), .mv (.c (.v (.int .i64 2))), none⟩])
    (.ret))
    (.skip)))
  (.seq (.reg 0 [⟨(some 29), .load 7 true (.t 3), none⟩,
      ⟨(some 30), .call 1 51 [(.t 29)], none⟩,
      ⟨none, .store 7 (.t 3) (.t 30), none⟩])
  (.seq (.dreg 0 [⟨(some 31), .fa 6 (.t 3), none⟩,
      ⟨(some 32), .load 1 false (.t 31), none⟩,
      ⟨(some 33), .mv (.t 1), none⟩,
      ⟨(some 34), .fa 6 (.t 3), none⟩,
      ⟨(some 35), .load 1 false (.t 34), none⟩,
      ⟨(some 36), .mv (.t 1), none⟩,
      ⟨(some 37), .ia 3 (.t 35) (.t 36), none⟩,
      ⟨(some 38), .fa 2 (.t 37), none⟩,
      ⟨(some 39), .load 1 false (.t 38), none⟩,
      ⟨(some 40), .load 3 true (.t 5), none⟩,
      ⟨(some 41), .bsl 3 1 [(.v (.int .i64 0)), (.v (.int .i64 0)), .nils] [(0, (.t 40))], none⟩,
      ⟨(some 42), .app 3 40 (.t 39) (.t 41), none⟩,
      ⟨(some 43), .ia 3 (.t 32) (.t 33), none⟩,
      ⟨(some 44), .fa 2 (.t 43), none⟩,
      ⟨none, .store 1 (.t 44) (.t 42), none⟩] [(1, 4), (1, 6), (1, 8), (1, 9), (4, 9), (6, 9), (8, 9), (1, 10), (4, 10), (6, 10), (8, 10), (1, 11)])
  (.seq (.reg 0 [⟨(some 45), .load 7 true (.t 3), none⟩,
      ⟨none, .store 7 (.t 6) (.t 45), none⟩,
      ⟨(some 7), .mv (.c (.v (.int .i64 0))), none⟩])
  (.ret))))))⟩
theorem A60_is : compFn Try.prog md Try.f60 = some { A60 with code := A60.code.erase } := by kernel_rfl

/-- peristyle/peristyleref11.change -/
def A61 : AFn := ⟨60, [.cell 6 7 true, .tmp 7],
  .seq (.reg 3 [⟨(some 3), .box 0 (.t 0), none⟩,
      ⟨(some 5), .box 1 (.t 2), none⟩,
      ⟨(some 6), .alloc 2 [.nils, .nils, (.v (.int .i64 0)), (.v (.int .i64 0)), (.v (.int .i64 0)), (.v (.int .i64 0)), .nils], none⟩,
      ⟨(some 7), .mv (.c (.v (.int .i64 0))), none⟩])
  (.seq (.seq (.reg 0 [⟨(some 11), .load 7 true (.t 3), none⟩,
      ⟨(some 12), .call 0 12 [(.t 11)], none⟩,
      ⟨(some 8), .mv (.t 12), none⟩])
  (.seq (.reg 0 [⟨(some 13), .mv (.t 8), none⟩,
      ⟨(some 14), .bin .neq (.t 13) (.c (.v (.int .i64 0))), none⟩])
  (.cond (.t 14)
    (.seq (.reg 0 [⟨(some 15), .build [.nils, .nils, (.v (.int .i64 0)), (.v (.int .i64 0)), (.v (.int .i64 0)), (.v (.int .i64 0)), .nils] [], none⟩,
        ⟨(some 16), .mv (.t 8), none⟩,
        ⟨none, .store 7 (.t 6) (.t 15), none⟩,
        ⟨(some 7), .mv (.t 16), none⟩])
    (.ret))
    (.skip))))
  (.seq (.reg 0 [⟨(some 17), .load 7 true (.t 3), none⟩,
      ⟨(some 18), .mv (.t 1), none⟩,
      ⟨(some 19), .call 0 54 [(.t 17), (.t 18)], none⟩,
      ⟨(some 9), .mv (.t 19), none⟩])
  (.seq (.seq (.reg 0 [⟨(some 20), .mv (.t 9), none⟩,
      ⟨(some 21), .bin .lss (.t 20) (.c (.v (.int .i64 0))), none⟩])
  (.cond (.t 21)
    (.seq (.reg 0 [⟨(some 22), .build [.nils, .nils, (.v (.int .i64 0)), (.v (.int .i64 0)), (.v (.int .i64 0)), (.v (.int .i64 0)), .nils] [], none⟩,
        ⟨none, .store 7 (.t 6) (.t 22), none⟩,
        ⟨(some 7), .mv (.c (.v (.int .i64 6))), none⟩])
    (.ret))
    (.skip)))
  (.seq (.seq (.reg 0 [⟨(some 23), .fa 0 (.t 5), none⟩,
      ⟨(some 24), .load 1 false (.t 23), none⟩,
      ⟨(some 25), .bin .eql (.t 24) (.c (.v (.int .i64 3))), none⟩])
  (.cond (.t 25)
    (.seq (.reg 0 [⟨(some 26), .fa 0 (.t 3), none⟩,
        ⟨(some 27), .load 1 false (.t 26), none⟩,
        ⟨(some 28), .fa 2 (.t 5), none⟩,
        ⟨(some 29), .load 1 false (.t 28), none⟩,
        ⟨(some 30), .call 0 58 [(.t 27), (.t 29)], none⟩,
        ⟨(some 10), .mv (.t 30), none⟩])
    (.seq (.reg 0 [⟨(some 31), .mv (.t 10), none⟩,
        ⟨(some 32), .bin .neq (.t 31) (.c (.v (.int .i64 0))), none⟩])
    (.cond (.t 32)
      (.seq (.reg 0 [⟨(some 33), .build [.nils, .nils, (.v (.int .i64 0)), (.v (.int .i64 0)), (.v (.int .i64 0)), (.v (.int .i64 0)), .nils] [], none⟩,
          ⟨(some 34), .mv (.t 10), none⟩,
          ⟨none, .store 7 (.t 6) (.t 33), none⟩,
          ⟨(some 7), .mv (.t 34), none⟩])
      (.ret))
      (.skip))))
    (.skip)))
  (.seq (.seq (.dreg 0 [⟨(some 35), .load 7 true (.t 3), none⟩,
      ⟨(some 36), .fa 6 (.t 3), none⟩,
      ⟨(some 37), .load 1 false (.t 36), none⟩,
      ⟨(some 38), .mv (.t 9), none⟩,
      ⟨(some 39), .ia 3 (.t 37) (.t 38), none⟩,
      ⟨(some 40), .load 3 true (.t 39), none⟩,
      ⟨(some 41), .call 0 99 [(.t 35), (.t 40)], none⟩,
      ⟨(some 42), .fa 1 (.t 5), none⟩,
      ⟨(some 43), .load 1 false (.t 42), none⟩,
      ⟨(some 44), .call 0 98 [(.t 41), (.t 43)], none⟩,
      ⟨(some 45), .bin .lss (.t 44) (.c (.v (.int .i64 0))), none⟩] [(0, 2), (0, 4), (0, 5), (0, 8), (2, 8), (4, 8), (5, 8), (6, 8)])
  (.cond (.t 45)
    (.seq (.reg 0 [⟨(some 46), .build [.nils, .nils, (.v (.int .i64 0)), (.v (.int .i64 0)), (.v (.int .i64 0)), (.v (.int .i64 0)), .nils] [], none⟩,
        ⟨none, .store 7 (.t 6) (.t 46), none⟩,
        ⟨(some 7), .mv (.c (.v (.int .i64 6))), none⟩])
    (.ret))
    (.skip)))
  (.seq (.seq (.reg 0 [⟨(some 47), .fa 6 (.t 3), none⟩,
      ⟨(some 48), .load 1 false (.t 47), none⟩,
      ⟨(some 49), .mv (.t 9), none⟩,
      ⟨(some 50), .ia 3 (.t 48) (.t 49), none⟩,
      ⟨(some 51), .fa 2 (.t 50), none⟩,
      ⟨(some 52), .load 1 false (.t 51), none⟩,
      ⟨(some 53), .len false (.t 52), none⟩,
      ⟨(some 54), .bin .eql (.t 53) (.c (.v (.int .i64 200))), none⟩])
  (.cond (.t 54)
    (.seq (.reg 0 [⟨(some 55), .build [.nils, .nils, (.v (.int .i64 0)), (.v (.int .i64 0)), (.v (.int .i64 0)), (.v (.int .i64 0)), .nils] [], none⟩,
        ⟨none, .store 7 (.t 6) (.t 55), none⟩,
        ⟨(some 7), .mv (.c (.v (.int .i64 2))), none⟩])
    (.ret))
    (.skip)))
  (.seq (.reg 0 [⟨(some 56), .load 7 true (.t 3), none⟩,
      ⟨(some 57), .mv (.t 9), none⟩,
      ⟨(some 58), .load 3 true (.t 5), none⟩,
      ⟨(some 59), .call 0 59 [(.t 56), (.t 57), (.t 58)], none⟩,
      ⟨none, .store 7 (.t 6) (.t 59), none⟩,
      ⟨(some 7), .mv (.c (.v (.int .i64 0))), none⟩])
  (.ret))))))))⟩
theorem A61_is : compFn Try.prog md Try.f61 = some { A61 with code := A61.code.erase } := by kernel_rfl

/-- peristyle/store.oldest -/
def A62M0 : List Bool := [false, false, false, true, false, false, false, false, false, true, true, true, false, false, false, false, false, false, false, false, false]
def A62L0 : AC :=
  .seq (.reg 0 [⟨(some 12), .bin .lss (.t 11) (.t 10), none⟩])
  (.seq (.cond (.t 12)
    (.skip)
    (.exit 0))
  (.seq (.block 1
    (.seq (.reg 1 [⟨(some 13), .ia 3 (.t 9) (.t 11), none⟩,
        ⟨(some 14), .load 3 true (.t 13), none⟩,
        ⟨(some 5), .alloc 0 [(.v (.int .i64 0)), (.v (.int .i64 0)), .nils], none⟩,
        ⟨none, .store 3 (.t 5) (.t 14), none⟩])
    (.reg 0 [⟨(some 15), .mv (.t 3), none⟩,
        ⟨(some 16), .fa 1 (.t 5), none⟩,
        ⟨(some 17), .load 1 false (.t 16), none⟩,
        ⟨(some 18), .mm false [(.t 15), (.t 17)], none⟩,
        ⟨(some 3), .mv (.t 18), none⟩])))
  (.reg 0 [⟨(some 19), .bin .add (.t 11) (.c (.v (.int .i64 1))), none⟩,
      ⟨(some 11), .mv (.t 19), none⟩])))
def A62 : AFn := ⟨21, [.tmp 2],
  .seq (.reg 1 [⟨(some 1), .box 0 (.t 0), none⟩,
      ⟨(some 2), .mv (.c (.v (.int .i64 0))), none⟩])
  (.seq (.reg 0 [⟨(some 6), .fa 2 (.t 1), none⟩,
      ⟨(some 7), .load 1 false (.t 6), none⟩,
      ⟨(some 3), .mv (.t 7), none⟩])
  (.seq (.seq (.reg 0 [⟨(some 8), .fa 6 (.t 1), none⟩,
      ⟨(some 9), .load 1 false (.t 8), none⟩,
      ⟨(some 10), .len false (.t 9), none⟩,
      ⟨(some 11), .mv (.c (.v (.int .i64 0))), none⟩])
  (.block 0
    (.loop A62M0 A62L0)))
  (.seq (.reg 0 [⟨(some 20), .mv (.t 3), none⟩,
      ⟨(some 2), .mv (.t 20), none⟩])
  (.ret))))⟩
/-- Live: [3, 9, 10, 11] -/
abbrev A62H0 (t3 t9 t10 t11 : AV) : List AV := [.top, .top, .top, t3, .top, .top, .top, .top, .top, t9, t10, t11, .top, .top, .top, .top, .top, .top, .top, .top, .top]
theorem A62M0_eq (t0 t1 t2 t3 t4 t5 t6 t7 t8 t9 t10 t11 t12 t13 t14 t15 t16 t17 t18 t19 t20 : AV) : mask A62M0 [t0, t1, t2, t3, t4, t5, t6, t7, t8, t9, t10, t11, t12, t13, t14, t15, t16, t17, t18, t19, t20] = [.top, .top, .top, t3, .top, .top, .top, .top, .top, t9, t10, t11, .top, .top, .top, .top, .top, .top, .top, .top, .top] := rfl
theorem A62_is : compFn Try.prog md Try.f62 = some { A62 with code := A62.code.erase } := by kernel_rfl

/-- peristyle/peristyleref11.oldest -/
def A63M0 : List Bool := [false, true, false, true, true, false, false, false, false, false, false, false, false, false, false, false, false, false, false, false, false, false, false]
def A63L0 : AC :=
  .seq (.seq (.reg 0 [⟨(some 7), .mv (.t 4), none⟩,
      ⟨(some 8), .fa 6 (.t 1), none⟩,
      ⟨(some 9), .load 1 false (.t 8), none⟩,
      ⟨(some 10), .len false (.t 9), none⟩,
      ⟨(some 11), .bin .lss (.t 7) (.t 10), none⟩])
  (.cond (.t 11)
    (.skip)
    (.exit 0)))
  (.seq (.block 1
    (.reg 0 [⟨(some 14), .mv (.t 3), none⟩,
        ⟨(some 15), .fa 6 (.t 1), none⟩,
        ⟨(some 16), .load 1 false (.t 15), none⟩,
        ⟨(some 17), .mv (.t 4), none⟩,
        ⟨(some 18), .ia 3 (.t 16) (.t 17), none⟩,
        ⟨(some 19), .fa 1 (.t 18), none⟩,
        ⟨(some 20), .load 1 false (.t 19), none⟩,
        ⟨(some 21), .mm false [(.t 14), (.t 20)], none⟩,
        ⟨(some 3), .mv (.t 21), none⟩]))
  (.reg 0 [⟨(some 12), .mv (.t 4), none⟩,
      ⟨(some 13), .bin .add (.t 12) (.c (.v (.int .i64 1))), none⟩,
      ⟨(some 4), .mv (.t 13), none⟩]))
def A63 : AFn := ⟨23, [.tmp 2],
  .seq (.reg 1 [⟨(some 1), .box 0 (.t 0), none⟩,
      ⟨(some 2), .mv (.c (.v (.int .i64 0))), none⟩])
  (.seq (.reg 0 [⟨(some 5), .fa 2 (.t 1), none⟩,
      ⟨(some 6), .load 1 false (.t 5), none⟩,
      ⟨(some 3), .mv (.t 6), none⟩])
  (.seq (.seq (.reg 0 [⟨(some 4), .mv (.c (.v (.int .i64 0))), none⟩])
  (.block 0
    (.loop A63M0 A63L0)))
  (.seq (.reg 0 [⟨(some 22), .mv (.t 3), none⟩,
      ⟨(some 2), .mv (.t 22), none⟩])
  (.ret))))⟩
/-- Live: [1, 3, 4] -/
abbrev A63H0 (t1 t3 t4 : AV) : List AV := [.top, t1, .top, t3, t4, .top, .top, .top, .top, .top, .top, .top, .top, .top, .top, .top, .top, .top, .top, .top, .top, .top, .top]
theorem A63M0_eq (t0 t1 t2 t3 t4 t5 t6 t7 t8 t9 t10 t11 t12 t13 t14 t15 t16 t17 t18 t19 t20 t21 t22 : AV) : mask A63M0 [t0, t1, t2, t3, t4, t5, t6, t7, t8, t9, t10, t11, t12, t13, t14, t15, t16, t17, t18, t19, t20, t21, t22] = [.top, t1, .top, t3, t4, .top, .top, .top, .top, .top, .top, .top, .top, .top, .top, .top, .top, .top, .top, .top, .top, .top, .top] := rfl
theorem A63_is : compFn Try.prog md Try.f63 = some { A63 with code := A63.code.erase } := by kernel_rfl

/-- slices.DeleteFunc[[]peristyle/api.Version,peristyle/api.Version] -/
def A64M0 : List Bool := [true, true, false, false, false, true, true, false, false, false, false, false, false, false, false, false, false, false, false, false, false, false, false, false, false, false, false, false, false, false, false, false, false, false, false, false, false, false, false, false, false, false]
def A64L0 : AC :=
  .seq (.seq (.reg 0 [⟨(some 16), .mv (.t 6), none⟩,
      ⟨(some 17), .mv (.t 0), none⟩,
      ⟨(some 18), .len false (.t 17), none⟩,
      ⟨(some 19), .bin .lss (.t 16) (.t 18), none⟩])
  (.cond (.t 19)
    (.skip)
    (.exit 0)))
  (.seq (.block 1
    (.seq (.reg 1 [⟨(some 22), .mv (.t 0), none⟩,
        ⟨(some 23), .mv (.t 6), none⟩,
        ⟨(some 24), .ia 4 (.t 22) (.t 23), none⟩,
        ⟨(some 25), .load 4 true (.t 24), none⟩,
        ⟨(some 7), .alloc 0 [(.v (.int .i64 0)), (.v (.int .i64 0)), (.v (.int .i64 0)), .nils], none⟩,
        ⟨none, .store 4 (.t 7) (.t 25), none⟩])
    (.seq (.reg 0 [⟨(some 26), .mv (.t 1), none⟩,
        ⟨(some 27), .load 4 true (.t 7), none⟩,
        ⟨(some 28), .callv (.t 26) [(.t 27)], none⟩,
        ⟨(some 29), .un .not (.t 28), none⟩])
    (.cond (.t 29)
      (.seq (.reg 0 [⟨(some 30), .mv (.t 0), none⟩,
          ⟨(some 31), .mv (.t 5), none⟩,
          ⟨(some 32), .load 4 true (.t 7), none⟩,
          ⟨(some 33), .ia 4 (.t 30) (.t 31), none⟩,
          ⟨none, .store 4 (.t 33) (.t 32), none⟩])
      (.reg 0 [⟨(some 34), .mv (.t 5), none⟩,
          ⟨(some 35), .bin .add (.t 34) (.c (.v (.int .i64 1))), none⟩,
          ⟨(some 5), .mv (.t 35), none⟩]))
      (.skip)))))
  (.reg 0 [⟨(some 20), .mv (.t 6), none⟩,
      ⟨(some 21), .bin .add (.t 20) (.c (.v (.int .i64 1))), none⟩,
      ⟨(some 6), .mv (.t 21), none⟩]))
def A64 : AFn := ⟨42, [.tmp 4],
  .seq (.reg 0 [⟨(some 4), .mv (.c .nils), none⟩])
  (.seq (.reg 0 [⟨(some 8), .mv (.t 0), none⟩,
      ⟨(some 9), .mv (.t 1), none⟩,
      ⟨(some 10), .call 2 100 [(.t 8), (.t 9)], none⟩,
      ⟨(some 5), .mv (.t 10), none⟩])
  (.seq (.seq (.reg 0 [⟨(some 11), .mv (.t 5), none⟩,
      ⟨(some 12), .bin .eql (.t 11) (.c (.v (.int .i64 (-1)))), none⟩])
  (.cond (.t 12)
    (.seq (.reg 0 [⟨(some 13), .mv (.t 0), none⟩,
        ⟨(some 4), .mv (.t 13), none⟩])
    (.ret))
    (.skip)))
  (.seq (.seq (.reg 0 [⟨(some 14), .mv (.t 5), none⟩,
      ⟨(some 15), .bin .add (.t 14) (.c (.v (.int .i64 1))), none⟩,
      ⟨(some 6), .mv (.t 15), none⟩])
  (.block 0
    (.loop A64M0 A64L0)))
  (.seq (.reg 0 [⟨(some 36), .mv (.t 0), none⟩,
      ⟨(some 37), .mv (.t 5), none⟩,
      ⟨(some 38), .sl 4 (.t 36) (some (.t 37)) none, none⟩,
      ⟨none, .clr 4 [(.v (.int .i64 0)), (.v (.int .i64 0)), (.v (.int .i64 0)), .nils] (.t 38), none⟩])
  (.seq (.reg 0 [⟨(some 39), .mv (.t 0), none⟩,
      ⟨(some 40), .mv (.t 5), none⟩,
      ⟨(some 41), .sl 4 (.t 39) none (some (.t 40)), none⟩,
      ⟨(some 4), .mv (.t 41), none⟩])
  (.ret))))))⟩
/-- Live: [0, 1, 5, 6] -/
abbrev A64H0 (t0 t1 t5 t6 : AV) : List AV := [t0, t1, .top, .top, .top, t5, t6, .top, .top, .top, .top, .top, .top, .top, .top, .top, .top, .top, .top, .top, .top, .top, .top, .top, .top, .top, .top, .top, .top, .top, .top, .top, .top, .top, .top, .top, .top, .top, .top, .top, .top, .top]
theorem A64M0_eq (t0 t1 t2 t3 t4 t5 t6 t7 t8 t9 t10 t11 t12 t13 t14 t15 t16 t17 t18 t19 t20 t21 t22 t23 t24 t25 t26 t27 t28 t29 t30 t31 t32 t33 t34 t35 t36 t37 t38 t39 t40 t41 : AV) : mask A64M0 [t0, t1, t2, t3, t4, t5, t6, t7, t8, t9, t10, t11, t12, t13, t14, t15, t16, t17, t18, t19, t20, t21, t22, t23, t24, t25, t26, t27, t28, t29, t30, t31, t32, t33, t34, t35, t36, t37, t38, t39, t40, t41] = [t0, t1, .top, .top, .top, t5, t6, .top, .top, .top, .top, .top, .top, .top, .top, .top, .top, .top, .top, .top, .top, .top, .top, .top, .top, .top, .top, .top, .top, .top, .top, .top, .top, .top, .top, .top, .top, .top, .top, .top, .top, .top] := rfl
theorem A64_is : compFn Try.prog md Try.f64 = some { A64 with code := A64.code.erase } := by kernel_rfl

/-- peristyle/store.Sweep$1 -/
def A65 : AFn := ⟨13, [.tmp 3],
  .seq (.reg 1 [⟨(some 2), .box 0 (.t 0), none⟩,
      ⟨(some 3), .mv (.c (.v (.bool false))), none⟩])
  (.seq (.reg 0 [⟨(some 4), .fa 2 (.t 2), none⟩,
      ⟨(some 5), .load 1 false (.t 4), none⟩,
      ⟨(some 6), .bin .neq (.t 5) (.c (.v (.int .i64 0))), none⟩,
      ⟨(some 7), .mv (.t 6), none⟩,
      ⟨(some 8), .fa 2 (.t 2), (some (7, true))⟩,
      ⟨(some 9), .load 1 false (.t 8), (some (7, true))⟩,
      ⟨(some 10), .load 1 false (.t 1), (some (7, true))⟩,
      ⟨(some 11), .bin .leq (.t 9) (.t 10), (some (7, true))⟩,
      ⟨(some 12), .pick (.t 7) (.t 11) (.c (.v (.bool false))), none⟩,
      ⟨(some 3), .mv (.t 12), none⟩])
  (.ret))⟩
theorem A65_is : compFn Try.prog md Try.f65 = some { A65 with code := A65.code.erase } := by kernel_rfl

/-- slices.Equal[[]peristyle/api.Column,peristyle/api.Column] -/
def A66M0 : List Bool := [true, true, false, false, false, false, false, false, false, false, false, false, true, true, false, false, false, false, false, false, false, false, false, false, false, false]
def A66L0 : AC :=
  .seq (.reg 0 [⟨(some 14), .bin .lss (.t 13) (.t 12), none⟩])
  (.seq (.cond (.t 14)
    (.skip)
    (.exit 0))
  (.seq (.block 1
    (.seq (.reg 0 [⟨(some 15), .mv (.t 13), none⟩,
        ⟨(some 5), .mv (.t 15), none⟩])
    (.seq (.dreg 0 [⟨(some 16), .mv (.t 0), none⟩,
        ⟨(some 17), .mv (.t 5), none⟩,
        ⟨(some 18), .ia 2 (.t 16) (.t 17), none⟩,
        ⟨(some 19), .load 2 true (.t 18), none⟩,
        ⟨(some 20), .mv (.t 1), none⟩,
        ⟨(some 21), .mv (.t 5), none⟩,
        ⟨(some 22), .ia 2 (.t 20) (.t 21), none⟩,
        ⟨(some 23), .load 2 true (.t 22), none⟩,
        ⟨(some 24), .eqs true [.s, .i] (.t 19) (.t 23), none⟩] [(2, 6), (3, 6), (2, 7), (3, 7)])
    (.cond (.t 24)
      (.seq (.reg 0 [⟨(some 4), .mv (.c (.v (.bool false))), none⟩])
      (.ret))
      (.skip)))))
  (.reg 0 [⟨(some 25), .bin .add (.t 13) (.c (.v (.int .i64 1))), none⟩,
      ⟨(some 13), .mv (.t 25), none⟩])))
def A66 : AFn := ⟨26, [.tmp 4],
  .seq (.reg 0 [⟨(some 4), .mv (.c (.v (.bool false))), none⟩])
  (.seq (.seq (.reg 0 [⟨(some 6), .mv (.t 0), none⟩,
      ⟨(some 7), .len false (.t 6), none⟩,
      ⟨(some 8), .mv (.t 1), none⟩,
      ⟨(some 9), .len false (.t 8), none⟩,
      ⟨(some 10), .bin .neq (.t 7) (.t 9), none⟩])
  (.cond (.t 10)
    (.seq (.reg 0 [⟨(some 4), .mv (.c (.v (.bool false))), none⟩])
    (.ret))
    (.skip)))
  (.seq (.seq (.reg 0 [⟨(some 11), .mv (.t 0), none⟩,
      ⟨(some 12), .len false (.t 11), none⟩,
      ⟨(some 13), .mv (.c (.v (.int .i64 0))), none⟩])
  (.block 0
    (.loop A66M0 A66L0)))
  (.seq (.reg 0 [⟨(some 4), .mv (.c (.v (.bool true))), none⟩])
  (.ret))))⟩
/-- Live: [0, 1, 12, 13] -/
abbrev A66H0 (t0 t1 t12 t13 : AV) : List AV := [t0, t1, .top, .top, .top, .top, .top, .top, .top, .top, .top, .top, t12, t13, .top, .top, .top, .top, .top, .top, .top, .top, .top, .top, .top, .top]
theorem A66M0_eq (t0 t1 t2 t3 t4 t5 t6 t7 t8 t9 t10 t11 t12 t13 t14 t15 t16 t17 t18 t19 t20 t21 t22 t23 t24 t25 : AV) : mask A66M0 [t0, t1, t2, t3, t4, t5, t6, t7, t8, t9, t10, t11, t12, t13, t14, t15, t16, t17, t18, t19, t20, t21, t22, t23, t24, t25] = [t0, t1, .top, .top, .top, .top, .top, .top, .top, .top, .top, .top, t12, t13, .top, .top, .top, .top, .top, .top, .top, .top, .top, .top, .top, .top] := rfl
theorem A66_is : compFn Try.prog md Try.f66 = some { A66 with code := A66.code.erase } := by kernel_rfl

/-- slices.EqualFunc[[]peristyle/api.Version,[]peristyle/api.Version,peristyle/api.Version,peristyle/api.Version] -/
def A67M0 : List Bool := [false, true, true, false, false, false, false, false, false, false, false, false, false, false, false, true, true, true, false, false, false, false, false, false, false, false, false, false, false, false, false, false]
def A67L0 : AC :=
  .seq (.reg 0 [⟨(some 18), .bin .lss (.t 17) (.t 16), none⟩])
  (.seq (.cond (.t 18)
    (.skip)
    (.exit 0))
  (.seq (.block 1
    (.seq (.reg 1 [⟨(some 19), .mv (.t 17), none⟩,
        ⟨(some 20), .ia 4 (.t 15) (.t 17), none⟩,
        ⟨(some 21), .load 4 true (.t 20), none⟩,
        ⟨(some 8), .alloc 0 [(.v (.int .i64 0)), (.v (.int .i64 0)), (.v (.int .i64 0)), .nils], none⟩,
        ⟨(some 7), .mv (.t 19), none⟩,
        ⟨none, .store 4 (.t 8) (.t 21), none⟩])
    (.seq (.reg 1 [⟨(some 22), .mv (.t 1), none⟩,
        ⟨(some 23), .mv (.t 7), none⟩,
        ⟨(some 24), .ia 4 (.t 22) (.t 23), none⟩,
        ⟨(some 25), .load 4 true (.t 24), none⟩,
        ⟨(some 9), .alloc 0 [(.v (.int .i64 0)), (.v (.int .i64 0)), (.v (.int .i64 0)), .nils], none⟩,
        ⟨none, .store 4 (.t 9) (.t 25), none⟩])
    (.seq (.reg 0 [⟨(some 26), .mv (.t 2), none⟩,
        ⟨(some 27), .load 4 true (.t 8), none⟩,
        ⟨(some 28), .load 4 true (.t 9), none⟩,
        ⟨(some 29), .callv (.t 26) [(.t 27), (.t 28)], none⟩,
        ⟨(some 30), .un .not (.t 29), none⟩])
    (.cond (.t 30)
      (.seq (.reg 0 [⟨(some 6), .mv (.c (.v (.bool false))), none⟩])
      (.ret))
      (.skip))))))
  (.reg 0 [⟨(some 31), .bin .add (.t 17) (.c (.v (.int .i64 1))), none⟩,
      ⟨(some 17), .mv (.t 31), none⟩])))
def A67 : AFn := ⟨32, [.tmp 6],
  .seq (.reg 0 [⟨(some 6), .mv (.c (.v (.bool false))), none⟩])
  (.seq (.seq (.reg 0 [⟨(some 10), .mv (.t 0), none⟩,
      ⟨(some 11), .len false (.t 10), none⟩,
      ⟨(some 12), .mv (.t 1), none⟩,
      ⟨(some 13), .len false (.t 12), none⟩,
      ⟨(some 14), .bin .neq (.t 11) (.t 13), none⟩])
  (.cond (.t 14)
    (.seq (.reg 0 [⟨(some 6), .mv (.c (.v (.bool false))), none⟩])
    (.ret))
    (.skip)))
  (.seq (.seq (.reg 0 [⟨(some 15), .mv (.t 0), none⟩,
      ⟨(some 16), .len false (.t 15), none⟩,
      ⟨(some 17), .mv (.c (.v (.int .i64 0))), none⟩])
  (.block 0
    (.loop A67M0 A67L0)))
  (.seq (.reg 0 [⟨(some 6), .mv (.c (.v (.bool true))), none⟩])
  (.ret))))⟩
/-- Live: [1, 2, 15, 16, 17] -/
abbrev A67H0 (t1 t2 t15 t16 t17 : AV) : List AV := [.top, t1, t2, .top, .top, .top, .top, .top, .top, .top, .top, .top, .top, .top, .top, t15, t16, t17, .top, .top, .top, .top, .top, .top, .top, .top, .top, .top, .top, .top, .top, .top]
theorem A67M0_eq (t0 t1 t2 t3 t4 t5 t6 t7 t8 t9 t10 t11 t12 t13 t14 t15 t16 t17 t18 t19 t20 t21 t22 t23 t24 t25 t26 t27 t28 t29 t30 t31 : AV) : mask A67M0 [t0, t1, t2, t3, t4, t5, t6, t7, t8, t9, t10, t11, t12, t13, t14, t15, t16, t17, t18, t19, t20, t21, t22, t23, t24, t25, t26, t27, t28, t29, t30, t31] = [.top, t1, t2, .top, .top, .top, .top, .top, .top, .top, .top, .top, .top, .top, .top, t15, t16, t17, .top, .top, .top, .top, .top, .top, .top, .top, .top, .top, .top, .top, .top, .top] := rfl
theorem A67_is : compFn Try.prog md Try.f67 = some { A67 with code := A67.code.erase } := by kernel_rfl

/-- peristyle/store.SameStore$1 -/
def A68 : AFn := ⟨31, [.tmp 4],
  .seq (.reg 2 [⟨(some 2), .box 0 (.t 0), none⟩,
      ⟨(some 3), .box 1 (.t 1), none⟩,
      ⟨(some 4), .mv (.c (.v (.bool false))), none⟩])
  (.seq (.reg 0 [⟨(some 5), .fa 0 (.t 2), none⟩,
      ⟨(some 6), .load 1 false (.t 5), none⟩,
      ⟨(some 7), .fa 0 (.t 3), none⟩,
      ⟨(some 8), .load 1 false (.t 7), none⟩,
      ⟨(some 9), .bin .eql (.t 6) (.t 8), none⟩,
      ⟨(some 10), .mv (.t 9), none⟩,
      ⟨(some 11), .fa 1 (.t 2), (some (10, true))⟩,
      ⟨(some 12), .load 1 false (.t 11), (some (10, true))⟩,
      ⟨(some 13), .fa 1 (.t 3), (some (10, true))⟩,
      ⟨(some 14), .load 1 false (.t 13), (some (10, true))⟩,
      ⟨(some 15), .bin .eql (.t 12) (.t 14), (some (10, true))⟩,
      ⟨(some 16), .pick (.t 10) (.t 15) (.c (.v (.bool false))), none⟩,
      ⟨(some 17), .mv (.t 16), none⟩,
      ⟨(some 18), .fa 2 (.t 2), (some (17, true))⟩,
      ⟨(some 19), .load 1 false (.t 18), (some (17, true))⟩,
      ⟨(some 20), .fa 2 (.t 3), (some (17, true))⟩,
      ⟨(some 21), .load 1 false (.t 20), (some (17, true))⟩,
      ⟨(some 22), .bin .eql (.t 19) (.t 21), (some (17, true))⟩,
      ⟨(some 23), .pick (.t 17) (.t 22) (.c (.v (.bool false))), none⟩,
      ⟨(some 24), .mv (.t 23), none⟩,
      ⟨(some 25), .fa 3 (.t 2), (some (24, true))⟩,
      ⟨(some 26), .load 1 false (.t 25), (some (24, true))⟩,
      ⟨(some 27), .fa 3 (.t 3), (some (24, true))⟩,
      ⟨(some 28), .load 1 false (.t 27), (some (24, true))⟩,
      ⟨(some 29), .call 0 69 [(.t 26), (.t 28)], (some (24, true))⟩,
      ⟨(some 30), .pick (.t 24) (.t 29) (.c (.v (.bool false))), none⟩,
      ⟨(some 4), .mv (.t 30), none⟩])
  (.ret))⟩
theorem A68_is : compFn Try.prog md Try.f68 = some { A68 with code := A68.code.erase } := by kernel_rfl

/-- slices.Equal[[]peristyle/api.Value,peristyle/api.Value] -/
def A69M0 : List Bool := [true, true, false, false, false, false, false, false, false, false, false, false, true, true, false, false, false, false, false, false, false, false, false, false, false, false]
def A69L0 : AC :=
  .seq (.reg 0 [⟨(some 14), .bin .lss (.t 13) (.t 12), none⟩])
  (.seq (.cond (.t 14)
    (.skip)
    (.exit 0))
  (.seq (.block 1
    (.seq (.reg 0 [⟨(some 15), .mv (.t 13), none⟩,
        ⟨(some 5), .mv (.t 15), none⟩])
    (.seq (.dreg 0 [⟨(some 16), .mv (.t 0), none⟩,
        ⟨(some 17), .mv (.t 5), none⟩,
        ⟨(some 18), .ia 3 (.t 16) (.t 17), none⟩,
        ⟨(some 19), .load 3 true (.t 18), none⟩,
        ⟨(some 20), .mv (.t 1), none⟩,
        ⟨(some 21), .mv (.t 5), none⟩,
        ⟨(some 22), .ia 3 (.t 20) (.t 21), none⟩,
        ⟨(some 23), .load 3 true (.t 22), none⟩,
        ⟨(some 24), .eqs true [.i, .i, .s] (.t 19) (.t 23), none⟩] [(2, 6), (3, 6), (2, 7), (3, 7)])
    (.cond (.t 24)
      (.seq (.reg 0 [⟨(some 4), .mv (.c (.v (.bool false))), none⟩])
      (.ret))
      (.skip)))))
  (.reg 0 [⟨(some 25), .bin .add (.t 13) (.c (.v (.int .i64 1))), none⟩,
      ⟨(some 13), .mv (.t 25), none⟩])))
def A69 : AFn := ⟨26, [.tmp 4],
  .seq (.reg 0 [⟨(some 4), .mv (.c (.v (.bool false))), none⟩])
  (.seq (.seq (.reg 0 [⟨(some 6), .mv (.t 0), none⟩,
      ⟨(some 7), .len false (.t 6), none⟩,
      ⟨(some 8), .mv (.t 1), none⟩,
      ⟨(some 9), .len false (.t 8), none⟩,
      ⟨(some 10), .bin .neq (.t 7) (.t 9), none⟩])
  (.cond (.t 10)
    (.seq (.reg 0 [⟨(some 4), .mv (.c (.v (.bool false))), none⟩])
    (.ret))
    (.skip)))
  (.seq (.seq (.reg 0 [⟨(some 11), .mv (.t 0), none⟩,
      ⟨(some 12), .len false (.t 11), none⟩,
      ⟨(some 13), .mv (.c (.v (.int .i64 0))), none⟩])
  (.block 0
    (.loop A69M0 A69L0)))
  (.seq (.reg 0 [⟨(some 4), .mv (.c (.v (.bool true))), none⟩])
  (.ret))))⟩
/-- Live: [0, 1, 12, 13] -/
abbrev A69H0 (t0 t1 t12 t13 : AV) : List AV := [t0, t1, .top, .top, .top, .top, .top, .top, .top, .top, .top, .top, t12, t13, .top, .top, .top, .top, .top, .top, .top, .top, .top, .top, .top, .top]
theorem A69M0_eq (t0 t1 t2 t3 t4 t5 t6 t7 t8 t9 t10 t11 t12 t13 t14 t15 t16 t17 t18 t19 t20 t21 t22 t23 t24 t25 : AV) : mask A69M0 [t0, t1, t2, t3, t4, t5, t6, t7, t8, t9, t10, t11, t12, t13, t14, t15, t16, t17, t18, t19, t20, t21, t22, t23, t24, t25] = [t0, t1, .top, .top, .top, .top, .top, .top, .top, .top, .top, .top, t12, t13, .top, .top, .top, .top, .top, .top, .top, .top, .top, .top, .top, .top] := rfl
theorem A69_is : compFn Try.prog md Try.f69 = some { A69 with code := A69.code.erase } := by kernel_rfl

/-- peristyle/store.sees -/
def A70M0 : List Bool := [false, false, false, false, false, true, false, false, false, false, false, false, false, true, true, true, false, false, false, false, false, false, false, false]
def A70L0 : AC :=
  .seq (.reg 0 [⟨(some 16), .bin .lss (.t 15) (.t 14), none⟩])
  (.seq (.cond (.t 16)
    (.skip)
    (.exit 0))
  (.seq (.block 1
    (.seq (.reg 1 [⟨(some 17), .ia 3 (.t 13) (.t 15), none⟩,
        ⟨(some 18), .load 3 true (.t 17), none⟩,
        ⟨(some 7), .alloc 0 [(.v (.int .i64 0)), (.v (.int .i64 0)), .nils], none⟩,
        ⟨none, .store 3 (.t 7) (.t 18), none⟩])
    (.reg 0 [⟨(some 19), .mv (.t 5), none⟩,
        ⟨(some 20), .load 3 true (.t 7), none⟩,
        ⟨(some 21), .call 1 88 [(.t 19), (.t 20)], none⟩,
        ⟨(some 5), .mv (.t 21), none⟩])))
  (.reg 0 [⟨(some 22), .bin .add (.t 15) (.c (.v (.int .i64 1))), none⟩,
      ⟨(some 15), .mv (.t 22), none⟩])))
def A70 : AFn := ⟨24, [.tmp 4],
  .seq (.reg 2 [⟨(some 2), .box 0 (.t 0), none⟩,
      ⟨(some 3), .box 1 (.t 1), none⟩,
      ⟨(some 4), .mv (.c .nils), none⟩])
  (.seq (.reg 0 [⟨(some 8), .load 7 true (.t 2), none⟩,
      ⟨(some 9), .fa 1 (.t 3), none⟩,
      ⟨(some 10), .load 1 false (.t 9), none⟩,
      ⟨(some 11), .call 1 74 [(.t 8), (.t 10)], none⟩,
      ⟨(some 5), .mv (.t 11), none⟩])
  (.seq (.seq (.reg 0 [⟨(some 12), .fa 2 (.t 3), none⟩,
      ⟨(some 13), .load 1 false (.t 12), none⟩,
      ⟨(some 14), .len false (.t 13), none⟩,
      ⟨(some 15), .mv (.c (.v (.int .i64 0))), none⟩])
  (.block 0
    (.loop A70M0 A70L0)))
  (.seq (.reg 0 [⟨(some 23), .mv (.t 5), none⟩,
      ⟨(some 4), .mv (.t 23), none⟩])
  (.ret))))⟩
/-- Live: [5, 13, 14, 15] -/
abbrev A70H0 (t5 t13 t14 t15 : AV) : List AV := [.top, .top, .top, .top, .top, t5, .top, .top, .top, .top, .top, .top, .top, t13, t14, t15, .top, .top, .top, .top, .top, .top, .top, .top]
theorem A70M0_eq (t0 t1 t2 t3 t4 t5 t6 t7 t8 t9 t10 t11 t12 t13 t14 t15 t16 t17 t18 t19 t20 t21 t22 t23 : AV) : mask A70M0 [t0, t1, t2, t3, t4, t5, t6, t7, t8, t9, t10, t11, t12, t13, t14, t15, t16, t17, t18, t19, t20, t21, t22, t23] = [.top, .top, .top, .top, .top, t5, .top, .top, .top, .top, .top, .top, .top, t13, t14, t15, .top, .top, .top, .top, .top, .top, .top, .top] := rfl
theorem A70_is : compFn Try.prog md Try.f70 = some { A70 with code := A70.code.erase } := by kernel_rfl

/-- peristyle/store.table -/
def A71M0 : List Bool := [false, false, false, false, true, false, true, false, false, false, false, false, false, false, false, false, true, true, true, false, false, false, false, false, false, false, false, false, false, false, false, false, false]
def A71L0 : AC :=
  .seq (.reg 0 [⟨(some 19), .bin .lss (.t 18) (.t 17), none⟩])
  (.seq (.cond (.t 19)
    (.skip)
    (.exit 0))
  (.seq (.block 1
    (.seq (.reg 1 [⟨(some 20), .ia 2 (.t 16) (.t 18), none⟩,
        ⟨(some 21), .load 2 true (.t 20), none⟩,
        ⟨(some 8), .alloc 0 [(.v (.int .i64 0)), .nils], none⟩,
        ⟨none, .store 2 (.t 8) (.t 21), none⟩])
    (.dreg 0 [⟨(some 22), .fa 1 (.t 6), none⟩,
        ⟨(some 23), .load 1 false (.t 22), none⟩,
        ⟨(some 24), .fa 1 (.t 8), none⟩,
        ⟨(some 25), .load 1 false (.t 24), none⟩,
        ⟨(some 26), .call 0 57 [(.t 25)], none⟩,
        ⟨(some 27), .build [.nils] [(0, 1, (.t 26))], none⟩,
        ⟨(some 28), .bsl 1 1 [.nils] [(0, (.t 27))], none⟩,
        ⟨(some 29), .app 1 24 (.t 23) (.t 28), none⟩,
        ⟨(some 30), .fa 1 (.t 6), none⟩,
        ⟨none, .store 1 (.t 30) (.t 29), none⟩] [(1, 3), (1, 4), (1, 6)])))
  (.reg 0 [⟨(some 31), .bin .add (.t 18) (.c (.v (.int .i64 1))), none⟩,
      ⟨(some 18), .mv (.t 31), none⟩])))
def A71 : AFn := ⟨33, [.cell 4 2 true, .tmp 5],
  .seq (.reg 1 [⟨(some 4), .alloc 0 [.nils, .nils], none⟩,
      ⟨(some 5), .mv (.c (.v (.int .i64 0))), none⟩])
  (.seq (.seq (.reg 0 [⟨(some 9), .mv (.t 1), none⟩,
      ⟨(some 10), .len false (.t 9), none⟩,
      ⟨(some 11), .bin .gtr (.t 10) (.c (.v (.int .i64 2000))), none⟩])
  (.cond (.t 11)
    (.seq (.reg 0 [⟨(some 12), .build [.nils, .nils] [], none⟩,
        ⟨none, .store 2 (.t 4) (.t 12), none⟩,
        ⟨(some 5), .mv (.c (.v (.int .i64 2))), none⟩])
    (.ret))
    (.skip)))
  (.seq (.reg 1 [⟨(some 13), .mv (.t 0), none⟩,
      ⟨(some 14), .call 1 42 [(.t 13)], none⟩,
      ⟨(some 15), .build [.nils, .nils] [(0, 1, (.t 14))], none⟩,
      ⟨(some 6), .alloc 0 [.nils, .nils], none⟩,
      ⟨none, .store 2 (.t 6) (.t 15), none⟩])
  (.seq (.seq (.reg 0 [⟨(some 16), .mv (.t 1), none⟩,
      ⟨(some 17), .len false (.t 16), none⟩,
      ⟨(some 18), .mv (.c (.v (.int .i64 0))), none⟩])
  (.block 0
    (.loop A71M0 A71L0)))
  (.seq (.reg 0 [⟨(some 32), .load 2 true (.t 6), none⟩,
      ⟨none, .store 2 (.t 4) (.t 32), none⟩,
      ⟨(some 5), .mv (.c (.v (.int .i64 0))), none⟩])
  (.ret)))))⟩
/-- Live: [4, 6, 16, 17, 18] -/
abbrev A71H0 (t4 t6 t16 t17 t18 : AV) : List AV := [.top, .top, .top, .top, t4, .top, t6, .top, .top, .top, .top, .top, .top, .top, .top, .top, t16, t17, t18, .top, .top, .top, .top, .top, .top, .top, .top, .top, .top, .top, .top, .top, .top]
theorem A71M0_eq (t0 t1 t2 t3 t4 t5 t6 t7 t8 t9 t10 t11 t12 t13 t14 t15 t16 t17 t18 t19 t20 t21 t22 t23 t24 t25 t26 t27 t28 t29 t30 t31 t32 : AV) : mask A71M0 [t0, t1, t2, t3, t4, t5, t6, t7, t8, t9, t10, t11, t12, t13, t14, t15, t16, t17, t18, t19, t20, t21, t22, t23, t24, t25, t26, t27, t28, t29, t30, t31, t32] = [.top, .top, .top, .top, t4, .top, t6, .top, .top, .top, .top, .top, .top, .top, .top, .top, t16, t17, t18, .top, .top, .top, .top, .top, .top, .top, .top, .top, .top, .top, .top, .top, .top] := rfl
theorem A71_is : compFn Try.prog md Try.f71 = some { A71 with code := A71.code.erase } := by kernel_rfl

/-- peristyle/peristyleref1.SameColumns -/
def A72M0 : List Bool := [true, true, false, false, false, true, false, false, false, false, false, false, false, false, false, false, false, false, false, false, false, false, false, false, false, false]
def A72L0 : AC :=
  .seq (.seq (.reg 0 [⟨(some 11), .mv (.t 5), none⟩,
      ⟨(some 12), .mv (.t 0), none⟩,
      ⟨(some 13), .len false (.t 12), none⟩,
      ⟨(some 14), .bin .lss (.t 11) (.t 13), none⟩])
  (.cond (.t 14)
    (.skip)
    (.exit 0)))
  (.seq (.block 1
    (.seq (.dreg 0 [⟨(some 17), .mv (.t 0), none⟩,
        ⟨(some 18), .mv (.t 5), none⟩,
        ⟨(some 19), .ia 2 (.t 17) (.t 18), none⟩,
        ⟨(some 20), .load 2 true (.t 19), none⟩,
        ⟨(some 21), .mv (.t 1), none⟩,
        ⟨(some 22), .mv (.t 5), none⟩,
        ⟨(some 23), .ia 2 (.t 21) (.t 22), none⟩,
        ⟨(some 24), .load 2 true (.t 23), none⟩,
        ⟨(some 25), .eqs true [.s, .i] (.t 20) (.t 24), none⟩] [(2, 6), (3, 6), (2, 7), (3, 7)])
    (.cond (.t 25)
      (.seq (.reg 0 [⟨(some 4), .mv (.c (.v (.bool false))), none⟩])
      (.ret))
      (.skip))))
  (.reg 0 [⟨(some 15), .mv (.t 5), none⟩,
      ⟨(some 16), .bin .add (.t 15) (.c (.v (.int .i64 1))), none⟩,
      ⟨(some 5), .mv (.t 16), none⟩]))
def A72 : AFn := ⟨26, [.tmp 4],
  .seq (.reg 0 [⟨(some 4), .mv (.c (.v (.bool false))), none⟩])
  (.seq (.seq (.reg 0 [⟨(some 6), .mv (.t 0), none⟩,
      ⟨(some 7), .len false (.t 6), none⟩,
      ⟨(some 8), .mv (.t 1), none⟩,
      ⟨(some 9), .len false (.t 8), none⟩,
      ⟨(some 10), .bin .neq (.t 7) (.t 9), none⟩])
  (.cond (.t 10)
    (.seq (.reg 0 [⟨(some 4), .mv (.c (.v (.bool false))), none⟩])
    (.ret))
    (.skip)))
  (.seq (.seq (.reg 0 [⟨(some 5), .mv (.c (.v (.int .i64 0))), none⟩])
  (.block 0
    (.loop A72M0 A72L0)))
  (.seq (.reg 0 [⟨(some 4), .mv (.c (.v (.bool true))), none⟩])
  (.ret))))⟩
/-- Live: [0, 1, 5] -/
abbrev A72H0 (t0 t1 t5 : AV) : List AV := [t0, t1, .top, .top, .top, t5, .top, .top, .top, .top, .top, .top, .top, .top, .top, .top, .top, .top, .top, .top, .top, .top, .top, .top, .top, .top]
theorem A72M0_eq (t0 t1 t2 t3 t4 t5 t6 t7 t8 t9 t10 t11 t12 t13 t14 t15 t16 t17 t18 t19 t20 t21 t22 t23 t24 t25 : AV) : mask A72M0 [t0, t1, t2, t3, t4, t5, t6, t7, t8, t9, t10, t11, t12, t13, t14, t15, t16, t17, t18, t19, t20, t21, t22, t23, t24, t25] = [t0, t1, .top, .top, .top, t5, .top, .top, .top, .top, .top, .top, .top, .top, .top, .top, .top, .top, .top, .top, .top, .top, .top, .top, .top, .top] := rfl
theorem A72_is : compFn Try.prog md Try.f72 = some { A72 with code := A72.code.erase } := by kernel_rfl

/-- peristyle/peristyleref1.SameRow -/
def A73M0 : List Bool := [false, false, true, true, false, true, false, false, false, false, false, false, false, false, false, false, false, false, false, false, false, false, false, false, false, false, false, false, false, false, false]
def A73L0 : AC :=
  .seq (.seq (.reg 0 [⟨(some 13), .mv (.t 5), none⟩,
      ⟨(some 14), .fa 0 (.t 2), none⟩,
      ⟨(some 15), .load 1 false (.t 14), none⟩,
      ⟨(some 16), .len false (.t 15), none⟩,
      ⟨(some 17), .bin .lss (.t 13) (.t 16), none⟩])
  (.cond (.t 17)
    (.skip)
    (.exit 0)))
  (.seq (.block 1
    (.seq (.dreg 0 [⟨(some 20), .fa 0 (.t 2), none⟩,
        ⟨(some 21), .load 1 false (.t 20), none⟩,
        ⟨(some 22), .mv (.t 5), none⟩,
        ⟨(some 23), .ia 3 (.t 21) (.t 22), none⟩,
        ⟨(some 24), .load 3 true (.t 23), none⟩,
        ⟨(some 25), .fa 0 (.t 3), none⟩,
        ⟨(some 26), .load 1 false (.t 25), none⟩,
        ⟨(some 27), .mv (.t 5), none⟩,
        ⟨(some 28), .ia 3 (.t 26) (.t 27), none⟩,
        ⟨(some 29), .load 3 true (.t 28), none⟩,
        ⟨(some 30), .eqs true [.i, .i, .s] (.t 24) (.t 29), none⟩] [(1, 6), (3, 6), (4, 6), (1, 8), (3, 8), (4, 8), (1, 9), (3, 9), (4, 9)])
    (.cond (.t 30)
      (.seq (.reg 0 [⟨(some 4), .mv (.c (.v (.bool false))), none⟩])
      (.ret))
      (.skip))))
  (.reg 0 [⟨(some 18), .mv (.t 5), none⟩,
      ⟨(some 19), .bin .add (.t 18) (.c (.v (.int .i64 1))), none⟩,
      ⟨(some 5), .mv (.t 19), none⟩]))
def A73 : AFn := ⟨31, [.tmp 4],
  .seq (.reg 2 [⟨(some 2), .box 0 (.t 0), none⟩,
      ⟨(some 3), .box 1 (.t 1), none⟩,
      ⟨(some 4), .mv (.c (.v (.bool false))), none⟩])
  (.seq (.seq (.reg 0 [⟨(some 6), .fa 0 (.t 2), none⟩,
      ⟨(some 7), .load 1 false (.t 6), none⟩,
      ⟨(some 8), .len false (.t 7), none⟩,
      ⟨(some 9), .fa 0 (.t 3), none⟩,
      ⟨(some 10), .load 1 false (.t 9), none⟩,
      ⟨(some 11), .len false (.t 10), none⟩,
      ⟨(some 12), .bin .neq (.t 8) (.t 11), none⟩])
  (.cond (.t 12)
    (.seq (.reg 0 [⟨(some 4), .mv (.c (.v (.bool false))), none⟩])
    (.ret))
    (.skip)))
  (.seq (.seq (.reg 0 [⟨(some 5), .mv (.c (.v (.int .i64 0))), none⟩])
  (.block 0
    (.loop A73M0 A73L0)))
  (.seq (.reg 0 [⟨(some 4), .mv (.c (.v (.bool true))), none⟩])
  (.ret))))⟩
/-- Live: [2, 3, 5] -/
abbrev A73H0 (t2 t3 t5 : AV) : List AV := [.top, .top, t2, t3, .top, t5, .top, .top, .top, .top, .top, .top, .top, .top, .top, .top, .top, .top, .top, .top, .top, .top, .top, .top, .top, .top, .top, .top, .top, .top, .top]
theorem A73M0_eq (t0 t1 t2 t3 t4 t5 t6 t7 t8 t9 t10 t11 t12 t13 t14 t15 t16 t17 t18 t19 t20 t21 t22 t23 t24 t25 t26 t27 t28 t29 t30 : AV) : mask A73M0 [t0, t1, t2, t3, t4, t5, t6, t7, t8, t9, t10, t11, t12, t13, t14, t15, t16, t17, t18, t19, t20, t21, t22, t23, t24, t25, t26, t27, t28, t29, t30] = [.top, .top, t2, t3, .top, t5, .top, .top, .top, .top, .top, .top, .top, .top, .top, .top, .top, .top, .top, .top, .top, .top, .top, .top, .top, .top, .top, .top, .top, .top, .top] := rfl
theorem A73_is : compFn Try.prog md Try.f73 = some { A73 with code := A73.code.erase } := by kernel_rfl

/-- peristyle/store.base -/
def A74M0 : List Bool := [false, true, false, false, false, true, false, false, false, true, true, true, false, false, false, false, false, false, false, false, false, false, false, false, false, false, false, false]
def A74L0 : AC :=
  .seq (.reg 0 [⟨(some 12), .bin .lss (.t 11) (.t 10), none⟩])
  (.seq (.cond (.t 12)
    (.skip)
    (.exit 0))
  (.seq (.block 1
    (.seq (.reg 1 [⟨(some 13), .ia 4 (.t 9) (.t 11), none⟩,
        ⟨(some 14), .load 4 true (.t 13), none⟩,
        ⟨(some 7), .alloc 0 [(.v (.int .i64 0)), (.v (.int .i64 0)), (.v (.int .i64 0)), .nils], none⟩,
        ⟨none, .store 4 (.t 7) (.t 14), none⟩])
    (.seq (.reg 0 [⟨(some 15), .load 4 true (.t 7), none⟩,
        ⟨(some 16), .mv (.t 1), none⟩,
        ⟨(some 17), .call 0 75 [(.t 15), (.t 16)], none⟩])
    (.cond (.t 17)
      (.reg 0 [⟨(some 18), .mv (.t 5), none⟩,
          ⟨(some 19), .fa 0 (.t 7), none⟩,
          ⟨(some 20), .load 1 false (.t 19), none⟩,
          ⟨(some 21), .fa 3 (.t 7), none⟩,
          ⟨(some 22), .load 1 false (.t 21), none⟩,
          ⟨(some 23), .build [(.v (.int .i64 0)), .nils] [(0, 1, (.t 20)), (1, 1, (.t 22))], none⟩,
          ⟨(some 24), .bsl 2 1 [(.v (.int .i64 0)), .nils] [(0, (.t 23))], none⟩,
          ⟨(some 25), .app 2 32 (.t 18) (.t 24), none⟩,
          ⟨(some 5), .mv (.t 25), none⟩])
      (.skip)))))
  (.reg 0 [⟨(some 26), .bin .add (.t 11) (.c (.v (.int .i64 1))), none⟩,
      ⟨(some 11), .mv (.t 26), none⟩])))
def A74 : AFn := ⟨28, [.tmp 4],
  .seq (.reg 1 [⟨(some 2), .box 0 (.t 0), none⟩,
      ⟨(some 4), .mv (.c .nils), none⟩])
  (.seq (.reg 0 [⟨(some 5), .mv (.c .nils), none⟩])
  (.seq (.seq (.reg 0 [⟨(some 8), .fa 1 (.t 2), none⟩,
      ⟨(some 9), .load 1 false (.t 8), none⟩,
      ⟨(some 10), .len false (.t 9), none⟩,
      ⟨(some 11), .mv (.c (.v (.int .i64 0))), none⟩])
  (.block 0
    (.loop A74M0 A74L0)))
  (.seq (.reg 0 [⟨(some 27), .mv (.t 5), none⟩,
      ⟨(some 4), .mv (.t 27), none⟩])
  (.ret))))⟩
/-- Live: [1, 5, 9, 10, 11] -/
abbrev A74H0 (t1 t5 t9 t10 t11 : AV) : List AV := [.top, t1, .top, .top, .top, t5, .top, .top, .top, t9, t10, t11, .top, .top, .top, .top, .top, .top, .top, .top, .top, .top, .top, .top, .top, .top, .top, .top]
theorem A74M0_eq (t0 t1 t2 t3 t4 t5 t6 t7 t8 t9 t10 t11 t12 t13 t14 t15 t16 t17 t18 t19 t20 t21 t22 t23 t24 t25 t26 t27 : AV) : mask A74M0 [t0, t1, t2, t3, t4, t5, t6, t7, t8, t9, t10, t11, t12, t13, t14, t15, t16, t17, t18, t19, t20, t21, t22, t23, t24, t25, t26, t27] = [.top, t1, .top, .top, .top, t5, .top, .top, .top, t9, t10, t11, .top, .top, .top, .top, .top, .top, .top, .top, .top, .top, .top, .top, .top, .top, .top, .top] := rfl
theorem A74_is : compFn Try.prog md Try.f74 = some { A74 with code := A74.code.erase } := by kernel_rfl

/-- peristyle/store.at -/
def A75 : AFn := ⟨20, [.tmp 4],
  .seq (.reg 1 [⟨(some 2), .box 0 (.t 0), none⟩,
      ⟨(some 4), .mv (.c (.v (.bool false))), none⟩])
  (.seq (.reg 0 [⟨(some 5), .fa 1 (.t 2), none⟩,
      ⟨(some 6), .load 1 false (.t 5), none⟩,
      ⟨(some 7), .mv (.t 1), none⟩,
      ⟨(some 8), .bin .leq (.t 6) (.t 7), none⟩,
      ⟨(some 9), .mv (.t 8), none⟩,
      ⟨(some 10), .fa 2 (.t 2), (some (9, true))⟩,
      ⟨(some 11), .load 1 false (.t 10), (some (9, true))⟩,
      ⟨(some 12), .bin .eql (.t 11) (.c (.v (.int .i64 0))), (some (9, true))⟩,
      ⟨(some 13), .mv (.t 12), (some (9, true))⟩,
      ⟨(some 14), .fa 2 (.t 2), (some (13, false))⟩,
      ⟨(some 15), .load 1 false (.t 14), (some (13, false))⟩,
      ⟨(some 16), .mv (.t 1), (some (13, false))⟩,
      ⟨(some 17), .bin .gtr (.t 15) (.t 16), (some (13, false))⟩,
      ⟨(some 18), .pick (.t 13) (.c (.v (.bool true))) (.t 17), (some (9, true))⟩,
      ⟨(some 19), .pick (.t 9) (.t 18) (.c (.v (.bool false))), none⟩,
      ⟨(some 4), .mv (.t 19), none⟩])
  (.ret))⟩
theorem A75_is : compFn Try.prog md Try.f75 = some { A75 with code := A75.code.erase } := by kernel_rfl

/-- peristyle/peristyleref11.seenAt -/
def A79M0 : List Bool := [false, true, true, false, false, true, true, false, false, false, false, false, false, false, false, false, false, false, false, false, false, false, false, false, false, false, false, false, false, false, false, false, false, false, false, false, false, false, false, false, false, false, false, false]
def A79L0 : AC :=
  .seq (.seq (.reg 0 [⟨(some 8), .mv (.t 6), none⟩,
      ⟨(some 9), .fa 1 (.t 2), none⟩,
      ⟨(some 10), .load 1 false (.t 9), none⟩,
      ⟨(some 11), .len false (.t 10), none⟩,
      ⟨(some 12), .bin .lss (.t 8) (.t 11), none⟩])
  (.cond (.t 12)
    (.skip)
    (.exit 0)))
  (.seq (.block 1
    (.seq (.reg 1 [⟨(some 15), .fa 1 (.t 2), none⟩,
        ⟨(some 16), .load 1 false (.t 15), none⟩,
        ⟨(some 17), .mv (.t 6), none⟩,
        ⟨(some 18), .ia 4 (.t 16) (.t 17), none⟩,
        ⟨(some 19), .load 4 true (.t 18), none⟩,
        ⟨(some 7), .alloc 0 [(.v (.int .i64 0)), (.v (.int .i64 0)), (.v (.int .i64 0)), .nils], none⟩,
        ⟨none, .store 4 (.t 7) (.t 19), none⟩])
    (.seq (.reg 0 [⟨(some 20), .fa 1 (.t 7), none⟩,
        ⟨(some 21), .load 1 false (.t 20), none⟩,
        ⟨(some 22), .mv (.t 1), none⟩,
        ⟨(some 23), .bin .leq (.t 21) (.t 22), none⟩,
        ⟨(some 24), .mv (.t 23), none⟩,
        ⟨(some 25), .fa 2 (.t 7), (some (24, true))⟩,
        ⟨(some 26), .load 1 false (.t 25), (some (24, true))⟩,
        ⟨(some 27), .bin .eql (.t 26) (.c (.v (.int .i64 0))), (some (24, true))⟩,
        ⟨(some 28), .mv (.t 27), (some (24, true))⟩,
        ⟨(some 29), .fa 2 (.t 7), (some (28, false))⟩,
        ⟨(some 30), .load 1 false (.t 29), (some (28, false))⟩,
        ⟨(some 31), .mv (.t 1), (some (28, false))⟩,
        ⟨(some 32), .bin .gtr (.t 30) (.t 31), (some (28, false))⟩,
        ⟨(some 33), .pick (.t 28) (.c (.v (.bool true))) (.t 32), (some (24, true))⟩,
        ⟨(some 34), .pick (.t 24) (.t 33) (.c (.v (.bool false))), none⟩])
    (.cond (.t 34)
      (.reg 0 [⟨(some 35), .mv (.t 5), none⟩,
          ⟨(some 36), .fa 0 (.t 7), none⟩,
          ⟨(some 37), .load 1 false (.t 36), none⟩,
          ⟨(some 38), .fa 3 (.t 7), none⟩,
          ⟨(some 39), .load 1 false (.t 38), none⟩,
          ⟨(some 40), .build [(.v (.int .i64 0)), .nils] [(0, 1, (.t 37)), (1, 1, (.t 39))], none⟩,
          ⟨(some 41), .bsl 2 1 [(.v (.int .i64 0)), .nils] [(0, (.t 40))], none⟩,
          ⟨(some 42), .app 2 32 (.t 35) (.t 41), none⟩,
          ⟨(some 5), .mv (.t 42), none⟩])
      (.skip)))))
  (.reg 0 [⟨(some 13), .mv (.t 6), none⟩,
      ⟨(some 14), .bin .add (.t 13) (.c (.v (.int .i64 1))), none⟩,
      ⟨(some 6), .mv (.t 14), none⟩]))
def A79 : AFn := ⟨44, [.tmp 4],
  .seq (.reg 1 [⟨(some 2), .box 0 (.t 0), none⟩,
      ⟨(some 4), .mv (.c .nils), none⟩])
  (.seq (.reg 0 [⟨(some 5), .mv (.c .nils), none⟩])
  (.seq (.seq (.reg 0 [⟨(some 6), .mv (.c (.v (.int .i64 0))), none⟩])
  (.block 0
    (.loop A79M0 A79L0)))
  (.seq (.reg 0 [⟨(some 43), .mv (.t 5), none⟩,
      ⟨(some 4), .mv (.t 43), none⟩])
  (.ret))))⟩
/-- Live: [1, 2, 5, 6] -/
abbrev A79H0 (t1 t2 t5 t6 : AV) : List AV := [.top, t1, t2, .top, .top, t5, t6, .top, .top, .top, .top, .top, .top, .top, .top, .top, .top, .top, .top, .top, .top, .top, .top, .top, .top, .top, .top, .top, .top, .top, .top, .top, .top, .top, .top, .top, .top, .top, .top, .top, .top, .top, .top, .top]
theorem A79M0_eq (t0 t1 t2 t3 t4 t5 t6 t7 t8 t9 t10 t11 t12 t13 t14 t15 t16 t17 t18 t19 t20 t21 t22 t23 t24 t25 t26 t27 t28 t29 t30 t31 t32 t33 t34 t35 t36 t37 t38 t39 t40 t41 t42 t43 : AV) : mask A79M0 [t0, t1, t2, t3, t4, t5, t6, t7, t8, t9, t10, t11, t12, t13, t14, t15, t16, t17, t18, t19, t20, t21, t22, t23, t24, t25, t26, t27, t28, t29, t30, t31, t32, t33, t34, t35, t36, t37, t38, t39, t40, t41, t42, t43] = [.top, t1, t2, .top, .top, t5, t6, .top, .top, .top, .top, .top, .top, .top, .top, .top, .top, .top, .top, .top, .top, .top, .top, .top, .top, .top, .top, .top, .top, .top, .top, .top, .top, .top, .top, .top, .top, .top, .top, .top, .top, .top, .top, .top] := rfl
theorem A79_is : compFn Try.prog md Try.f79 = some { A79 with code := A79.code.erase } := by kernel_rfl

/-- peristyle/peristyleref11.with -/
def A80M0 : List Bool := [true, true, false, false, false, true, false, false, false, false, false, false, false, false, false, false, false, false, false, false, false, false, false, false, false, false, false, false, false, false, false, false, false, false, false, false, false, false, false, false, false, false, false, false, false, false, false, false]
def A80L0 : AC :=
  .seq (.seq (.reg 0 [⟨(some 9), .mv (.t 5), none⟩,
      ⟨(some 10), .bin .gtr (.t 9) (.c (.v (.int .i64 0))), none⟩,
      ⟨(some 11), .mv (.t 10), none⟩,
      ⟨(some 12), .mv (.t 0), (some (11, true))⟩,
      ⟨(some 13), .mv (.t 5), (some (11, true))⟩,
      ⟨(some 14), .bin .sub (.t 13) (.c (.v (.int .i64 1))), (some (11, true))⟩,
      ⟨(some 15), .ia 1 (.t 12) (.t 14), (some (11, true))⟩,
      ⟨(some 16), .load 1 false (.t 15), (some (11, true))⟩,
      ⟨(some 17), .mv (.t 1), (some (11, true))⟩,
      ⟨(some 18), .bin .gtr (.t 16) (.t 17), (some (11, true))⟩,
      ⟨(some 19), .pick (.t 11) (.t 18) (.c (.v (.bool false))), none⟩])
  (.cond (.t 19)
    (.skip)
    (.exit 0)))
  (.block 1
    (.reg 0 [⟨(some 20), .mv (.t 5), none⟩,
        ⟨(some 21), .bin .sub (.t 20) (.c (.v (.int .i64 1))), none⟩,
        ⟨(some 5), .mv (.t 21), none⟩]))
def A80 : AFn := ⟨48, [.tmp 4],
  .seq (.reg 0 [⟨(some 4), .mv (.c .nils), none⟩])
  (.seq (.reg 0 [⟨(some 7), .mv (.t 0), none⟩,
      ⟨(some 8), .len false (.t 7), none⟩,
      ⟨(some 5), .mv (.t 8), none⟩])
  (.seq (.block 0
    (.loop A80M0 A80L0))
  (.seq (.seq (.reg 0 [⟨(some 22), .mv (.t 5), none⟩,
      ⟨(some 23), .bin .gtr (.t 22) (.c (.v (.int .i64 0))), none⟩,
      ⟨(some 24), .mv (.t 23), none⟩,
      ⟨(some 25), .mv (.t 0), (some (24, true))⟩,
      ⟨(some 26), .mv (.t 5), (some (24, true))⟩,
      ⟨(some 27), .bin .sub (.t 26) (.c (.v (.int .i64 1))), (some (24, true))⟩,
      ⟨(some 28), .ia 1 (.t 25) (.t 27), (some (24, true))⟩,
      ⟨(some 29), .load 1 false (.t 28), (some (24, true))⟩,
      ⟨(some 30), .mv (.t 1), (some (24, true))⟩,
      ⟨(some 31), .bin .eql (.t 29) (.t 30), (some (24, true))⟩,
      ⟨(some 32), .pick (.t 24) (.t 31) (.c (.v (.bool false))), none⟩])
  (.cond (.t 32)
    (.seq (.reg 0 [⟨(some 33), .mv (.t 0), none⟩,
        ⟨(some 4), .mv (.t 33), none⟩])
    (.ret))
    (.skip)))
  (.seq (.reg 0 [⟨(some 6), .mv (.c .nils), none⟩])
  (.seq (.reg 0 [⟨(some 34), .mv (.t 6), none⟩,
      ⟨(some 35), .mv (.t 0), none⟩,
      ⟨(some 36), .mv (.t 5), none⟩,
      ⟨(some 37), .sl 1 (.t 35) none (some (.t 36)), none⟩,
      ⟨(some 38), .app 1 8 (.t 34) (.t 37), none⟩,
      ⟨(some 6), .mv (.t 38), none⟩])
  (.seq (.reg 0 [⟨(some 39), .mv (.t 6), none⟩,
      ⟨(some 40), .mv (.t 1), none⟩,
      ⟨(some 41), .bsl 1 1 [(.v (.int .i64 0))] [(0, (.t 40))], none⟩,
      ⟨(some 42), .app 1 8 (.t 39) (.t 41), none⟩,
      ⟨(some 6), .mv (.t 42), none⟩])
  (.seq (.reg 0 [⟨(some 43), .mv (.t 6), none⟩,
      ⟨(some 44), .mv (.t 0), none⟩,
      ⟨(some 45), .mv (.t 5), none⟩,
      ⟨(some 46), .sl 1 (.t 44) (some (.t 45)) none, none⟩,
      ⟨(some 47), .app 1 8 (.t 43) (.t 46), none⟩,
      ⟨(some 4), .mv (.t 47), none⟩])
  (.ret))))))))⟩
/-- Live: [0, 1, 5] -/
abbrev A80H0 (t0 t1 t5 : AV) : List AV := [t0, t1, .top, .top, .top, t5, .top, .top, .top, .top, .top, .top, .top, .top, .top, .top, .top, .top, .top, .top, .top, .top, .top, .top, .top, .top, .top, .top, .top, .top, .top, .top, .top, .top, .top, .top, .top, .top, .top, .top, .top, .top, .top, .top, .top, .top, .top, .top]
theorem A80M0_eq (t0 t1 t2 t3 t4 t5 t6 t7 t8 t9 t10 t11 t12 t13 t14 t15 t16 t17 t18 t19 t20 t21 t22 t23 t24 t25 t26 t27 t28 t29 t30 t31 t32 t33 t34 t35 t36 t37 t38 t39 t40 t41 t42 t43 t44 t45 t46 t47 : AV) : mask A80M0 [t0, t1, t2, t3, t4, t5, t6, t7, t8, t9, t10, t11, t12, t13, t14, t15, t16, t17, t18, t19, t20, t21, t22, t23, t24, t25, t26, t27, t28, t29, t30, t31, t32, t33, t34, t35, t36, t37, t38, t39, t40, t41, t42, t43, t44, t45, t46, t47] = [t0, t1, .top, .top, .top, t5, .top, .top, .top, .top, .top, .top, .top, .top, .top, .top, .top, .top, .top, .top, .top, .top, .top, .top, .top, .top, .top, .top, .top, .top, .top, .top, .top, .top, .top, .top, .top, .top, .top, .top, .top, .top, .top, .top, .top, .top, .top, .top] := rfl
theorem A80_is : compFn Try.prog md Try.f80 = some { A80 with code := A80.code.erase } := by kernel_rfl

/-- peristyle/peristyleref11.versionAt -/
def A81M0 : List Bool := [false, true, true, true, false, false, true, false, true, false, false, false, false, false, false, false, false, false, false, false, false, false, false, false, false, false, false, false, false, false, false, false, false, false, false, false, false, false, false, false, false, false, false, false, false]
def A81L0 : AC :=
  .seq (.seq (.reg 0 [⟨(some 10), .mv (.t 8), none⟩,
      ⟨(some 11), .fa 1 (.t 3), none⟩,
      ⟨(some 12), .load 1 false (.t 11), none⟩,
      ⟨(some 13), .len false (.t 12), none⟩,
      ⟨(some 14), .bin .lss (.t 10) (.t 13), none⟩])
  (.cond (.t 14)
    (.skip)
    (.exit 0)))
  (.seq (.block 1
    (.seq (.reg 1 [⟨(some 17), .fa 1 (.t 3), none⟩,
        ⟨(some 18), .load 1 false (.t 17), none⟩,
        ⟨(some 19), .mv (.t 8), none⟩,
        ⟨(some 20), .ia 4 (.t 18) (.t 19), none⟩,
        ⟨(some 21), .load 4 true (.t 20), none⟩,
        ⟨(some 9), .alloc 0 [(.v (.int .i64 0)), (.v (.int .i64 0)), (.v (.int .i64 0)), .nils], none⟩,
        ⟨none, .store 4 (.t 9) (.t 21), none⟩])
    (.seq (.reg 0 [⟨(some 22), .fa 0 (.t 9), none⟩,
        ⟨(some 23), .load 1 false (.t 22), none⟩,
        ⟨(some 24), .mv (.t 1), none⟩,
        ⟨(some 25), .bin .eql (.t 23) (.t 24), none⟩,
        ⟨(some 26), .mv (.t 25), none⟩,
        ⟨(some 27), .fa 1 (.t 9), (some (26, true))⟩,
        ⟨(some 28), .load 1 false (.t 27), (some (26, true))⟩,
        ⟨(some 29), .mv (.t 2), (some (26, true))⟩,
        ⟨(some 30), .bin .leq (.t 28) (.t 29), (some (26, true))⟩,
        ⟨(some 31), .pick (.t 26) (.t 30) (.c (.v (.bool false))), none⟩,
        ⟨(some 32), .mv (.t 31), none⟩,
        ⟨(some 33), .fa 2 (.t 9), (some (32, true))⟩,
        ⟨(some 34), .load 1 false (.t 33), (some (32, true))⟩,
        ⟨(some 35), .bin .eql (.t 34) (.c (.v (.int .i64 0))), (some (32, true))⟩,
        ⟨(some 36), .mv (.t 35), (some (32, true))⟩,
        ⟨(some 37), .fa 2 (.t 9), (some (36, false))⟩,
        ⟨(some 38), .load 1 false (.t 37), (some (36, false))⟩,
        ⟨(some 39), .mv (.t 2), (some (36, false))⟩,
        ⟨(some 40), .bin .gtr (.t 38) (.t 39), (some (36, false))⟩,
        ⟨(some 41), .pick (.t 36) (.c (.v (.bool true))) (.t 40), (some (32, true))⟩,
        ⟨(some 42), .pick (.t 32) (.t 41) (.c (.v (.bool false))), none⟩])
    (.cond (.t 42)
      (.seq (.reg 0 [⟨(some 43), .load 4 true (.t 9), none⟩,
          ⟨none, .store 4 (.t 6) (.t 43), none⟩,
          ⟨(some 7), .mv (.c (.v (.bool true))), none⟩])
      (.ret))
      (.skip)))))
  (.reg 0 [⟨(some 15), .mv (.t 8), none⟩,
      ⟨(some 16), .bin .add (.t 15) (.c (.v (.int .i64 1))), none⟩,
      ⟨(some 8), .mv (.t 16), none⟩]))
def A81 : AFn := ⟨45, [.cell 6 4 true, .tmp 7],
  .seq (.reg 2 [⟨(some 3), .box 0 (.t 0), none⟩,
      ⟨(some 6), .alloc 1 [(.v (.int .i64 0)), (.v (.int .i64 0)), (.v (.int .i64 0)), .nils], none⟩,
      ⟨(some 7), .mv (.c (.v (.bool false))), none⟩])
  (.seq (.seq (.reg 0 [⟨(some 8), .mv (.c (.v (.int .i64 0))), none⟩])
  (.block 0
    (.loop A81M0 A81L0)))
  (.seq (.reg 0 [⟨(some 44), .build [(.v (.int .i64 0)), (.v (.int .i64 0)), (.v (.int .i64 0)), .nils] [], none⟩,
      ⟨none, .store 4 (.t 6) (.t 44), none⟩,
      ⟨(some 7), .mv (.c (.v (.bool false))), none⟩])
  (.ret)))⟩
/-- Live: [1, 2, 3, 6, 8] -/
abbrev A81H0 (t1 t2 t3 t6 t8 : AV) : List AV := [.top, t1, t2, t3, .top, .top, t6, .top, t8, .top, .top, .top, .top, .top, .top, .top, .top, .top, .top, .top, .top, .top, .top, .top, .top, .top, .top, .top, .top, .top, .top, .top, .top, .top, .top, .top, .top, .top, .top, .top, .top, .top, .top, .top, .top]
theorem A81M0_eq (t0 t1 t2 t3 t4 t5 t6 t7 t8 t9 t10 t11 t12 t13 t14 t15 t16 t17 t18 t19 t20 t21 t22 t23 t24 t25 t26 t27 t28 t29 t30 t31 t32 t33 t34 t35 t36 t37 t38 t39 t40 t41 t42 t43 t44 : AV) : mask A81M0 [t0, t1, t2, t3, t4, t5, t6, t7, t8, t9, t10, t11, t12, t13, t14, t15, t16, t17, t18, t19, t20, t21, t22, t23, t24, t25, t26, t27, t28, t29, t30, t31, t32, t33, t34, t35, t36, t37, t38, t39, t40, t41, t42, t43, t44] = [.top, t1, t2, t3, .top, .top, t6, .top, t8, .top, .top, .top, .top, .top, .top, .top, .top, .top, .top, .top, .top, .top, .top, .top, .top, .top, .top, .top, .top, .top, .top, .top, .top, .top, .top, .top, .top, .top, .top, .top, .top, .top, .top, .top, .top] := rfl
theorem A81_is : compFn Try.prog md Try.f81 = some { A81 with code := A81.code.erase } := by kernel_rfl

/-- peristyle/peristyleref11.sameValues -/
def A82 : AFn := ⟨10, [.tmp 4],
  .seq (.reg 0 [⟨(some 4), .mv (.c (.v (.bool false))), none⟩])
  (.seq (.reg 0 [⟨(some 5), .mv (.t 0), none⟩,
      ⟨(some 6), .build [.nils] [(0, 1, (.t 5))], none⟩,
      ⟨(some 7), .mv (.t 1), none⟩,
      ⟨(some 8), .build [.nils] [(0, 1, (.t 7))], none⟩,
      ⟨(some 9), .call 0 73 [(.t 6), (.t 8)], none⟩,
      ⟨(some 4), .mv (.t 9), none⟩])
  (.ret))⟩
theorem A82_is : compFn Try.prog md Try.f82 = some { A82 with code := A82.code.erase } := by kernel_rfl

/-- peristyle/kit.Name -/
def A83M0 : List Bool := [true, false, false, false, false, false, false, false, false, false, false, false, false, true, true, false, false, false, false, false, false, false, false, false, false, false, false, false, false, false, false, false, false, false, false, false, false, false, false, false, false, false, false]
def A83L0 : AC :=
  .seq (.reg 0 [⟨(some 15), .bin .lss (.t 14) (.t 13), none⟩])
  (.seq (.cond (.t 15)
    (.skip)
    (.exit 0))
  (.seq (.block 1
    (.seq (.reg 0 [⟨(some 16), .mv (.t 14), none⟩,
        ⟨(some 3), .mv (.t 16), none⟩])
    (.seq (.reg 0 [⟨(some 17), .mv (.t 0), none⟩,
        ⟨(some 18), .mv (.t 3), none⟩,
        ⟨(some 19), .ix (.t 17) (.t 18), none⟩,
        ⟨(some 4), .mv (.t 19), none⟩])
    (.seq (.reg 0 [⟨(some 20), .mv (.t 4), none⟩,
        ⟨(some 21), .bin .lss (.t 20) (.c (.v (.int .u8 97))), none⟩,
        ⟨(some 22), .mv (.t 21), none⟩,
        ⟨(some 23), .mv (.t 4), (some (22, false))⟩,
        ⟨(some 24), .bin .gtr (.t 23) (.c (.v (.int .u8 122))), (some (22, false))⟩,
        ⟨(some 25), .pick (.t 22) (.c (.v (.bool true))) (.t 24), none⟩,
        ⟨(some 26), .mv (.t 25), none⟩,
        ⟨(some 27), .mv (.t 3), (some (26, true))⟩,
        ⟨(some 28), .bin .eql (.t 27) (.c (.v (.int .i64 0))), (some (26, true))⟩,
        ⟨(some 29), .mv (.t 28), (some (26, true))⟩,
        ⟨(some 30), .mv (.t 4), (some (29, false))⟩,
        ⟨(some 31), .bin .neq (.t 30) (.c (.v (.int .u8 95))), (some (29, false))⟩,
        ⟨(some 32), .mv (.t 31), (some (29, false))⟩,
        ⟨(some 33), .mv (.t 4), (some (32, true))⟩,
        ⟨(some 34), .bin .lss (.t 33) (.c (.v (.int .u8 48))), (some (32, true))⟩,
        ⟨(some 35), .mv (.t 34), (some (32, true))⟩,
        ⟨(some 36), .mv (.t 4), (some (35, false))⟩,
        ⟨(some 37), .bin .gtr (.t 36) (.c (.v (.int .u8 57))), (some (35, false))⟩,
        ⟨(some 38), .pick (.t 35) (.c (.v (.bool true))) (.t 37), (some (32, true))⟩,
        ⟨(some 39), .pick (.t 32) (.t 38) (.c (.v (.bool false))), (some (29, false))⟩,
        ⟨(some 40), .pick (.t 29) (.c (.v (.bool true))) (.t 39), (some (26, true))⟩,
        ⟨(some 41), .pick (.t 26) (.t 40) (.c (.v (.bool false))), none⟩])
    (.cond (.t 41)
      (.seq (.reg 0 [⟨(some 2), .mv (.c (.v (.bool false))), none⟩])
      (.ret))
      (.skip))))))
  (.reg 0 [⟨(some 42), .bin .add (.t 14) (.c (.v (.int .i64 1))), none⟩,
      ⟨(some 14), .mv (.t 42), none⟩])))
def A83 : AFn := ⟨43, [.tmp 2],
  .seq (.reg 0 [⟨(some 2), .mv (.c (.v (.bool false))), none⟩])
  (.seq (.seq (.reg 0 [⟨(some 5), .mv (.t 0), none⟩,
      ⟨(some 6), .bin .eql (.t 5) (.c (.v (.string ⟨#[]⟩))), none⟩,
      ⟨(some 7), .mv (.t 6), none⟩,
      ⟨(some 8), .mv (.t 0), (some (7, false))⟩,
      ⟨(some 9), .len true (.t 8), (some (7, false))⟩,
      ⟨(some 10), .bin .gtr (.t 9) (.c (.v (.int .i64 32))), (some (7, false))⟩,
      ⟨(some 11), .pick (.t 7) (.c (.v (.bool true))) (.t 10), none⟩])
  (.cond (.t 11)
    (.seq (.reg 0 [⟨(some 2), .mv (.c (.v (.bool false))), none⟩])
    (.ret))
    (.skip)))
  (.seq (.seq (.reg 0 [⟨(some 12), .mv (.t 0), none⟩,
      ⟨(some 13), .len true (.t 12), none⟩,
      ⟨(some 14), .mv (.c (.v (.int .i64 0))), none⟩])
  (.block 0
    (.loop A83M0 A83L0)))
  (.seq (.reg 0 [⟨(some 2), .mv (.c (.v (.bool true))), none⟩])
  (.ret))))⟩
/-- Live: [0, 13, 14] -/
abbrev A83H0 (t0 t13 t14 : AV) : List AV := [t0, .top, .top, .top, .top, .top, .top, .top, .top, .top, .top, .top, .top, t13, t14, .top, .top, .top, .top, .top, .top, .top, .top, .top, .top, .top, .top, .top, .top, .top, .top, .top, .top, .top, .top, .top, .top, .top, .top, .top, .top, .top, .top]
theorem A83M0_eq (t0 t1 t2 t3 t4 t5 t6 t7 t8 t9 t10 t11 t12 t13 t14 t15 t16 t17 t18 t19 t20 t21 t22 t23 t24 t25 t26 t27 t28 t29 t30 t31 t32 t33 t34 t35 t36 t37 t38 t39 t40 t41 t42 : AV) : mask A83M0 [t0, t1, t2, t3, t4, t5, t6, t7, t8, t9, t10, t11, t12, t13, t14, t15, t16, t17, t18, t19, t20, t21, t22, t23, t24, t25, t26, t27, t28, t29, t30, t31, t32, t33, t34, t35, t36, t37, t38, t39, t40, t41, t42] = [t0, .top, .top, .top, .top, .top, .top, .top, .top, .top, .top, .top, .top, t13, t14, .top, .top, .top, .top, .top, .top, .top, .top, .top, .top, .top, .top, .top, .top, .top, .top, .top, .top, .top, .top, .top, .top, .top, .top, .top, .top, .top, .top] := rfl
theorem A83_is : compFn Try.prog md Try.f83 = some { A83 with code := A83.code.erase } := by kernel_rfl

/-- peristyle/peristyleref1.IsName -/
def A84M0 : List Bool := [true, false, false, true, false, false, false, false, false, false, false, false, false, false, false, false, false, false, false, false, false, false, false, false, false, false, false, false, false, false, false, false, false, false, false, false, false, false, false, false, false, false, false, false, false, false, false, false, false, false, false, false]
def A84L0 : AC :=
  .seq (.seq (.reg 0 [⟨(some 5), .mv (.t 3), none⟩,
      ⟨(some 6), .mv (.t 0), none⟩,
      ⟨(some 7), .len true (.t 6), none⟩,
      ⟨(some 8), .bin .lss (.t 5) (.t 7), none⟩])
  (.cond (.t 8)
    (.skip)
    (.exit 0)))
  (.seq (.block 1
    (.seq (.reg 0 [⟨(some 11), .mv (.t 0), none⟩,
        ⟨(some 12), .mv (.t 3), none⟩,
        ⟨(some 13), .ix (.t 11) (.t 12), none⟩,
        ⟨(some 14), .bin .geq (.t 13) (.c (.v (.int .u8 97))), none⟩,
        ⟨(some 15), .mv (.t 14), none⟩,
        ⟨(some 16), .mv (.t 0), (some (15, true))⟩,
        ⟨(some 17), .mv (.t 3), (some (15, true))⟩,
        ⟨(some 18), .ix (.t 16) (.t 17), (some (15, true))⟩,
        ⟨(some 19), .bin .leq (.t 18) (.c (.v (.int .u8 122))), (some (15, true))⟩,
        ⟨(some 20), .pick (.t 15) (.t 19) (.c (.v (.bool false))), none⟩,
        ⟨(some 4), .mv (.t 20), none⟩])
    (.seq (.reg 0 [⟨(some 21), .mv (.t 4), none⟩,
        ⟨(some 22), .un .not (.t 21), none⟩,
        ⟨(some 23), .mv (.t 22), none⟩,
        ⟨(some 24), .mv (.t 3), (some (23, true))⟩,
        ⟨(some 25), .bin .eql (.t 24) (.c (.v (.int .i64 0))), (some (23, true))⟩,
        ⟨(some 26), .mv (.t 25), (some (23, true))⟩,
        ⟨(some 27), .mv (.t 0), (some (26, false))⟩,
        ⟨(some 28), .mv (.t 3), (some (26, false))⟩,
        ⟨(some 29), .ix (.t 27) (.t 28), (some (26, false))⟩,
        ⟨(some 30), .bin .neq (.t 29) (.c (.v (.int .u8 95))), (some (26, false))⟩,
        ⟨(some 31), .mv (.t 30), (some (26, false))⟩,
        ⟨(some 32), .mv (.t 0), (some (31, true))⟩,
        ⟨(some 33), .mv (.t 3), (some (31, true))⟩,
        ⟨(some 34), .ix (.t 32) (.t 33), (some (31, true))⟩,
        ⟨(some 35), .bin .lss (.t 34) (.c (.v (.int .u8 48))), (some (31, true))⟩,
        ⟨(some 36), .mv (.t 35), (some (31, true))⟩,
        ⟨(some 37), .mv (.t 0), (some (36, false))⟩,
        ⟨(some 38), .mv (.t 3), (some (36, false))⟩,
        ⟨(some 39), .ix (.t 37) (.t 38), (some (36, false))⟩,
        ⟨(some 40), .bin .gtr (.t 39) (.c (.v (.int .u8 57))), (some (36, false))⟩,
        ⟨(some 41), .pick (.t 36) (.c (.v (.bool true))) (.t 40), (some (31, true))⟩,
        ⟨(some 42), .pick (.t 31) (.t 41) (.c (.v (.bool false))), (some (26, false))⟩,
        ⟨(some 43), .pick (.t 26) (.c (.v (.bool true))) (.t 42), (some (23, true))⟩,
        ⟨(some 44), .pick (.t 23) (.t 43) (.c (.v (.bool false))), none⟩])
    (.cond (.t 44)
      (.seq (.reg 0 [⟨(some 2), .mv (.c (.v (.bool false))), none⟩])
      (.ret))
      (.skip)))))
  (.reg 0 [⟨(some 9), .mv (.t 3), none⟩,
      ⟨(some 10), .bin .add (.t 9) (.c (.v (.int .i64 1))), none⟩,
      ⟨(some 3), .mv (.t 10), none⟩]))
def A84 : AFn := ⟨52, [.tmp 2],
  .seq (.reg 0 [⟨(some 2), .mv (.c (.v (.bool false))), none⟩])
  (.seq (.seq (.reg 0 [⟨(some 3), .mv (.c (.v (.int .i64 0))), none⟩])
  (.block 0
    (.loop A84M0 A84L0)))
  (.seq (.reg 0 [⟨(some 45), .mv (.t 0), none⟩,
      ⟨(some 46), .bin .neq (.t 45) (.c (.v (.string ⟨#[]⟩))), none⟩,
      ⟨(some 47), .mv (.t 46), none⟩,
      ⟨(some 48), .mv (.t 0), (some (47, true))⟩,
      ⟨(some 49), .len true (.t 48), (some (47, true))⟩,
      ⟨(some 50), .bin .leq (.t 49) (.c (.v (.int .i64 32))), (some (47, true))⟩,
      ⟨(some 51), .pick (.t 47) (.t 50) (.c (.v (.bool false))), none⟩,
      ⟨(some 2), .mv (.t 51), none⟩])
  (.ret)))⟩
/-- Live: [0, 3] -/
abbrev A84H0 (t0 t3 : AV) : List AV := [t0, .top, .top, t3, .top, .top, .top, .top, .top, .top, .top, .top, .top, .top, .top, .top, .top, .top, .top, .top, .top, .top, .top, .top, .top, .top, .top, .top, .top, .top, .top, .top, .top, .top, .top, .top, .top, .top, .top, .top, .top, .top, .top, .top, .top, .top, .top, .top, .top, .top, .top, .top]
theorem A84M0_eq (t0 t1 t2 t3 t4 t5 t6 t7 t8 t9 t10 t11 t12 t13 t14 t15 t16 t17 t18 t19 t20 t21 t22 t23 t24 t25 t26 t27 t28 t29 t30 t31 t32 t33 t34 t35 t36 t37 t38 t39 t40 t41 t42 t43 t44 t45 t46 t47 t48 t49 t50 t51 : AV) : mask A84M0 [t0, t1, t2, t3, t4, t5, t6, t7, t8, t9, t10, t11, t12, t13, t14, t15, t16, t17, t18, t19, t20, t21, t22, t23, t24, t25, t26, t27, t28, t29, t30, t31, t32, t33, t34, t35, t36, t37, t38, t39, t40, t41, t42, t43, t44, t45, t46, t47, t48, t49, t50, t51] = [t0, .top, .top, t3, .top, .top, .top, .top, .top, .top, .top, .top, .top, .top, .top, .top, .top, .top, .top, .top, .top, .top, .top, .top, .top, .top, .top, .top, .top, .top, .top, .top, .top, .top, .top, .top, .top, .top, .top, .top, .top, .top, .top, .top, .top, .top, .top, .top, .top, .top, .top, .top] := rfl
theorem A84_is : compFn Try.prog md Try.f84 = some { A84 with code := A84.code.erase } := by kernel_rfl

/-- peristyle/peristyleref1.within -/
def A85 : AFn := ⟨15, [.tmp 6],
  .seq (.reg 0 [⟨(some 6), .mv (.c (.v (.bool false))), none⟩])
  (.seq (.reg 0 [⟨(some 7), .mv (.t 0), none⟩,
      ⟨(some 8), .mv (.t 1), none⟩,
      ⟨(some 9), .bin .geq (.t 7) (.t 8), none⟩,
      ⟨(some 10), .mv (.t 9), none⟩,
      ⟨(some 11), .mv (.t 0), (some (10, true))⟩,
      ⟨(some 12), .mv (.t 2), (some (10, true))⟩,
      ⟨(some 13), .bin .leq (.t 11) (.t 12), (some (10, true))⟩,
      ⟨(some 14), .pick (.t 10) (.t 13) (.c (.v (.bool false))), none⟩,
      ⟨(some 6), .mv (.t 14), none⟩])
  (.ret))⟩
theorem A85_is : compFn Try.prog md Try.f85 = some { A85 with code := A85.code.erase } := by kernel_rfl

/-- peristyle/store.checkVersion -/
def A86 : AFn := ⟨46, [.tmp 4],
  .seq (.reg 2 [⟨(some 2), .box 0 (.t 0), none⟩,
      ⟨(some 3), .box 1 (.t 1), none⟩,
      ⟨(some 4), .mv (.c (.v (.int .i64 0))), none⟩])
  (.seq (.seq (.reg 0 [⟨(some 5), .fa 0 (.t 3), none⟩,
      ⟨(some 6), .load 1 false (.t 5), none⟩,
      ⟨(some 7), .fa 3 (.t 2), none⟩,
      ⟨(some 8), .load 1 false (.t 7), none⟩,
      ⟨(some 9), .bin .sub (.t 8) (.c (.v (.int .i64 1))), none⟩,
      ⟨(some 10), .call 0 44 [(.t 6), (.c (.v (.int .i64 1))), (.t 9)], none⟩,
      ⟨(some 11), .un .not (.t 10), none⟩,
      ⟨(some 12), .mv (.t 11), none⟩,
      ⟨(some 13), .fa 1 (.t 3), (some (12, false))⟩,
      ⟨(some 14), .load 1 false (.t 13), (some (12, false))⟩,
      ⟨(some 15), .fa 2 (.t 2), (some (12, false))⟩,
      ⟨(some 16), .load 1 false (.t 15), (some (12, false))⟩,
      ⟨(some 17), .call 0 44 [(.t 14), (.c (.v (.int .i64 1))), (.t 16)], (some (12, false))⟩,
      ⟨(some 18), .un .not (.t 17), (some (12, false))⟩,
      ⟨(some 19), .pick (.t 12) (.c (.v (.bool true))) (.t 18), none⟩])
  (.cond (.t 19)
    (.seq (.reg 0 [⟨(some 4), .mv (.c (.v (.int .i64 1))), none⟩])
    (.ret))
    (.skip)))
  (.seq (.seq (.reg 0 [⟨(some 20), .fa 2 (.t 3), none⟩,
      ⟨(some 21), .load 1 false (.t 20), none⟩,
      ⟨(some 22), .bin .neq (.t 21) (.c (.v (.int .i64 0))), none⟩,
      ⟨(some 23), .mv (.t 22), none⟩,
      ⟨(some 24), .fa 2 (.t 3), (some (23, true))⟩,
      ⟨(some 25), .load 1 false (.t 24), (some (23, true))⟩,
      ⟨(some 26), .fa 1 (.t 3), (some (23, true))⟩,
      ⟨(some 27), .load 1 false (.t 26), (some (23, true))⟩,
      ⟨(some 28), .bin .add (.t 27) (.c (.v (.int .i64 1))), (some (23, true))⟩,
      ⟨(some 29), .fa 2 (.t 2), (some (23, true))⟩,
      ⟨(some 30), .load 1 false (.t 29), (some (23, true))⟩,
      ⟨(some 31), .call 0 44 [(.t 25), (.t 28), (.t 30)], (some (23, true))⟩,
      ⟨(some 32), .un .not (.t 31), (some (23, true))⟩,
      ⟨(some 33), .mv (.t 32), (some (23, true))⟩,
      ⟨(some 34), .fa 2 (.t 3), (some (33, false))⟩,
      ⟨(some 35), .load 1 false (.t 34), (some (33, false))⟩,
      ⟨(some 36), .fa 5 (.t 2), (some (33, false))⟩,
      ⟨(some 37), .load 1 false (.t 36), (some (33, false))⟩,
      ⟨(some 38), .bin .leq (.t 35) (.t 37), (some (33, false))⟩,
      ⟨(some 39), .pick (.t 33) (.c (.v (.bool true))) (.t 38), (some (23, true))⟩,
      ⟨(some 40), .pick (.t 23) (.t 39) (.c (.v (.bool false))), none⟩])
  (.cond (.t 40)
    (.seq (.reg 0 [⟨(some 4), .mv (.c (.v (.int .i64 1))), none⟩])
    (.ret))
    (.skip)))
  (.seq (.reg 0 [⟨(some 41), .fa 0 (.t 2), none⟩,
      ⟨(some 42), .load 1 false (.t 41), none⟩,
      ⟨(some 43), .fa 3 (.t 3), none⟩,
      ⟨(some 44), .load 1 false (.t 43), none⟩,
      ⟨(some 45), .call 0 56 [(.t 42), (.t 44)], none⟩,
      ⟨(some 4), .mv (.t 45), none⟩])
  (.ret))))⟩
theorem A86_is : compFn Try.prog md Try.f86 = some { A86 with code := A86.code.erase } := by kernel_rfl

/-- peristyle/store.checkWrite -/
def A87 : AFn := ⟨47, [.tmp 8],
  .seq (.reg 2 [⟨(some 4), .box 0 (.t 0), none⟩,
      ⟨(some 6), .box 1 (.t 2), none⟩,
      ⟨(some 8), .mv (.c (.v (.int .i64 0))), none⟩])
  (.seq (.block 0
    (.seq (.reg 0 [⟨(some 10), .fa 0 (.t 6), none⟩,
        ⟨(some 11), .load 1 false (.t 10), none⟩,
        ⟨(some 12), .call 0 44 [(.t 11), (.c (.v (.int .i64 1))), (.c (.v (.int .i64 3)))], none⟩,
        ⟨(some 13), .un .not (.t 12), none⟩,
        ⟨(some 9), .mv (.t 13), none⟩])
    (.cond (.t 9)
      (.seq (.reg 0 [⟨(some 8), .mv (.c (.v (.int .i64 4))), none⟩])
      (.ret))
      (.seq (.reg 0 [⟨(some 15), .fa 0 (.t 6), none⟩,
          ⟨(some 16), .load 1 false (.t 15), none⟩,
          ⟨(some 17), .bin .eql (.t 16) (.c (.v (.int .i64 1))), none⟩,
          ⟨(some 14), .mv (.t 17), none⟩])
      (.cond (.t 14)
        (.seq (.seq (.reg 0 [⟨(some 18), .fa 1 (.t 6), none⟩,
            ⟨(some 19), .load 1 false (.t 18), none⟩,
            ⟨(some 20), .fa 3 (.t 4), none⟩,
            ⟨(some 21), .load 1 false (.t 20), none⟩,
            ⟨(some 22), .bin .sub (.t 21) (.c (.v (.int .i64 1))), none⟩,
            ⟨(some 23), .call 0 44 [(.t 19), (.c (.v (.int .i64 1))), (.t 22)], none⟩,
            ⟨(some 24), .un .not (.t 23), none⟩])
        (.cond (.t 24)
          (.seq (.reg 0 [⟨(some 8), .mv (.c (.v (.int .i64 1))), none⟩])
          (.ret))
          (.skip)))
        (.seq (.reg 0 [⟨(some 25), .mv (.t 3), none⟩,
            ⟨(some 26), .fa 1 (.t 6), none⟩,
            ⟨(some 27), .load 1 false (.t 26), none⟩,
            ⟨(some 28), .lk (.v (.bool false)) false (.t 25) (.t 27), none⟩])
        (.cond (.t 28)
          (.seq (.reg 0 [⟨(some 8), .mv (.c (.v (.int .i64 7))), none⟩])
          (.ret))
          (.skip))))
        (.seq (.reg 0 [⟨(some 30), .mv (.t 1), none⟩,
            ⟨(some 31), .fa 1 (.t 6), none⟩,
            ⟨(some 32), .load 1 false (.t 31), none⟩,
            ⟨(some 33), .call 0 97 [(.t 30), (.t 32)], none⟩,
            ⟨(some 34), .bin .lss (.t 33) (.c (.v (.int .i64 0))), none⟩,
            ⟨(some 29), .mv (.t 34), none⟩])
        (.cond (.t 29)
          (.seq (.reg 0 [⟨(some 8), .mv (.c (.v (.int .i64 6))), none⟩])
          (.ret))
          (.skip))))))))
  (.seq (.seq (.reg 0 [⟨(some 35), .fa 0 (.t 6), none⟩,
      ⟨(some 36), .load 1 false (.t 35), none⟩,
      ⟨(some 37), .bin .eql (.t 36) (.c (.v (.int .i64 2))), none⟩])
  (.cond (.t 37)
    (.seq (.seq (.reg 0 [⟨(some 38), .fa 2 (.t 6), none⟩,
        ⟨(some 39), .load 1 false (.t 38), none⟩,
        ⟨(some 40), .len false (.t 39), none⟩,
        ⟨(some 41), .bin .gtr (.t 40) (.c (.v (.int .i64 0))), none⟩])
    (.cond (.t 41)
      (.seq (.reg 0 [⟨(some 8), .mv (.c (.v (.int .i64 3))), none⟩])
      (.ret))
      (.skip)))
    (.seq (.reg 0 [⟨(some 8), .mv (.c (.v (.int .i64 0))), none⟩])
    (.ret)))
    (.skip)))
  (.seq (.reg 0 [⟨(some 42), .fa 0 (.t 4), none⟩,
      ⟨(some 43), .load 1 false (.t 42), none⟩,
      ⟨(some 44), .fa 2 (.t 6), none⟩,
      ⟨(some 45), .load 1 false (.t 44), none⟩,
      ⟨(some 46), .call 0 56 [(.t 43), (.t 45)], none⟩,
      ⟨(some 8), .mv (.t 46), none⟩])
  (.ret))))⟩
theorem A87_is : compFn Try.prog md Try.f87 = some { A87 with code := A87.code.erase } := by kernel_rfl

/-- peristyle/store.wrote -/
def A88 : AFn := ⟨39, [.tmp 4],
  .seq (.reg 1 [⟨(some 3), .box 0 (.t 1), none⟩,
      ⟨(some 4), .mv (.c .nils), none⟩])
  (.seq (.seq (.reg 0 [⟨(some 6), .fa 0 (.t 3), none⟩,
      ⟨(some 7), .load 1 false (.t 6), none⟩])
  (.block 0
    (.seq (.reg 0 [⟨(some 9), .bin .eql (.t 7) (.c (.v (.int .i64 1))), none⟩,
        ⟨(some 8), .mv (.t 9), none⟩])
    (.cond (.t 8)
      (.seq (.reg 0 [⟨(some 10), .mv (.t 0), none⟩,
          ⟨(some 11), .fa 1 (.t 3), none⟩,
          ⟨(some 12), .load 1 false (.t 11), none⟩,
          ⟨(some 13), .fa 2 (.t 3), none⟩,
          ⟨(some 14), .load 1 false (.t 13), none⟩,
          ⟨(some 15), .build [(.v (.int .i64 0)), .nils] [(0, 1, (.t 12)), (1, 1, (.t 14))], none⟩,
          ⟨(some 16), .bsl 2 1 [(.v (.int .i64 0)), .nils] [(0, (.t 15))], none⟩,
          ⟨(some 17), .app 2 32 (.t 10) (.t 16), none⟩,
          ⟨(some 4), .mv (.t 17), none⟩])
      (.ret))
      (.seq (.reg 0 [⟨(some 19), .bin .eql (.t 7) (.c (.v (.int .i64 2))), none⟩,
          ⟨(some 18), .mv (.t 19), none⟩])
      (.cond (.t 18)
        (.seq (.reg 0 [⟨(some 20), .mv (.t 0), none⟩,
            ⟨(some 21), .fa 1 (.t 3), none⟩,
            ⟨(some 22), .load 1 false (.t 21), none⟩,
            ⟨(some 23), .call 0 97 [(.t 20), (.t 22)], none⟩,
            ⟨(some 5), .mv (.t 23), none⟩])
        (.seq (.reg 0 [⟨(some 24), .mv (.t 0), none⟩,
            ⟨(some 25), .mv (.t 5), none⟩,
            ⟨(some 26), .mv (.t 5), none⟩,
            ⟨(some 27), .bin .add (.t 26) (.c (.v (.int .i64 1))), none⟩,
            ⟨(some 28), .call 1 103 [(.t 24), (.t 25), (.t 27)], none⟩,
            ⟨(some 4), .mv (.t 28), none⟩])
        (.ret)))
        (.skip)))))))
  (.seq (.dreg 0 [⟨(some 29), .mv (.t 0), none⟩,
      ⟨(some 30), .mv (.t 0), none⟩,
      ⟨(some 31), .fa 1 (.t 3), none⟩,
      ⟨(some 32), .load 1 false (.t 31), none⟩,
      ⟨(some 33), .call 0 97 [(.t 30), (.t 32)], none⟩,
      ⟨(some 34), .fa 2 (.t 3), none⟩,
      ⟨(some 35), .load 1 false (.t 34), none⟩,
      ⟨(some 36), .ia 2 (.t 29) (.t 33), none⟩,
      ⟨(some 37), .fa 1 (.t 36), none⟩,
      ⟨none, .store 1 (.t 37) (.t 35), none⟩] [(3, 6), (4, 6)])
  (.seq (.reg 0 [⟨(some 38), .mv (.t 0), none⟩,
      ⟨(some 4), .mv (.t 38), none⟩])
  (.ret))))⟩
theorem A88_is : compFn Try.prog md Try.f88 = some { A88 with code := A88.code.erase } := by kernel_rfl

/-- peristyle/peristyleref11.checkWrite -/
def A89 : AFn := ⟨50, [.tmp 8],
  .seq (.reg 2 [⟨(some 4), .box 0 (.t 0), none⟩,
      ⟨(some 7), .box 1 (.t 3), none⟩,
      ⟨(some 8), .mv (.c (.v (.int .i64 0))), none⟩])
  (.seq (.seq (.reg 0 [⟨(some 9), .fa 0 (.t 7), none⟩,
      ⟨(some 10), .load 1 false (.t 9), none⟩,
      ⟨(some 11), .call 0 47 [(.t 10), (.c (.v (.int .i64 1))), (.c (.v (.int .i64 3)))], none⟩,
      ⟨(some 12), .un .not (.t 11), none⟩])
  (.cond (.t 12)
    (.seq (.reg 0 [⟨(some 8), .mv (.c (.v (.int .i64 4))), none⟩])
    (.ret))
    (.skip)))
  (.seq (.seq (.reg 0 [⟨(some 13), .fa 0 (.t 7), none⟩,
      ⟨(some 14), .load 1 false (.t 13), none⟩,
      ⟨(some 15), .bin .eql (.t 14) (.c (.v (.int .i64 1))), none⟩])
  (.cond (.t 15)
    (.seq (.seq (.reg 0 [⟨(some 16), .fa 1 (.t 7), none⟩,
        ⟨(some 17), .load 1 false (.t 16), none⟩,
        ⟨(some 18), .fa 3 (.t 4), none⟩,
        ⟨(some 19), .load 1 false (.t 18), none⟩,
        ⟨(some 20), .bin .sub (.t 19) (.c (.v (.int .i64 1))), none⟩,
        ⟨(some 21), .call 0 47 [(.t 17), (.c (.v (.int .i64 1))), (.t 20)], none⟩,
        ⟨(some 22), .un .not (.t 21), none⟩])
    (.cond (.t 22)
      (.seq (.reg 0 [⟨(some 8), .mv (.c (.v (.int .i64 1))), none⟩])
      (.ret))
      (.skip)))
    (.seq (.reg 0 [⟨(some 23), .load 7 true (.t 4), none⟩,
        ⟨(some 24), .fa 1 (.t 7), none⟩,
        ⟨(some 25), .load 1 false (.t 24), none⟩,
        ⟨(some 26), .call 0 104 [(.t 23), (.t 25)], none⟩,
        ⟨(some 27), .mv (.t 26), none⟩,
        ⟨(some 28), .mv (.t 2), (some (27, false))⟩,
        ⟨(some 29), .fa 1 (.t 7), (some (27, false))⟩,
        ⟨(some 30), .load 1 false (.t 29), (some (27, false))⟩,
        ⟨(some 31), .call 0 105 [(.t 28), (.t 30)], (some (27, false))⟩,
        ⟨(some 32), .pick (.t 27) (.c (.v (.bool true))) (.t 31), none⟩])
    (.cond (.t 32)
      (.seq (.reg 0 [⟨(some 8), .mv (.c (.v (.int .i64 7))), none⟩])
      (.ret))
      (.skip))))
    (.seq (.reg 0 [⟨(some 33), .mv (.t 1), none⟩,
        ⟨(some 34), .fa 1 (.t 7), none⟩,
        ⟨(some 35), .load 1 false (.t 34), none⟩,
        ⟨(some 36), .call 0 98 [(.t 33), (.t 35)], none⟩,
        ⟨(some 37), .bin .lss (.t 36) (.c (.v (.int .i64 0))), none⟩])
    (.cond (.t 37)
      (.seq (.reg 0 [⟨(some 8), .mv (.c (.v (.int .i64 6))), none⟩])
      (.ret))
      (.skip)))))
  (.seq (.seq (.reg 0 [⟨(some 38), .fa 0 (.t 7), none⟩,
      ⟨(some 39), .load 1 false (.t 38), none⟩,
      ⟨(some 40), .bin .eql (.t 39) (.c (.v (.int .i64 2))), none⟩])
  (.cond (.t 40)
    (.seq (.seq (.reg 0 [⟨(some 41), .fa 2 (.t 7), none⟩,
        ⟨(some 42), .load 1 false (.t 41), none⟩,
        ⟨(some 43), .len false (.t 42), none⟩,
        ⟨(some 44), .bin .gtr (.t 43) (.c (.v (.int .i64 0))), none⟩])
    (.cond (.t 44)
      (.seq (.reg 0 [⟨(some 8), .mv (.c (.v (.int .i64 3))), none⟩])
      (.ret))
      (.skip)))
    (.seq (.reg 0 [⟨(some 8), .mv (.c (.v (.int .i64 0))), none⟩])
    (.ret)))
    (.skip)))
  (.seq (.reg 0 [⟨(some 45), .fa 0 (.t 4), none⟩,
      ⟨(some 46), .load 1 false (.t 45), none⟩,
      ⟨(some 47), .fa 2 (.t 7), none⟩,
      ⟨(some 48), .load 1 false (.t 47), none⟩,
      ⟨(some 49), .call 0 58 [(.t 46), (.t 48)], none⟩,
      ⟨(some 8), .mv (.t 49), none⟩])
  (.ret)))))⟩
theorem A89_is : compFn Try.prog md Try.f89 = some { A89 with code := A89.code.erase } := by kernel_rfl

/-- peristyle/peristyleref11.after -/
def A90M0 : List Bool := [true, false, false, true, false, true, true, false, false, false, false, false, false, false, false, false, false, false, false, false, false, false, false, false, false, false, false, false, false, false, false, false, false, false, false, false, false, false, false, false, false, false, false, false, false, false, false, false, false, false, false]
def A90L0 : AC :=
  .seq (.seq (.reg 0 [⟨(some 7), .mv (.t 6), none⟩,
      ⟨(some 8), .mv (.t 0), none⟩,
      ⟨(some 9), .len false (.t 8), none⟩,
      ⟨(some 10), .bin .lss (.t 7) (.t 9), none⟩])
  (.cond (.t 10)
    (.skip)
    (.exit 0)))
  (.seq (.block 1
    (.seq (.seq (.dreg 0 [⟨(some 13), .mv (.t 0), none⟩,
        ⟨(some 14), .mv (.t 6), none⟩,
        ⟨(some 15), .ia 2 (.t 13) (.t 14), none⟩,
        ⟨(some 16), .fa 0 (.t 15), none⟩,
        ⟨(some 17), .load 1 false (.t 16), none⟩,
        ⟨(some 18), .fa 1 (.t 3), none⟩,
        ⟨(some 19), .load 1 false (.t 18), none⟩,
        ⟨(some 20), .bin .neq (.t 17) (.t 19), none⟩] [(2, 6), (4, 6)])
    (.cond (.t 20)
      (.seq (.reg 0 [⟨(some 21), .mv (.t 5), none⟩,
          ⟨(some 22), .mv (.t 0), none⟩,
          ⟨(some 23), .mv (.t 6), none⟩,
          ⟨(some 24), .ia 2 (.t 22) (.t 23), none⟩,
          ⟨(some 25), .load 2 true (.t 24), none⟩,
          ⟨(some 26), .bsl 2 1 [(.v (.int .i64 0)), .nils] [(0, (.t 25))], none⟩,
          ⟨(some 27), .app 2 32 (.t 21) (.t 26), none⟩,
          ⟨(some 5), .mv (.t 27), none⟩])
      (.exit 1))
      (.skip)))
    (.seq (.reg 0 [⟨(some 28), .fa 0 (.t 3), none⟩,
        ⟨(some 29), .load 1 false (.t 28), none⟩,
        ⟨(some 30), .bin .eql (.t 29) (.c (.v (.int .i64 3))), none⟩])
    (.cond (.t 30)
      (.reg 0 [⟨(some 31), .mv (.t 5), none⟩,
          ⟨(some 32), .fa 1 (.t 3), none⟩,
          ⟨(some 33), .load 1 false (.t 32), none⟩,
          ⟨(some 34), .fa 2 (.t 3), none⟩,
          ⟨(some 35), .load 1 false (.t 34), none⟩,
          ⟨(some 36), .build [(.v (.int .i64 0)), .nils] [(0, 1, (.t 33)), (1, 1, (.t 35))], none⟩,
          ⟨(some 37), .bsl 2 1 [(.v (.int .i64 0)), .nils] [(0, (.t 36))], none⟩,
          ⟨(some 38), .app 2 32 (.t 31) (.t 37), none⟩,
          ⟨(some 5), .mv (.t 38), none⟩])
      (.skip)))))
  (.reg 0 [⟨(some 11), .mv (.t 6), none⟩,
      ⟨(some 12), .bin .add (.t 11) (.c (.v (.int .i64 1))), none⟩,
      ⟨(some 6), .mv (.t 12), none⟩]))
def A90 : AFn := ⟨51, [.tmp 4],
  .seq (.reg 1 [⟨(some 3), .box 0 (.t 1), none⟩,
      ⟨(some 4), .mv (.c .nils), none⟩])
  (.seq (.reg 0 [⟨(some 5), .mv (.c .nils), none⟩])
  (.seq (.seq (.reg 0 [⟨(some 6), .mv (.c (.v (.int .i64 0))), none⟩])
  (.block 0
    (.loop A90M0 A90L0)))
  (.seq (.seq (.reg 0 [⟨(some 39), .fa 0 (.t 3), none⟩,
      ⟨(some 40), .load 1 false (.t 39), none⟩,
      ⟨(some 41), .bin .eql (.t 40) (.c (.v (.int .i64 1))), none⟩])
  (.cond (.t 41)
    (.reg 0 [⟨(some 42), .mv (.t 5), none⟩,
        ⟨(some 43), .fa 1 (.t 3), none⟩,
        ⟨(some 44), .load 1 false (.t 43), none⟩,
        ⟨(some 45), .fa 2 (.t 3), none⟩,
        ⟨(some 46), .load 1 false (.t 45), none⟩,
        ⟨(some 47), .build [(.v (.int .i64 0)), .nils] [(0, 1, (.t 44)), (1, 1, (.t 46))], none⟩,
        ⟨(some 48), .bsl 2 1 [(.v (.int .i64 0)), .nils] [(0, (.t 47))], none⟩,
        ⟨(some 49), .app 2 32 (.t 42) (.t 48), none⟩,
        ⟨(some 5), .mv (.t 49), none⟩])
    (.skip)))
  (.seq (.reg 0 [⟨(some 50), .mv (.t 5), none⟩,
      ⟨(some 4), .mv (.t 50), none⟩])
  (.ret)))))⟩
/-- Live: [0, 3, 5, 6] -/
abbrev A90H0 (t0 t3 t5 t6 : AV) : List AV := [t0, .top, .top, t3, .top, t5, t6, .top, .top, .top, .top, .top, .top, .top, .top, .top, .top, .top, .top, .top, .top, .top, .top, .top, .top, .top, .top, .top, .top, .top, .top, .top, .top, .top, .top, .top, .top, .top, .top, .top, .top, .top, .top, .top, .top, .top, .top, .top, .top, .top, .top]
theorem A90M0_eq (t0 t1 t2 t3 t4 t5 t6 t7 t8 t9 t10 t11 t12 t13 t14 t15 t16 t17 t18 t19 t20 t21 t22 t23 t24 t25 t26 t27 t28 t29 t30 t31 t32 t33 t34 t35 t36 t37 t38 t39 t40 t41 t42 t43 t44 t45 t46 t47 t48 t49 t50 : AV) : mask A90M0 [t0, t1, t2, t3, t4, t5, t6, t7, t8, t9, t10, t11, t12, t13, t14, t15, t16, t17, t18, t19, t20, t21, t22, t23, t24, t25, t26, t27, t28, t29, t30, t31, t32, t33, t34, t35, t36, t37, t38, t39, t40, t41, t42, t43, t44, t45, t46, t47, t48, t49, t50] = [t0, .top, .top, t3, .top, t5, t6, .top, .top, .top, .top, .top, .top, .top, .top, .top, .top, .top, .top, .top, .top, .top, .top, .top, .top, .top, .top, .top, .top, .top, .top, .top, .top, .top, .top, .top, .top, .top, .top, .top, .top, .top, .top, .top, .top, .top, .top, .top, .top, .top, .top] := rfl
theorem A90_is : compFn Try.prog md Try.f90 = some { A90 with code := A90.code.erase } := by kernel_rfl

end Go.Pv
namespace Go.Pv
open Go Go.Proofs
set_option maxRecDepth 100000

/-- slices.Clone[[]peristyle/api.Version,peristyle/api.Version] -/
def A91 : AFn := ⟨8, [.tmp 2],
  .seq (.reg 0 [⟨(some 2), .mv (.c .nils), none⟩])
  (.seq (.seq (.reg 0 [⟨(some 3), .mv (.t 0), none⟩,
      ⟨(some 4), .nilq false (.t 3), none⟩])
  (.cond (.t 4)
    (.seq (.reg 0 [⟨(some 2), .mv (.c .nils), none⟩])
    (.ret))
    (.skip)))
  (.seq (.reg 0 [⟨(some 5), .bsl 4 0 [(.v (.int .i64 0)), (.v (.int .i64 0)), (.v (.int .i64 0)), .nils] [], none⟩,
      ⟨(some 6), .mv (.t 0), none⟩,
      ⟨(some 7), .app 4 48 (.t 5) (.t 6), none⟩,
      ⟨(some 2), .mv (.t 7), none⟩])
  (.ret)))⟩
theorem A91_is : compFn Try.prog md Try.f91 = some { A91 with code := A91.code.erase } := by kernel_rfl

/-- slices.Clone[[]peristyle/api.Trans,peristyle/api.Trans] -/
def A92 : AFn := ⟨8, [.tmp 2],
  .seq (.reg 0 [⟨(some 2), .mv (.c .nils), none⟩])
  (.seq (.seq (.reg 0 [⟨(some 3), .mv (.t 0), none⟩,
      ⟨(some 4), .nilq false (.t 3), none⟩])
  (.cond (.t 4)
    (.seq (.reg 0 [⟨(some 2), .mv (.c .nils), none⟩])
    (.ret))
    (.skip)))
  (.seq (.reg 0 [⟨(some 5), .bsl 3 0 [(.v (.int .i64 0)), (.v (.int .i64 0)), .nils] [], none⟩,
      ⟨(some 6), .mv (.t 0), none⟩,
      ⟨(some 7), .app 3 40 (.t 5) (.t 6), none⟩,
      ⟨(some 2), .mv (.t 7), none⟩])
  (.ret)))⟩
theorem A92_is : compFn Try.prog md Try.f92 = some { A92 with code := A92.code.erase } := by kernel_rfl

/-- slices.Clone[[]peristyle/api.Write,peristyle/api.Write] -/
def A93 : AFn := ⟨8, [.tmp 2],
  .seq (.reg 0 [⟨(some 2), .mv (.c .nils), none⟩])
  (.seq (.seq (.reg 0 [⟨(some 3), .mv (.t 0), none⟩,
      ⟨(some 4), .nilq false (.t 3), none⟩])
  (.cond (.t 4)
    (.seq (.reg 0 [⟨(some 2), .mv (.c .nils), none⟩])
    (.ret))
    (.skip)))
  (.seq (.reg 0 [⟨(some 5), .bsl 3 0 [(.v (.int .i64 0)), (.v (.int .i64 0)), .nils] [], none⟩,
      ⟨(some 6), .mv (.t 0), none⟩,
      ⟨(some 7), .app 3 40 (.t 5) (.t 6), none⟩,
      ⟨(some 2), .mv (.t 7), none⟩])
  (.ret)))⟩
theorem A93_is : compFn Try.prog md Try.f93 = some { A93 with code := A93.code.erase } := by kernel_rfl

/-- peristyle/store.open -/
def A94 : AFn := ⟨9, [.tmp 4],
  .seq (.reg 2 [⟨(some 2), .box 0 (.t 0), none⟩,
      ⟨(some 3), .box 1 (.t 1), none⟩,
      ⟨(some 4), .mv (.c (.v (.int .i64 0))), none⟩])
  (.seq (.reg 0 [⟨(some 5), .fa 6 (.t 2), none⟩,
      ⟨(some 6), .load 1 false (.t 5), none⟩,
      ⟨(some 7), .mkf 107 [(.t 3)], none⟩,
      ⟨(some 8), .call 2 106 [(.t 6), (.t 7)], none⟩,
      ⟨(some 4), .mv (.t 8), none⟩])
  (.ret))⟩
theorem A94_is : compFn Try.prog md Try.f94 = some { A94 with code := A94.code.erase } := by kernel_rfl

/-- peristyle/value.CheckRow -/
def A95M0 : List Bool := [true, false, false, false, false, false, false, false, false, false, false, false, false, false, false, true, true, true, false, false, false, false, false, false, false, false, false, false, false, false, false, false, false, false, false, false, false, false, false, false, false]
def A95L0 : AC :=
  .seq (.reg 0 [⟨(some 18), .bin .lss (.t 17) (.t 16), none⟩])
  (.seq (.cond (.t 18)
    (.skip)
    (.exit 0))
  (.seq (.block 1
    (.seq (.reg 1 [⟨(some 19), .mv (.t 17), none⟩,
        ⟨(some 20), .ia 3 (.t 15) (.t 17), none⟩,
        ⟨(some 21), .load 3 true (.t 20), none⟩,
        ⟨(some 6), .alloc 0 [(.v (.int .i64 0)), (.v (.int .i64 0)), (.v (.string ⟨#[]⟩))], none⟩,
        ⟨(some 5), .mv (.t 19), none⟩,
        ⟨none, .store 3 (.t 6) (.t 21), none⟩])
    (.seq (.seq (.reg 0 [⟨(some 22), .load 3 true (.t 6), none⟩,
        ⟨(some 23), .call 0 108 [(.t 22)], none⟩,
        ⟨(some 7), .mv (.t 23), none⟩])
    (.seq (.reg 0 [⟨(some 24), .mv (.t 7), none⟩,
        ⟨(some 25), .bin .neq (.t 24) (.c (.v (.int .i64 0))), none⟩])
    (.cond (.t 25)
      (.seq (.reg 0 [⟨(some 26), .mv (.t 7), none⟩,
          ⟨(some 4), .mv (.t 26), none⟩])
      (.ret))
      (.skip))))
    (.seq (.dreg 0 [⟨(some 27), .load 3 true (.t 6), none⟩,
        ⟨(some 28), .call 0 109 [(.t 27)], none⟩,
        ⟨(some 29), .un .not (.t 28), none⟩,
        ⟨(some 30), .mv (.t 29), none⟩,
        ⟨(some 31), .fa 0 (.t 6), (some (30, true))⟩,
        ⟨(some 32), .load 1 false (.t 31), (some (30, true))⟩,
        ⟨(some 33), .mv (.t 0), (some (30, true))⟩,
        ⟨(some 34), .mv (.t 5), (some (30, true))⟩,
        ⟨(some 35), .ia 2 (.t 33) (.t 34), (some (30, true))⟩,
        ⟨(some 36), .fa 1 (.t 35), (some (30, true))⟩,
        ⟨(some 37), .load 1 false (.t 36), (some (30, true))⟩,
        ⟨(some 38), .bin .neq (.t 32) (.t 37), (some (30, true))⟩,
        ⟨(some 39), .pick (.t 30) (.t 38) (.c (.v (.bool false))), none⟩] [(5, 8), (5, 10)])
    (.cond (.t 39)
      (.seq (.reg 0 [⟨(some 4), .mv (.c (.v (.int .i64 10))), none⟩])
      (.ret))
      (.skip))))))
  (.reg 0 [⟨(some 40), .bin .add (.t 17) (.c (.v (.int .i64 1))), none⟩,
      ⟨(some 17), .mv (.t 40), none⟩])))
def A95 : AFn := ⟨41, [.tmp 4],
  .seq (.reg 1 [⟨(some 3), .box 0 (.t 1), none⟩,
      ⟨(some 4), .mv (.c (.v (.int .i64 0))), none⟩])
  (.seq (.seq (.reg 0 [⟨(some 8), .fa 0 (.t 3), none⟩,
      ⟨(some 9), .load 1 false (.t 8), none⟩,
      ⟨(some 10), .len false (.t 9), none⟩,
      ⟨(some 11), .mv (.t 0), none⟩,
      ⟨(some 12), .len false (.t 11), none⟩,
      ⟨(some 13), .bin .neq (.t 10) (.t 12), none⟩])
  (.cond (.t 13)
    (.seq (.reg 0 [⟨(some 4), .mv (.c (.v (.int .i64 3))), none⟩])
    (.ret))
    (.skip)))
  (.seq (.seq (.reg 0 [⟨(some 14), .fa 0 (.t 3), none⟩,
      ⟨(some 15), .load 1 false (.t 14), none⟩,
      ⟨(some 16), .len false (.t 15), none⟩,
      ⟨(some 17), .mv (.c (.v (.int .i64 0))), none⟩])
  (.block 0
    (.loop A95M0 A95L0)))
  (.seq (.reg 0 [⟨(some 4), .mv (.c (.v (.int .i64 0))), none⟩])
  (.ret))))⟩
/-- Live: [0, 15, 16, 17] -/
abbrev A95H0 (t0 t15 t16 t17 : AV) : List AV := [t0, .top, .top, .top, .top, .top, .top, .top, .top, .top, .top, .top, .top, .top, .top, t15, t16, t17, .top, .top, .top, .top, .top, .top, .top, .top, .top, .top, .top, .top, .top, .top, .top, .top, .top, .top, .top, .top, .top, .top, .top]
theorem A95M0_eq (t0 t1 t2 t3 t4 t5 t6 t7 t8 t9 t10 t11 t12 t13 t14 t15 t16 t17 t18 t19 t20 t21 t22 t23 t24 t25 t26 t27 t28 t29 t30 t31 t32 t33 t34 t35 t36 t37 t38 t39 t40 : AV) : mask A95M0 [t0, t1, t2, t3, t4, t5, t6, t7, t8, t9, t10, t11, t12, t13, t14, t15, t16, t17, t18, t19, t20, t21, t22, t23, t24, t25, t26, t27, t28, t29, t30, t31, t32, t33, t34, t35, t36, t37, t38, t39, t40] = [t0, .top, .top, .top, .top, .top, .top, .top, .top, .top, .top, .top, .top, .top, .top, t15, t16, t17, .top, .top, .top, .top, .top, .top, .top, .top, .top, .top, .top, .top, .top, .top, .top, .top, .top, .top, .top, .top, .top, .top, .top] := rfl
theorem A95_is : compFn Try.prog md Try.f95 = some { A95 with code := A95.code.erase } := by kernel_rfl

/-- peristyle/peristyleref1.CheckRow -/
def A96M0 : List Bool := [true, false, false, true, false, true, false, false, false, false, false, false, false, false, false, false, false, false, false, false, false, false, false, false, false, false, false, false, false, false, false, false, false, false, false, false, false, false, false, false, false, false, false, false, false, false, false, false, false]
def A96L0 : AC :=
  .seq (.seq (.reg 0 [⟨(some 13), .mv (.t 5), none⟩,
      ⟨(some 14), .mv (.t 0), none⟩,
      ⟨(some 15), .len false (.t 14), none⟩,
      ⟨(some 16), .bin .lss (.t 13) (.t 15), none⟩])
  (.cond (.t 16)
    (.skip)
    (.exit 0)))
  (.seq (.block 1
    (.seq (.seq (.reg 0 [⟨(some 19), .fa 0 (.t 3), none⟩,
        ⟨(some 20), .load 1 false (.t 19), none⟩,
        ⟨(some 21), .mv (.t 5), none⟩,
        ⟨(some 22), .ia 3 (.t 20) (.t 21), none⟩,
        ⟨(some 23), .load 3 true (.t 22), none⟩,
        ⟨(some 24), .call 0 110 [(.t 23)], none⟩,
        ⟨(some 6), .mv (.t 24), none⟩])
    (.seq (.reg 0 [⟨(some 25), .mv (.t 6), none⟩,
        ⟨(some 26), .bin .neq (.t 25) (.c (.v (.int .i64 0))), none⟩])
    (.cond (.t 26)
      (.seq (.reg 0 [⟨(some 27), .mv (.t 6), none⟩,
          ⟨(some 4), .mv (.t 27), none⟩])
      (.ret))
      (.skip))))
    (.seq (.dreg 0 [⟨(some 28), .fa 0 (.t 3), none⟩,
        ⟨(some 29), .load 1 false (.t 28), none⟩,
        ⟨(some 30), .mv (.t 5), none⟩,
        ⟨(some 31), .ia 3 (.t 29) (.t 30), none⟩,
        ⟨(some 32), .fa 0 (.t 31), none⟩,
        ⟨(some 33), .load 1 false (.t 32), none⟩,
        ⟨(some 34), .bin .neq (.t 33) (.c (.v (.int .i64 0))), none⟩,
        ⟨(some 35), .mv (.t 34), none⟩,
        ⟨(some 36), .fa 0 (.t 3), (some (35, true))⟩,
        ⟨(some 37), .load 1 false (.t 36), (some (35, true))⟩,
        ⟨(some 38), .mv (.t 5), (some (35, true))⟩,
        ⟨(some 39), .ia 3 (.t 37) (.t 38), (some (35, true))⟩,
        ⟨(some 40), .fa 0 (.t 39), (some (35, true))⟩,
        ⟨(some 41), .load 1 false (.t 40), (some (35, true))⟩,
        ⟨(some 42), .mv (.t 0), (some (35, true))⟩,
        ⟨(some 43), .mv (.t 5), (some (35, true))⟩,
        ⟨(some 44), .ia 2 (.t 42) (.t 43), (some (35, true))⟩,
        ⟨(some 45), .fa 1 (.t 44), (some (35, true))⟩,
        ⟨(some 46), .load 1 false (.t 45), (some (35, true))⟩,
        ⟨(some 47), .bin .neq (.t 41) (.t 46), (some (35, true))⟩,
        ⟨(some 48), .pick (.t 35) (.t 47) (.c (.v (.bool false))), none⟩] [(9, 16), (11, 16), (13, 16), (9, 18), (11, 18), (13, 18)])
    (.cond (.t 48)
      (.seq (.reg 0 [⟨(some 4), .mv (.c (.v (.int .i64 10))), none⟩])
      (.ret))
      (.skip)))))
  (.reg 0 [⟨(some 17), .mv (.t 5), none⟩,
      ⟨(some 18), .bin .add (.t 17) (.c (.v (.int .i64 1))), none⟩,
      ⟨(some 5), .mv (.t 18), none⟩]))
def A96 : AFn := ⟨49, [.tmp 4],
  .seq (.reg 1 [⟨(some 3), .box 0 (.t 1), none⟩,
      ⟨(some 4), .mv (.c (.v (.int .i64 0))), none⟩])
  (.seq (.seq (.reg 0 [⟨(some 7), .fa 0 (.t 3), none⟩,
      ⟨(some 8), .load 1 false (.t 7), none⟩,
      ⟨(some 9), .len false (.t 8), none⟩,
      ⟨(some 10), .mv (.t 0), none⟩,
      ⟨(some 11), .len false (.t 10), none⟩,
      ⟨(some 12), .bin .neq (.t 9) (.t 11), none⟩])
  (.cond (.t 12)
    (.seq (.reg 0 [⟨(some 4), .mv (.c (.v (.int .i64 3))), none⟩])
    (.ret))
    (.skip)))
  (.seq (.seq (.reg 0 [⟨(some 5), .mv (.c (.v (.int .i64 0))), none⟩])
  (.block 0
    (.loop A96M0 A96L0)))
  (.seq (.reg 0 [⟨(some 4), .mv (.c (.v (.int .i64 0))), none⟩])
  (.ret))))⟩
/-- Live: [0, 3, 5] -/
abbrev A96H0 (t0 t3 t5 : AV) : List AV := [t0, .top, .top, t3, .top, t5, .top, .top, .top, .top, .top, .top, .top, .top, .top, .top, .top, .top, .top, .top, .top, .top, .top, .top, .top, .top, .top, .top, .top, .top, .top, .top, .top, .top, .top, .top, .top, .top, .top, .top, .top, .top, .top, .top, .top, .top, .top, .top, .top]
theorem A96M0_eq (t0 t1 t2 t3 t4 t5 t6 t7 t8 t9 t10 t11 t12 t13 t14 t15 t16 t17 t18 t19 t20 t21 t22 t23 t24 t25 t26 t27 t28 t29 t30 t31 t32 t33 t34 t35 t36 t37 t38 t39 t40 t41 t42 t43 t44 t45 t46 t47 t48 : AV) : mask A96M0 [t0, t1, t2, t3, t4, t5, t6, t7, t8, t9, t10, t11, t12, t13, t14, t15, t16, t17, t18, t19, t20, t21, t22, t23, t24, t25, t26, t27, t28, t29, t30, t31, t32, t33, t34, t35, t36, t37, t38, t39, t40, t41, t42, t43, t44, t45, t46, t47, t48] = [t0, .top, .top, t3, .top, t5, .top, .top, .top, .top, .top, .top, .top, .top, .top, .top, .top, .top, .top, .top, .top, .top, .top, .top, .top, .top, .top, .top, .top, .top, .top, .top, .top, .top, .top, .top, .top, .top, .top, .top, .top, .top, .top, .top, .top, .top, .top, .top, .top] := rfl
theorem A96_is : compFn Try.prog md Try.f96 = some { A96 with code := A96.code.erase } := by kernel_rfl

/-- peristyle/store.place -/
def A97 : AFn := ⟨8, [.tmp 4],
  .seq (.reg 1 [⟨(some 3), .box 0 (.t 1), none⟩,
      ⟨(some 4), .mv (.c (.v (.int .i64 0))), none⟩])
  (.seq (.reg 0 [⟨(some 5), .mv (.t 0), none⟩,
      ⟨(some 6), .mkf 112 [(.t 3)], none⟩,
      ⟨(some 7), .call 2 111 [(.t 5), (.t 6)], none⟩,
      ⟨(some 4), .mv (.t 7), none⟩])
  (.ret))⟩
theorem A97_is : compFn Try.prog md Try.f97 = some { A97 with code := A97.code.erase } := by kernel_rfl

/-- peristyle/peristyleref11.placeOf -/
def A98M0 : List Bool := [true, true, false, false, false, true, false, false, false, false, false, false, false, false, false, false, false, false, false, false]
def A98L0 : AC :=
  .seq (.seq (.reg 0 [⟨(some 6), .mv (.t 5), none⟩,
      ⟨(some 7), .mv (.t 0), none⟩,
      ⟨(some 8), .len false (.t 7), none⟩,
      ⟨(some 9), .bin .lss (.t 6) (.t 8), none⟩])
  (.cond (.t 9)
    (.skip)
    (.exit 0)))
  (.seq (.block 1
    (.seq (.reg 0 [⟨(some 12), .mv (.t 0), none⟩,
        ⟨(some 13), .mv (.t 5), none⟩,
        ⟨(some 14), .ia 2 (.t 12) (.t 13), none⟩,
        ⟨(some 15), .fa 0 (.t 14), none⟩,
        ⟨(some 16), .load 1 false (.t 15), none⟩,
        ⟨(some 17), .mv (.t 1), none⟩,
        ⟨(some 18), .bin .eql (.t 16) (.t 17), none⟩])
    (.cond (.t 18)
      (.seq (.reg 0 [⟨(some 19), .mv (.t 5), none⟩,
          ⟨(some 4), .mv (.t 19), none⟩])
      (.ret))
      (.skip))))
  (.reg 0 [⟨(some 10), .mv (.t 5), none⟩,
      ⟨(some 11), .bin .add (.t 10) (.c (.v (.int .i64 1))), none⟩,
      ⟨(some 5), .mv (.t 11), none⟩]))
def A98 : AFn := ⟨20, [.tmp 4],
  .seq (.reg 0 [⟨(some 4), .mv (.c (.v (.int .i64 0))), none⟩])
  (.seq (.seq (.reg 0 [⟨(some 5), .mv (.c (.v (.int .i64 0))), none⟩])
  (.block 0
    (.loop A98M0 A98L0)))
  (.seq (.reg 0 [⟨(some 4), .mv (.c (.v (.int .i64 (-1)))), none⟩])
  (.ret)))⟩
/-- Live: [0, 1, 5] -/
abbrev A98H0 (t0 t1 t5 : AV) : List AV := [t0, t1, .top, .top, .top, t5, .top, .top, .top, .top, .top, .top, .top, .top, .top, .top, .top, .top, .top, .top]
theorem A98M0_eq (t0 t1 t2 t3 t4 t5 t6 t7 t8 t9 t10 t11 t12 t13 t14 t15 t16 t17 t18 t19 : AV) : mask A98M0 [t0, t1, t2, t3, t4, t5, t6, t7, t8, t9, t10, t11, t12, t13, t14, t15, t16, t17, t18, t19] = [t0, t1, .top, .top, .top, t5, .top, .top, .top, .top, .top, .top, .top, .top, .top, .top, .top, .top, .top, .top] := rfl
theorem A98_is : compFn Try.prog md Try.f98 = some { A98 with code := A98.code.erase } := by kernel_rfl

/-- peristyle/peristyleref11.seen -/
def A99M0 : List Bool := [false, false, false, true, false, true, true, false, false, false, false, false, false, false, false, false, false, false, false, false, false, false, false, false, false, false]
def A99L0 : AC :=
  .seq (.seq (.reg 0 [⟨(some 11), .mv (.t 6), none⟩,
      ⟨(some 12), .fa 2 (.t 3), none⟩,
      ⟨(some 13), .load 1 false (.t 12), none⟩,
      ⟨(some 14), .len false (.t 13), none⟩,
      ⟨(some 15), .bin .lss (.t 11) (.t 14), none⟩])
  (.cond (.t 15)
    (.skip)
    (.exit 0)))
  (.seq (.block 1
    (.reg 0 [⟨(some 18), .mv (.t 5), none⟩,
        ⟨(some 19), .fa 2 (.t 3), none⟩,
        ⟨(some 20), .load 1 false (.t 19), none⟩,
        ⟨(some 21), .mv (.t 6), none⟩,
        ⟨(some 22), .ia 3 (.t 20) (.t 21), none⟩,
        ⟨(some 23), .load 3 true (.t 22), none⟩,
        ⟨(some 24), .call 0 90 [(.t 18), (.t 23)], none⟩,
        ⟨(some 5), .mv (.t 24), none⟩]))
  (.reg 0 [⟨(some 16), .mv (.t 6), none⟩,
      ⟨(some 17), .bin .add (.t 16) (.c (.v (.int .i64 1))), none⟩,
      ⟨(some 6), .mv (.t 17), none⟩]))
def A99 : AFn := ⟨26, [.tmp 4],
  .seq (.reg 2 [⟨(some 2), .box 0 (.t 0), none⟩,
      ⟨(some 3), .box 1 (.t 1), none⟩,
      ⟨(some 4), .mv (.c .nils), none⟩])
  (.seq (.reg 0 [⟨(some 7), .load 7 true (.t 2), none⟩,
      ⟨(some 8), .fa 1 (.t 3), none⟩,
      ⟨(some 9), .load 1 false (.t 8), none⟩,
      ⟨(some 10), .call 0 79 [(.t 7), (.t 9)], none⟩,
      ⟨(some 5), .mv (.t 10), none⟩])
  (.seq (.seq (.reg 0 [⟨(some 6), .mv (.c (.v (.int .i64 0))), none⟩])
  (.block 0
    (.loop A99M0 A99L0)))
  (.seq (.reg 0 [⟨(some 25), .mv (.t 5), none⟩,
      ⟨(some 4), .mv (.t 25), none⟩])
  (.ret))))⟩
/-- Live: [3, 5, 6] -/
abbrev A99H0 (t3 t5 t6 : AV) : List AV := [.top, .top, .top, t3, .top, t5, t6, .top, .top, .top, .top, .top, .top, .top, .top, .top, .top, .top, .top, .top, .top, .top, .top, .top, .top, .top]
theorem A99M0_eq (t0 t1 t2 t3 t4 t5 t6 t7 t8 t9 t10 t11 t12 t13 t14 t15 t16 t17 t18 t19 t20 t21 t22 t23 t24 t25 : AV) : mask A99M0 [t0, t1, t2, t3, t4, t5, t6, t7, t8, t9, t10, t11, t12, t13, t14, t15, t16, t17, t18, t19, t20, t21, t22, t23, t24, t25] = [.top, .top, .top, t3, .top, t5, t6, .top, .top, .top, .top, .top, .top, .top, .top, .top, .top, .top, .top, .top, .top, .top, .top, .top, .top, .top] := rfl
theorem A99_is : compFn Try.prog md Try.f99 = some { A99 with code := A99.code.erase } := by kernel_rfl

/-- slices.IndexFunc[[]peristyle/api.Version,peristyle/api.Version] -/
def A100M0 : List Bool := [true, true, false, false, false, false, false, true, true, false, false, false, false, false, false, false, false, false, false]
def A100L0 : AC :=
  .seq (.reg 0 [⟨(some 9), .bin .lss (.t 8) (.t 7), none⟩])
  (.seq (.cond (.t 9)
    (.skip)
    (.exit 0))
  (.seq (.block 1
    (.seq (.reg 0 [⟨(some 10), .mv (.t 8), none⟩,
        ⟨(some 5), .mv (.t 10), none⟩])
    (.seq (.reg 0 [⟨(some 11), .mv (.t 1), none⟩,
        ⟨(some 12), .mv (.t 0), none⟩,
        ⟨(some 13), .mv (.t 5), none⟩,
        ⟨(some 14), .ia 4 (.t 12) (.t 13), none⟩,
        ⟨(some 15), .load 4 true (.t 14), none⟩,
        ⟨(some 16), .callv (.t 11) [(.t 15)], none⟩])
    (.cond (.t 16)
      (.seq (.reg 0 [⟨(some 17), .mv (.t 5), none⟩,
          ⟨(some 4), .mv (.t 17), none⟩])
      (.ret))
      (.skip)))))
  (.reg 0 [⟨(some 18), .bin .add (.t 8) (.c (.v (.int .i64 1))), none⟩,
      ⟨(some 8), .mv (.t 18), none⟩])))
def A100 : AFn := ⟨19, [.tmp 4],
  .seq (.reg 0 [⟨(some 4), .mv (.c (.v (.int .i64 0))), none⟩])
  (.seq (.seq (.reg 0 [⟨(some 6), .mv (.t 0), none⟩,
      ⟨(some 7), .len false (.t 6), none⟩,
      ⟨(some 8), .mv (.c (.v (.int .i64 0))), none⟩])
  (.block 0
    (.loop A100M0 A100L0)))
  (.seq (.reg 0 [⟨(some 4), .mv (.c (.v (.int .i64 (-1)))), none⟩])
  (.ret)))⟩
/-- Live: [0, 1, 7, 8] -/
abbrev A100H0 (t0 t1 t7 t8 : AV) : List AV := [t0, t1, .top, .top, .top, .top, .top, t7, t8, .top, .top, .top, .top, .top, .top, .top, .top, .top, .top]
theorem A100M0_eq (t0 t1 t2 t3 t4 t5 t6 t7 t8 t9 t10 t11 t12 t13 t14 t15 t16 t17 t18 : AV) : mask A100M0 [t0, t1, t2, t3, t4, t5, t6, t7, t8, t9, t10, t11, t12, t13, t14, t15, t16, t17, t18] = [t0, t1, .top, .top, .top, .top, .top, t7, t8, .top, .top, .top, .top, .top, .top, .top, .top, .top, .top] := rfl
theorem A100_is : compFn Try.prog md Try.f100 = some { A100 with code := A100.code.erase } := by kernel_rfl

/-- slices.pdqsortOrdered[int] -/
def A101M0 : List Bool := [true, true, true, true, false, false, false, false, true, true, false, false, false, false, false, false, false, false, false, false, false, false, false, false, false, false, false, false, false, false, false, false, false, false, false, false, false, false, false, false, false, false, false, false, false, false, false, false, false, false, false, false, false, false, false, false, false, false, false, false, false, false, false, false, false, false, false, false, false, false, false, false, false, false, false, false, false, false, false, false, false, false, false, false, false, false, false, false, false, false, false, false, false, false, false, false, false, false, false, false, false, false, false, false, false, false, false, false, false, false, false, false, false, false, false, false, false, false, false, false, false, false, false, false, false, false, false, false, false, false, false, false, false, false]
def A101L0 : AC :=
  .block 1
    (.seq (.reg 0 [⟨(some 19), .mv (.t 2), none⟩,
        ⟨(some 20), .mv (.t 1), none⟩,
        ⟨(some 21), .bin .sub (.t 19) (.t 20), none⟩,
        ⟨(some 10), .mv (.t 21), none⟩])
    (.seq (.seq (.reg 0 [⟨(some 22), .mv (.t 10), none⟩,
        ⟨(some 23), .bin .leq (.t 22) (.c (.v (.int .i64 12))), none⟩])
    (.cond (.t 23)
      (.seq (.reg 0 [⟨(some 24), .mv (.t 0), none⟩,
          ⟨(some 25), .mv (.t 1), none⟩,
          ⟨(some 26), .mv (.t 2), none⟩,
          ⟨(some 27), .call 0 113 [(.t 24), (.t 25), (.t 26)], none⟩])
      (.ret))
      (.skip)))
    (.seq (.seq (.reg 0 [⟨(some 28), .mv (.t 3), none⟩,
        ⟨(some 29), .bin .eql (.t 28) (.c (.v (.int .i64 0))), none⟩])
    (.cond (.t 29)
      (.seq (.reg 0 [⟨(some 30), .mv (.t 0), none⟩,
          ⟨(some 31), .mv (.t 1), none⟩,
          ⟨(some 32), .mv (.t 2), none⟩,
          ⟨(some 33), .call 0 114 [(.t 30), (.t 31), (.t 32)], none⟩])
      (.ret))
      (.skip)))
    (.seq (.seq (.reg 0 [⟨(some 34), .mv (.t 8), none⟩,
        ⟨(some 35), .un .not (.t 34), none⟩])
    (.cond (.t 35)
      (.seq (.reg 0 [⟨(some 36), .mv (.t 0), none⟩,
          ⟨(some 37), .mv (.t 1), none⟩,
          ⟨(some 38), .mv (.t 2), none⟩,
          ⟨(some 39), .call 0 115 [(.t 36), (.t 37), (.t 38)], none⟩])
      (.reg 0 [⟨(some 40), .mv (.t 3), none⟩,
          ⟨(some 41), .bin .sub (.t 40) (.c (.v (.int .i64 1))), none⟩,
          ⟨(some 3), .mv (.t 41), none⟩]))
      (.skip)))
    (.seq (.reg 0 [⟨(some 43), .mv (.t 0), none⟩,
        ⟨(some 44), .mv (.t 1), none⟩,
        ⟨(some 45), .mv (.t 2), none⟩,
        ⟨(some 46), .call 0 116 [(.t 43), (.t 44), (.t 45)], none⟩,
        ⟨(some 42), .mv (.t 46), none⟩,
        ⟨(some 47), .ext 0 (.t 42), none⟩,
        ⟨(some 48), .ext 1 (.t 42), none⟩,
        ⟨(some 11), .mv (.t 47), none⟩,
        ⟨(some 12), .mv (.t 48), none⟩])
    (.seq (.seq (.reg 0 [⟨(some 49), .mv (.t 12), none⟩,
        ⟨(some 50), .bin .eql (.t 49) (.c (.v (.int .i64 2))), none⟩])
    (.cond (.t 50)
      (.seq (.reg 0 [⟨(some 51), .mv (.t 0), none⟩,
          ⟨(some 52), .mv (.t 1), none⟩,
          ⟨(some 53), .mv (.t 2), none⟩,
          ⟨(some 54), .call 0 117 [(.t 51), (.t 52), (.t 53)], none⟩])
      (.seq (.reg 0 [⟨(some 55), .mv (.t 2), none⟩,
          ⟨(some 56), .bin .sub (.t 55) (.c (.v (.int .i64 1))), none⟩,
          ⟨(some 57), .mv (.t 11), none⟩,
          ⟨(some 58), .mv (.t 1), none⟩,
          ⟨(some 59), .bin .sub (.t 57) (.t 58), none⟩,
          ⟨(some 60), .bin .sub (.t 56) (.t 59), none⟩,
          ⟨(some 11), .mv (.t 60), none⟩])
      (.reg 0 [⟨(some 12), .mv (.c (.v (.int .i64 1))), none⟩])))
      (.skip)))
    (.seq (.seq (.reg 0 [⟨(some 61), .mv (.t 8), none⟩,
        ⟨(some 62), .mv (.t 61), none⟩,
        ⟨(some 63), .mv (.t 9), (some (62, true))⟩,
        ⟨(some 64), .pick (.t 62) (.t 63) (.c (.v (.bool false))), none⟩,
        ⟨(some 65), .mv (.t 64), none⟩,
        ⟨(some 66), .mv (.t 12), (some (65, true))⟩,
        ⟨(some 67), .bin .eql (.t 66) (.c (.v (.int .i64 1))), (some (65, true))⟩,
        ⟨(some 68), .pick (.t 65) (.t 67) (.c (.v (.bool false))), none⟩])
    (.cond (.t 68)
      (.seq (.reg 0 [⟨(some 69), .mv (.t 0), none⟩,
          ⟨(some 70), .mv (.t 1), none⟩,
          ⟨(some 71), .mv (.t 2), none⟩,
          ⟨(some 72), .call 0 118 [(.t 69), (.t 70), (.t 71)], none⟩])
      (.cond (.t 72)
        (.ret)
        (.skip)))
      (.skip)))
    (.seq (.seq (.dreg 0 [⟨(some 73), .mv (.t 1), none⟩,
        ⟨(some 74), .bin .gtr (.t 73) (.c (.v (.int .i64 0))), none⟩,
        ⟨(some 75), .mv (.t 74), none⟩,
        ⟨(some 76), .mv (.t 0), (some (75, true))⟩,
        ⟨(some 77), .mv (.t 1), (some (75, true))⟩,
        ⟨(some 78), .bin .sub (.t 77) (.c (.v (.int .i64 1))), (some (75, true))⟩,
        ⟨(some 79), .ia 1 (.t 76) (.t 78), (some (75, true))⟩,
        ⟨(some 80), .load 1 false (.t 79), (some (75, true))⟩,
        ⟨(some 81), .mv (.t 0), (some (75, true))⟩,
        ⟨(some 82), .mv (.t 11), (some (75, true))⟩,
        ⟨(some 83), .ia 1 (.t 81) (.t 82), (some (75, true))⟩,
        ⟨(some 84), .load 1 false (.t 83), (some (75, true))⟩,
        ⟨(some 85), .call 0 119 [(.t 80), (.t 84)], (some (75, true))⟩,
        ⟨(some 86), .un .not (.t 85), (some (75, true))⟩,
        ⟨(some 87), .pick (.t 75) (.t 86) (.c (.v (.bool false))), none⟩] [(6, 10), (7, 10), (6, 11), (7, 11)])
    (.cond (.t 87)
      (.seq (.reg 0 [⟨(some 88), .mv (.t 0), none⟩,
          ⟨(some 89), .mv (.t 1), none⟩,
          ⟨(some 90), .mv (.t 2), none⟩,
          ⟨(some 91), .mv (.t 11), none⟩,
          ⟨(some 92), .call 0 120 [(.t 88), (.t 89), (.t 90), (.t 91)], none⟩,
          ⟨(some 13), .mv (.t 92), none⟩])
      (.seq (.reg 0 [⟨(some 93), .mv (.t 13), none⟩,
          ⟨(some 1), .mv (.t 93), none⟩])
      (.exit 1)))
      (.skip)))
    (.seq (.reg 0 [⟨(some 95), .mv (.t 0), none⟩,
        ⟨(some 96), .mv (.t 1), none⟩,
        ⟨(some 97), .mv (.t 2), none⟩,
        ⟨(some 98), .mv (.t 11), none⟩,
        ⟨(some 99), .call 0 121 [(.t 95), (.t 96), (.t 97), (.t 98)], none⟩,
        ⟨(some 94), .mv (.t 99), none⟩,
        ⟨(some 100), .ext 0 (.t 94), none⟩,
        ⟨(some 101), .ext 1 (.t 94), none⟩,
        ⟨(some 14), .mv (.t 100), none⟩,
        ⟨(some 15), .mv (.t 101), none⟩])
    (.seq (.reg 0 [⟨(some 102), .mv (.t 15), none⟩,
        ⟨(some 9), .mv (.t 102), none⟩])
    (.seq (.reg 0 [⟨(some 103), .mv (.t 14), none⟩,
        ⟨(some 104), .mv (.t 1), none⟩,
        ⟨(some 105), .bin .sub (.t 103) (.t 104), none⟩,
        ⟨(some 106), .mv (.t 2), none⟩,
        ⟨(some 107), .mv (.t 14), none⟩,
        ⟨(some 108), .bin .sub (.t 106) (.t 107), none⟩,
        ⟨(some 16), .mv (.t 105), none⟩,
        ⟨(some 17), .mv (.t 108), none⟩])
    (.seq (.reg 0 [⟨(some 109), .mv (.t 10), none⟩,
        ⟨(some 110), .bin .quo (.t 109) (.c (.v (.int .i64 8))), none⟩,
        ⟨(some 18), .mv (.t 110), none⟩])
    (.seq (.reg 0 [⟨(some 111), .mv (.t 16), none⟩,
        ⟨(some 112), .mv (.t 17), none⟩,
        ⟨(some 113), .bin .lss (.t 111) (.t 112), none⟩])
    (.cond (.t 113)
      (.seq (.reg 0 [⟨(some 114), .mv (.t 16), none⟩,
          ⟨(some 115), .mv (.t 18), none⟩,
          ⟨(some 116), .bin .geq (.t 114) (.t 115), none⟩,
          ⟨(some 8), .mv (.t 116), none⟩])
      (.seq (.reg 0 [⟨(some 117), .mv (.t 0), none⟩,
          ⟨(some 118), .mv (.t 1), none⟩,
          ⟨(some 119), .mv (.t 14), none⟩,
          ⟨(some 120), .mv (.t 3), none⟩,
          ⟨(some 121), .call 0 101 [(.t 117), (.t 118), (.t 119), (.t 120)], none⟩])
      (.reg 0 [⟨(some 122), .mv (.t 14), none⟩,
          ⟨(some 123), .bin .add (.t 122) (.c (.v (.int .i64 1))), none⟩,
          ⟨(some 1), .mv (.t 123), none⟩])))
      (.seq (.reg 0 [⟨(some 124), .mv (.t 17), none⟩,
          ⟨(some 125), .mv (.t 18), none⟩,
          ⟨(some 126), .bin .geq (.t 124) (.t 125), none⟩,
          ⟨(some 8), .mv (.t 126), none⟩])
      (.seq (.reg 0 [⟨(some 127), .mv (.t 0), none⟩,
          ⟨(some 128), .mv (.t 14), none⟩,
          ⟨(some 129), .bin .add (.t 128) (.c (.v (.int .i64 1))), none⟩,
          ⟨(some 130), .mv (.t 2), none⟩,
          ⟨(some 131), .mv (.t 3), none⟩,
          ⟨(some 132), .call 0 101 [(.t 127), (.t 129), (.t 130), (.t 131)], none⟩])
      (.reg 0 [⟨(some 133), .mv (.t 14), none⟩,
          ⟨(some 2), .mv (.t 133), none⟩])))))))))))))))))
def A101 : AFn := ⟨134, [],
  .seq (.reg 0 [⟨(some 8), .mv (.c (.v (.bool true))), none⟩])
  (.seq (.reg 0 [⟨(some 9), .mv (.c (.v (.bool true))), none⟩])
  (.block 0
    (.loop A101M0 A101L0)))⟩
/-- Live: [0, 1, 2, 3, 8, 9] -/
abbrev A101H0 (t0 t1 t2 t3 t8 t9 : AV) : List AV := [t0, t1, t2, t3, .top, .top, .top, .top, t8, t9, .top, .top, .top, .top, .top, .top, .top, .top, .top, .top, .top, .top, .top, .top, .top, .top, .top, .top, .top, .top, .top, .top, .top, .top, .top, .top, .top, .top, .top, .top, .top, .top, .top, .top, .top, .top, .top, .top, .top, .top, .top, .top, .top, .top, .top, .top, .top, .top, .top, .top, .top, .top, .top, .top, .top, .top, .top, .top, .top, .top, .top, .top, .top, .top, .top, .top, .top, .top, .top, .top, .top, .top, .top, .top, .top, .top, .top, .top, .top, .top, .top, .top, .top, .top, .top, .top, .top, .top, .top, .top, .top, .top, .top, .top, .top, .top, .top, .top, .top, .top, .top, .top, .top, .top, .top, .top, .top, .top, .top, .top, .top, .top, .top, .top, .top, .top, .top, .top, .top, .top, .top, .top, .top, .top]
theorem A101M0_eq (t0 t1 t2 t3 t4 t5 t6 t7 t8 t9 t10 t11 t12 t13 t14 t15 t16 t17 t18 t19 t20 t21 t22 t23 t24 t25 t26 t27 t28 t29 t30 t31 t32 t33 t34 t35 t36 t37 t38 t39 t40 t41 t42 t43 t44 t45 t46 t47 t48 t49 t50 t51 t52 t53 t54 t55 t56 t57 t58 t59 t60 t61 t62 t63 t64 t65 t66 t67 t68 t69 t70 t71 t72 t73 t74 t75 t76 t77 t78 t79 t80 t81 t82 t83 t84 t85 t86 t87 t88 t89 t90 t91 t92 t93 t94 t95 t96 t97 t98 t99 t100 t101 t102 t103 t104 t105 t106 t107 t108 t109 t110 t111 t112 t113 t114 t115 t116 t117 t118 t119 t120 t121 t122 t123 t124 t125 t126 t127 t128 t129 t130 t131 t132 t133 : AV) : mask A101M0 [t0, t1, t2, t3, t4, t5, t6, t7, t8, t9, t10, t11, t12, t13, t14, t15, t16, t17, t18, t19, t20, t21, t22, t23, t24, t25, t26, t27, t28, t29, t30, t31, t32, t33, t34, t35, t36, t37, t38, t39, t40, t41, t42, t43, t44, t45, t46, t47, t48, t49, t50, t51, t52, t53, t54, t55, t56, t57, t58, t59, t60, t61, t62, t63, t64, t65, t66, t67, t68, t69, t70, t71, t72, t73, t74, t75, t76, t77, t78, t79, t80, t81, t82, t83, t84, t85, t86, t87, t88, t89, t90, t91, t92, t93, t94, t95, t96, t97, t98, t99, t100, t101, t102, t103, t104, t105, t106, t107, t108, t109, t110, t111, t112, t113, t114, t115, t116, t117, t118, t119, t120, t121, t122, t123, t124, t125, t126, t127, t128, t129, t130, t131, t132, t133] = [t0, t1, t2, t3, .top, .top, .top, .top, t8, t9, .top, .top, .top, .top, .top, .top, .top, .top, .top, .top, .top, .top, .top, .top, .top, .top, .top, .top, .top, .top, .top, .top, .top, .top, .top, .top, .top, .top, .top, .top, .top, .top, .top, .top, .top, .top, .top, .top, .top, .top, .top, .top, .top, .top, .top, .top, .top, .top, .top, .top, .top, .top, .top, .top, .top, .top, .top, .top, .top, .top, .top, .top, .top, .top, .top, .top, .top, .top, .top, .top, .top, .top, .top, .top, .top, .top, .top, .top, .top, .top, .top, .top, .top, .top, .top, .top, .top, .top, .top, .top, .top, .top, .top, .top, .top, .top, .top, .top, .top, .top, .top, .top, .top, .top, .top, .top, .top, .top, .top, .top, .top, .top, .top, .top, .top, .top, .top, .top, .top, .top, .top, .top, .top, .top] := rfl
theorem A101_is : compFn Try.prog md Try.f101 = some { A101 with code := A101.code.erase } := by kernel_rfl

/-- math/bits.Len -/
def A102 : AFn := ⟨8, [.tmp 2],
  .seq (.reg 0 [⟨(some 2), .mv (.c (.v (.int .i64 0))), none⟩])
  (.seq (.cond (.c (.v (.bool false)))
    (.seq (.reg 0 [⟨(some 3), .mv (.t 0), none⟩,
        ⟨(some 4), .cvi .u32 (.t 3), none⟩,
        ⟨(some 5), .call 0 122 [(.t 4)], none⟩,
        ⟨(some 2), .mv (.t 5), none⟩])
    (.ret))
    (.skip))
  (.seq (.reg 0 [⟨(some 6), .mv (.t 0), none⟩,
      ⟨(some 7), .call 0 123 [(.t 6)], none⟩,
      ⟨(some 2), .mv (.t 7), none⟩])
  (.ret)))⟩
theorem A102_is : compFn Try.prog md Try.f102 = some { A102 with code := A102.code.erase } := by kernel_rfl

/-- slices.Delete[[]peristyle/store.seen,peristyle/store.seen] -/
def A103 : AFn := ⟨33, [.tmp 6],
  .seq (.reg 0 [⟨(some 6), .mv (.c .nils), none⟩])
  (.seq (.reg 0 [⟨(some 8), .mv (.t 0), none⟩,
      ⟨(some 9), .mv (.t 1), none⟩,
      ⟨(some 10), .mv (.t 2), none⟩,
      ⟨(some 11), .mv (.t 0), none⟩,
      ⟨(some 12), .len false (.t 11), none⟩,
      ⟨(some 13), .sl3 2 (.t 8) (.t 9) (.t 10) (.t 12), none⟩])
  (.seq (.seq (.reg 0 [⟨(some 14), .mv (.t 1), none⟩,
      ⟨(some 15), .mv (.t 2), none⟩,
      ⟨(some 16), .bin .eql (.t 14) (.t 15), none⟩])
  (.cond (.t 16)
    (.seq (.reg 0 [⟨(some 17), .mv (.t 0), none⟩,
        ⟨(some 6), .mv (.t 17), none⟩])
    (.ret))
    (.skip)))
  (.seq (.reg 0 [⟨(some 18), .mv (.t 0), none⟩,
      ⟨(some 19), .len false (.t 18), none⟩,
      ⟨(some 7), .mv (.t 19), none⟩])
  (.seq (.dreg 0 [⟨(some 20), .mv (.t 0), none⟩,
      ⟨(some 21), .mv (.t 1), none⟩,
      ⟨(some 22), .sl 2 (.t 20) none (some (.t 21)), none⟩,
      ⟨(some 23), .mv (.t 0), none⟩,
      ⟨(some 24), .mv (.t 2), none⟩,
      ⟨(some 25), .sl 2 (.t 23) (some (.t 24)) none, none⟩,
      ⟨(some 26), .app 2 32 (.t 22) (.t 25), none⟩,
      ⟨(some 0), .mv (.t 26), none⟩] [(2, 5)])
  (.seq (.reg 0 [⟨(some 27), .mv (.t 0), none⟩,
      ⟨(some 28), .mv (.t 0), none⟩,
      ⟨(some 29), .len false (.t 28), none⟩,
      ⟨(some 30), .mv (.t 7), none⟩,
      ⟨(some 31), .sl 2 (.t 27) (some (.t 29)) (some (.t 30)), none⟩,
      ⟨none, .clr 2 [(.v (.int .i64 0)), .nils] (.t 31), none⟩])
  (.seq (.reg 0 [⟨(some 32), .mv (.t 0), none⟩,
      ⟨(some 6), .mv (.t 32), none⟩])
  (.ret)))))))⟩
theorem A103_is : compFn Try.prog md Try.f103 = some { A103 with code := A103.code.erase } := by kernel_rfl

/-- peristyle/peristyleref11.hasVersion -/
def A104M0 : List Bool := [false, true, true, false, false, true, false, false, false, false, false, false, false, false, false, false, false, false, false, false, false]
def A104L0 : AC :=
  .seq (.seq (.reg 0 [⟨(some 6), .mv (.t 5), none⟩,
      ⟨(some 7), .fa 1 (.t 2), none⟩,
      ⟨(some 8), .load 1 false (.t 7), none⟩,
      ⟨(some 9), .len false (.t 8), none⟩,
      ⟨(some 10), .bin .lss (.t 6) (.t 9), none⟩])
  (.cond (.t 10)
    (.skip)
    (.exit 0)))
  (.seq (.block 1
    (.seq (.reg 0 [⟨(some 13), .fa 1 (.t 2), none⟩,
        ⟨(some 14), .load 1 false (.t 13), none⟩,
        ⟨(some 15), .mv (.t 5), none⟩,
        ⟨(some 16), .ia 4 (.t 14) (.t 15), none⟩,
        ⟨(some 17), .fa 0 (.t 16), none⟩,
        ⟨(some 18), .load 1 false (.t 17), none⟩,
        ⟨(some 19), .mv (.t 1), none⟩,
        ⟨(some 20), .bin .eql (.t 18) (.t 19), none⟩])
    (.cond (.t 20)
      (.seq (.reg 0 [⟨(some 4), .mv (.c (.v (.bool true))), none⟩])
      (.ret))
      (.skip))))
  (.reg 0 [⟨(some 11), .mv (.t 5), none⟩,
      ⟨(some 12), .bin .add (.t 11) (.c (.v (.int .i64 1))), none⟩,
      ⟨(some 5), .mv (.t 12), none⟩]))
def A104 : AFn := ⟨21, [.tmp 4],
  .seq (.reg 1 [⟨(some 2), .box 0 (.t 0), none⟩,
      ⟨(some 4), .mv (.c (.v (.bool false))), none⟩])
  (.seq (.seq (.reg 0 [⟨(some 5), .mv (.c (.v (.int .i64 0))), none⟩])
  (.block 0
    (.loop A104M0 A104L0)))
  (.seq (.reg 0 [⟨(some 4), .mv (.c (.v (.bool false))), none⟩])
  (.ret)))⟩
/-- Live: [1, 2, 5] -/
abbrev A104H0 (t1 t2 t5 : AV) : List AV := [.top, t1, t2, .top, .top, t5, .top, .top, .top, .top, .top, .top, .top, .top, .top, .top, .top, .top, .top, .top, .top]
theorem A104M0_eq (t0 t1 t2 t3 t4 t5 t6 t7 t8 t9 t10 t11 t12 t13 t14 t15 t16 t17 t18 t19 t20 : AV) : mask A104M0 [t0, t1, t2, t3, t4, t5, t6, t7, t8, t9, t10, t11, t12, t13, t14, t15, t16, t17, t18, t19, t20] = [.top, t1, t2, .top, .top, t5, .top, .top, .top, .top, .top, .top, .top, .top, .top, .top, .top, .top, .top, .top, .top] := rfl
theorem A104_is : compFn Try.prog md Try.f104 = some { A104 with code := A104.code.erase } := by kernel_rfl

/-- peristyle/peristyleref11.inserted -/
def A105M0 : List Bool := [true, true, false, false, false, true, false, false, false, false, false, false, false, false, false, false, false, false, false, false, false, false, false, false, false, false, false]
def A105L0 : AC :=
  .seq (.seq (.reg 0 [⟨(some 6), .mv (.t 5), none⟩,
      ⟨(some 7), .mv (.t 0), none⟩,
      ⟨(some 8), .len false (.t 7), none⟩,
      ⟨(some 9), .bin .lss (.t 6) (.t 8), none⟩])
  (.cond (.t 9)
    (.skip)
    (.exit 0)))
  (.seq (.block 1
    (.seq (.reg 0 [⟨(some 12), .mv (.t 0), none⟩,
        ⟨(some 13), .mv (.t 5), none⟩,
        ⟨(some 14), .ia 3 (.t 12) (.t 13), none⟩,
        ⟨(some 15), .fa 0 (.t 14), none⟩,
        ⟨(some 16), .load 1 false (.t 15), none⟩,
        ⟨(some 17), .bin .eql (.t 16) (.c (.v (.int .i64 1))), none⟩,
        ⟨(some 18), .mv (.t 17), none⟩,
        ⟨(some 19), .mv (.t 0), (some (18, true))⟩,
        ⟨(some 20), .mv (.t 5), (some (18, true))⟩,
        ⟨(some 21), .ia 3 (.t 19) (.t 20), (some (18, true))⟩,
        ⟨(some 22), .fa 1 (.t 21), (some (18, true))⟩,
        ⟨(some 23), .load 1 false (.t 22), (some (18, true))⟩,
        ⟨(some 24), .mv (.t 1), (some (18, true))⟩,
        ⟨(some 25), .bin .eql (.t 23) (.t 24), (some (18, true))⟩,
        ⟨(some 26), .pick (.t 18) (.t 25) (.c (.v (.bool false))), none⟩])
    (.cond (.t 26)
      (.seq (.reg 0 [⟨(some 4), .mv (.c (.v (.bool true))), none⟩])
      (.ret))
      (.skip))))
  (.reg 0 [⟨(some 10), .mv (.t 5), none⟩,
      ⟨(some 11), .bin .add (.t 10) (.c (.v (.int .i64 1))), none⟩,
      ⟨(some 5), .mv (.t 11), none⟩]))
def A105 : AFn := ⟨27, [.tmp 4],
  .seq (.reg 0 [⟨(some 4), .mv (.c (.v (.bool false))), none⟩])
  (.seq (.seq (.reg 0 [⟨(some 5), .mv (.c (.v (.int .i64 0))), none⟩])
  (.block 0
    (.loop A105M0 A105L0)))
  (.seq (.reg 0 [⟨(some 4), .mv (.c (.v (.bool false))), none⟩])
  (.ret)))⟩
/-- Live: [0, 1, 5] -/
abbrev A105H0 (t0 t1 t5 : AV) : List AV := [t0, t1, .top, .top, .top, t5, .top, .top, .top, .top, .top, .top, .top, .top, .top, .top, .top, .top, .top, .top, .top, .top, .top, .top, .top, .top, .top]
theorem A105M0_eq (t0 t1 t2 t3 t4 t5 t6 t7 t8 t9 t10 t11 t12 t13 t14 t15 t16 t17 t18 t19 t20 t21 t22 t23 t24 t25 t26 : AV) : mask A105M0 [t0, t1, t2, t3, t4, t5, t6, t7, t8, t9, t10, t11, t12, t13, t14, t15, t16, t17, t18, t19, t20, t21, t22, t23, t24, t25, t26] = [t0, t1, .top, .top, .top, t5, .top, .top, .top, .top, .top, .top, .top, .top, .top, .top, .top, .top, .top, .top, .top, .top, .top, .top, .top, .top, .top] := rfl
theorem A105_is : compFn Try.prog md Try.f105 = some { A105 with code := A105.code.erase } := by kernel_rfl

/-- slices.IndexFunc[[]peristyle/api.Trans,peristyle/api.Trans] -/
def A106M0 : List Bool := [true, true, false, false, false, false, false, true, true, false, false, false, false, false, false, false, false, false, false]
def A106L0 : AC :=
  .seq (.reg 0 [⟨(some 9), .bin .lss (.t 8) (.t 7), none⟩])
  (.seq (.cond (.t 9)
    (.skip)
    (.exit 0))
  (.seq (.block 1
    (.seq (.reg 0 [⟨(some 10), .mv (.t 8), none⟩,
        ⟨(some 5), .mv (.t 10), none⟩])
    (.seq (.reg 0 [⟨(some 11), .mv (.t 1), none⟩,
        ⟨(some 12), .mv (.t 0), none⟩,
        ⟨(some 13), .mv (.t 5), none⟩,
        ⟨(some 14), .ia 3 (.t 12) (.t 13), none⟩,
        ⟨(some 15), .load 3 true (.t 14), none⟩,
        ⟨(some 16), .callv (.t 11) [(.t 15)], none⟩])
    (.cond (.t 16)
      (.seq (.reg 0 [⟨(some 17), .mv (.t 5), none⟩,
          ⟨(some 4), .mv (.t 17), none⟩])
      (.ret))
      (.skip)))))
  (.reg 0 [⟨(some 18), .bin .add (.t 8) (.c (.v (.int .i64 1))), none⟩,
      ⟨(some 8), .mv (.t 18), none⟩])))
def A106 : AFn := ⟨19, [.tmp 4],
  .seq (.reg 0 [⟨(some 4), .mv (.c (.v (.int .i64 0))), none⟩])
  (.seq (.seq (.reg 0 [⟨(some 6), .mv (.t 0), none⟩,
      ⟨(some 7), .len false (.t 6), none⟩,
      ⟨(some 8), .mv (.c (.v (.int .i64 0))), none⟩])
  (.block 0
    (.loop A106M0 A106L0)))
  (.seq (.reg 0 [⟨(some 4), .mv (.c (.v (.int .i64 (-1)))), none⟩])
  (.ret)))⟩
/-- Live: [0, 1, 7, 8] -/
abbrev A106H0 (t0 t1 t7 t8 : AV) : List AV := [t0, t1, .top, .top, .top, .top, .top, t7, t8, .top, .top, .top, .top, .top, .top, .top, .top, .top, .top]
theorem A106M0_eq (t0 t1 t2 t3 t4 t5 t6 t7 t8 t9 t10 t11 t12 t13 t14 t15 t16 t17 t18 : AV) : mask A106M0 [t0, t1, t2, t3, t4, t5, t6, t7, t8, t9, t10, t11, t12, t13, t14, t15, t16, t17, t18] = [t0, t1, .top, .top, .top, .top, .top, t7, t8, .top, .top, .top, .top, .top, .top, .top, .top, .top, .top] := rfl
theorem A106_is : compFn Try.prog md Try.f106 = some { A106 with code := A106.code.erase } := by kernel_rfl

/-- peristyle/store.open$1 -/
def A107 : AFn := ⟨8, [.tmp 3],
  .seq (.reg 1 [⟨(some 2), .box 0 (.t 0), none⟩,
      ⟨(some 3), .mv (.c (.v (.bool false))), none⟩])
  (.seq (.reg 0 [⟨(some 4), .fa 0 (.t 2), none⟩,
      ⟨(some 5), .load 1 false (.t 4), none⟩,
      ⟨(some 6), .load 1 false (.t 1), none⟩,
      ⟨(some 7), .bin .eql (.t 5) (.t 6), none⟩,
      ⟨(some 3), .mv (.t 7), none⟩])
  (.ret))⟩
theorem A107_is : compFn Try.prog md Try.f107 = some { A107 with code := A107.code.erase } := by kernel_rfl

/-- peristyle/value.CheckValue -/
def A108M0 : List Bool := [false, true, false, false, false, false, false, false, false, false, false, false, false, false, false, false, false, false, false, false, false, false, false, false, false, false, false, false, false, false, false, false, false, false, false, false, false, false, false, false, false, false, true, true, false, false, false, false, false, false, false, false, false, false]
def A108L0 : AC :=
  .seq (.reg 0 [⟨(some 44), .bin .lss (.t 43) (.t 42), none⟩])
  (.seq (.cond (.t 44)
    (.skip)
    (.exit 1))
  (.seq (.block 2
    (.seq (.reg 0 [⟨(some 45), .mv (.t 43), none⟩,
        ⟨(some 3), .mv (.t 45), none⟩])
    (.seq (.reg 0 [⟨(some 46), .fa 2 (.t 1), none⟩,
        ⟨(some 47), .load 1 false (.t 46), none⟩,
        ⟨(some 48), .mv (.t 3), none⟩,
        ⟨(some 49), .ix (.t 47) (.t 48), none⟩,
        ⟨(some 50), .cvi .i64 (.t 49), none⟩,
        ⟨(some 51), .call 0 44 [(.t 50), (.c (.v (.int .i64 32))), (.c (.v (.int .i64 126)))], none⟩,
        ⟨(some 52), .un .not (.t 51), none⟩])
    (.cond (.t 52)
      (.seq (.reg 0 [⟨(some 2), .mv (.c (.v (.int .i64 3))), none⟩])
      (.ret))
      (.skip)))))
  (.reg 0 [⟨(some 53), .bin .add (.t 43) (.c (.v (.int .i64 1))), none⟩,
      ⟨(some 43), .mv (.t 53), none⟩])))
def A108 : AFn := ⟨54, [.tmp 2],
  .seq (.reg 1 [⟨(some 1), .box 0 (.t 0), none⟩,
      ⟨(some 2), .mv (.c (.v (.int .i64 0))), none⟩])
  (.seq (.seq (.reg 0 [⟨(some 4), .fa 0 (.t 1), none⟩,
      ⟨(some 5), .load 1 false (.t 4), none⟩])
  (.block 0
    (.seq (.reg 0 [⟨(some 7), .bin .eql (.t 5) (.c (.v (.int .i64 0))), none⟩,
        ⟨(some 6), .mv (.t 7), none⟩])
    (.cond (.t 6)
      (.seq (.reg 0 [⟨(some 8), .fa 1 (.t 1), none⟩,
          ⟨(some 9), .load 1 false (.t 8), none⟩,
          ⟨(some 10), .bin .neq (.t 9) (.c (.v (.int .i64 0))), none⟩,
          ⟨(some 11), .mv (.t 10), none⟩,
          ⟨(some 12), .fa 2 (.t 1), (some (11, false))⟩,
          ⟨(some 13), .load 1 false (.t 12), (some (11, false))⟩,
          ⟨(some 14), .bin .neq (.t 13) (.c (.v (.string ⟨#[]⟩))), (some (11, false))⟩,
          ⟨(some 15), .pick (.t 11) (.c (.v (.bool true))) (.t 14), none⟩])
      (.cond (.t 15)
        (.seq (.reg 0 [⟨(some 2), .mv (.c (.v (.int .i64 3))), none⟩])
        (.ret))
        (.skip)))
      (.seq (.seq (.reg 0 [⟨(some 17), .bin .eql (.t 5) (.c (.v (.int .i64 1))), none⟩,
          ⟨(some 16), .mv (.t 17), none⟩])
      (.cond (.t 16)
        (.skip)
        (.reg 0 [⟨(some 18), .bin .eql (.t 5) (.c (.v (.int .i64 2))), none⟩,
            ⟨(some 16), .mv (.t 18), none⟩])))
      (.cond (.t 16)
        (.seq (.seq (.reg 0 [⟨(some 19), .fa 2 (.t 1), none⟩,
            ⟨(some 20), .load 1 false (.t 19), none⟩,
            ⟨(some 21), .bin .neq (.t 20) (.c (.v (.string ⟨#[]⟩))), none⟩])
        (.cond (.t 21)
          (.seq (.reg 0 [⟨(some 2), .mv (.c (.v (.int .i64 3))), none⟩])
          (.ret))
          (.skip)))
        (.seq (.seq (.reg 0 [⟨(some 22), .fa 0 (.t 1), none⟩,
            ⟨(some 23), .load 1 false (.t 22), none⟩,
            ⟨(some 24), .bin .eql (.t 23) (.c (.v (.int .i64 1))), none⟩])
        (.cond (.t 24)
          (.seq (.reg 0 [⟨(some 25), .fa 1 (.t 1), none⟩,
              ⟨(some 26), .load 1 false (.t 25), none⟩,
              ⟨(some 27), .call 0 124 [(.t 26), (.c (.v (.int .i64 0))), (.c (.v (.int .i64 1)))], none⟩,
              ⟨(some 2), .mv (.t 27), none⟩])
          (.ret))
          (.skip)))
        (.seq (.reg 0 [⟨(some 28), .fa 1 (.t 1), none⟩,
            ⟨(some 29), .load 1 false (.t 28), none⟩,
            ⟨(some 30), .call 0 124 [(.t 29), (.c (.v (.int .i64 (-1000000000000000)))), (.c (.v (.int .i64 1000000000000000)))], none⟩,
            ⟨(some 2), .mv (.t 30), none⟩])
        (.ret))))
        (.seq (.reg 0 [⟨(some 32), .bin .eql (.t 5) (.c (.v (.int .i64 3))), none⟩,
            ⟨(some 31), .mv (.t 32), none⟩])
        (.cond (.t 31)
          (.seq (.seq (.reg 0 [⟨(some 33), .fa 1 (.t 1), none⟩,
              ⟨(some 34), .load 1 false (.t 33), none⟩,
              ⟨(some 35), .bin .neq (.t 34) (.c (.v (.int .i64 0))), none⟩])
          (.cond (.t 35)
            (.seq (.reg 0 [⟨(some 2), .mv (.c (.v (.int .i64 3))), none⟩])
            (.ret))
            (.skip)))
          (.seq (.seq (.reg 0 [⟨(some 36), .fa 2 (.t 1), none⟩,
              ⟨(some 37), .load 1 false (.t 36), none⟩,
              ⟨(some 38), .len true (.t 37), none⟩,
              ⟨(some 39), .bin .gtr (.t 38) (.c (.v (.int .i64 200))), none⟩])
          (.cond (.t 39)
            (.seq (.reg 0 [⟨(some 2), .mv (.c (.v (.int .i64 2))), none⟩])
            (.ret))
            (.skip)))
          (.seq (.reg 0 [⟨(some 40), .fa 2 (.t 1), none⟩,
              ⟨(some 41), .load 1 false (.t 40), none⟩,
              ⟨(some 42), .len true (.t 41), none⟩,
              ⟨(some 43), .mv (.c (.v (.int .i64 0))), none⟩])
          (.block 1
            (.loop A108M0 A108L0)))))
          (.seq (.reg 0 [⟨(some 2), .mv (.c (.v (.int .i64 4))), none⟩])
          (.ret))))))))))
  (.seq (.reg 0 [⟨(some 2), .mv (.c (.v (.int .i64 0))), none⟩])
  (.ret)))⟩
/-- Live: [1, 42, 43] -/
abbrev A108H0 (t1 t42 t43 : AV) : List AV := [.top, t1, .top, .top, .top, .top, .top, .top, .top, .top, .top, .top, .top, .top, .top, .top, .top, .top, .top, .top, .top, .top, .top, .top, .top, .top, .top, .top, .top, .top, .top, .top, .top, .top, .top, .top, .top, .top, .top, .top, .top, .top, t42, t43, .top, .top, .top, .top, .top, .top, .top, .top, .top, .top]
theorem A108M0_eq (t0 t1 t2 t3 t4 t5 t6 t7 t8 t9 t10 t11 t12 t13 t14 t15 t16 t17 t18 t19 t20 t21 t22 t23 t24 t25 t26 t27 t28 t29 t30 t31 t32 t33 t34 t35 t36 t37 t38 t39 t40 t41 t42 t43 t44 t45 t46 t47 t48 t49 t50 t51 t52 t53 : AV) : mask A108M0 [t0, t1, t2, t3, t4, t5, t6, t7, t8, t9, t10, t11, t12, t13, t14, t15, t16, t17, t18, t19, t20, t21, t22, t23, t24, t25, t26, t27, t28, t29, t30, t31, t32, t33, t34, t35, t36, t37, t38, t39, t40, t41, t42, t43, t44, t45, t46, t47, t48, t49, t50, t51, t52, t53] = [.top, t1, .top, .top, .top, .top, .top, .top, .top, .top, .top, .top, .top, .top, .top, .top, .top, .top, .top, .top, .top, .top, .top, .top, .top, .top, .top, .top, .top, .top, .top, .top, .top, .top, .top, .top, .top, .top, .top, .top, .top, .top, t42, t43, .top, .top, .top, .top, .top, .top, .top, .top, .top, .top] := rfl
theorem A108_is : compFn Try.prog md Try.f108 = some { A108 with code := A108.code.erase } := by kernel_rfl

/-- peristyle/kit.IsNull -/
def A109 : AFn := ⟨6, [.tmp 2],
  .seq (.reg 1 [⟨(some 1), .box 0 (.t 0), none⟩,
      ⟨(some 2), .mv (.c (.v (.bool false))), none⟩])
  (.seq (.reg 0 [⟨(some 3), .fa 0 (.t 1), none⟩,
      ⟨(some 4), .load 1 false (.t 3), none⟩,
      ⟨(some 5), .bin .eql (.t 4) (.c (.v (.int .i64 0))), none⟩,
      ⟨(some 2), .mv (.t 5), none⟩])
  (.ret))⟩
theorem A109_is : compFn Try.prog md Try.f109 = some { A109 with code := A109.code.erase } := by kernel_rfl

/-- peristyle/peristyleref1.CheckValue -/
def A110M0 : List Bool := [false, true, false, true, false, false, false, false, false, false, false, false, false, false, false, false, false, false, false, false, false, false, false, false, false, false, false, false, false, false, false, false, false, false, false, false, false, false, false, false, false, false, false, false, false, false, false, false, false, false, false, false, false, false, false, false, false, false, false, false, false, false, false, false, false, false, false, false, false, false, false, false, false, false]
def A110L0 : AC :=
  .seq (.seq (.reg 0 [⟨(some 55), .mv (.t 3), none⟩,
      ⟨(some 56), .fa 2 (.t 1), none⟩,
      ⟨(some 57), .load 1 false (.t 56), none⟩,
      ⟨(some 58), .len true (.t 57), none⟩,
      ⟨(some 59), .bin .lss (.t 55) (.t 58), none⟩])
  (.cond (.t 59)
    (.skip)
    (.exit 0)))
  (.seq (.block 1
    (.seq (.reg 0 [⟨(some 62), .fa 2 (.t 1), none⟩,
        ⟨(some 63), .load 1 false (.t 62), none⟩,
        ⟨(some 64), .mv (.t 3), none⟩,
        ⟨(some 65), .ix (.t 63) (.t 64), none⟩,
        ⟨(some 66), .bin .lss (.t 65) (.c (.v (.int .u8 32))), none⟩,
        ⟨(some 67), .mv (.t 66), none⟩,
        ⟨(some 68), .fa 2 (.t 1), (some (67, false))⟩,
        ⟨(some 69), .load 1 false (.t 68), (some (67, false))⟩,
        ⟨(some 70), .mv (.t 3), (some (67, false))⟩,
        ⟨(some 71), .ix (.t 69) (.t 70), (some (67, false))⟩,
        ⟨(some 72), .bin .gtr (.t 71) (.c (.v (.int .u8 126))), (some (67, false))⟩,
        ⟨(some 73), .pick (.t 67) (.c (.v (.bool true))) (.t 72), none⟩])
    (.cond (.t 73)
      (.seq (.reg 0 [⟨(some 2), .mv (.c (.v (.int .i64 3))), none⟩])
      (.ret))
      (.skip))))
  (.reg 0 [⟨(some 60), .mv (.t 3), none⟩,
      ⟨(some 61), .bin .add (.t 60) (.c (.v (.int .i64 1))), none⟩,
      ⟨(some 3), .mv (.t 61), none⟩]))
def A110 : AFn := ⟨74, [.tmp 2],
  .seq (.reg 1 [⟨(some 1), .box 0 (.t 0), none⟩,
      ⟨(some 2), .mv (.c (.v (.int .i64 0))), none⟩])
  (.seq (.seq (.reg 0 [⟨(some 4), .fa 0 (.t 1), none⟩,
      ⟨(some 5), .load 1 false (.t 4), none⟩,
      ⟨(some 6), .call 0 85 [(.t 5), (.c (.v (.int .i64 0))), (.c (.v (.int .i64 3)))], none⟩,
      ⟨(some 7), .un .not (.t 6), none⟩])
  (.cond (.t 7)
    (.seq (.reg 0 [⟨(some 2), .mv (.c (.v (.int .i64 4))), none⟩])
    (.ret))
    (.skip)))
  (.seq (.seq (.reg 0 [⟨(some 8), .fa 0 (.t 1), none⟩,
      ⟨(some 9), .load 1 false (.t 8), none⟩,
      ⟨(some 10), .bin .neq (.t 9) (.c (.v (.int .i64 1))), none⟩,
      ⟨(some 11), .mv (.t 10), none⟩,
      ⟨(some 12), .fa 0 (.t 1), (some (11, true))⟩,
      ⟨(some 13), .load 1 false (.t 12), (some (11, true))⟩,
      ⟨(some 14), .bin .neq (.t 13) (.c (.v (.int .i64 2))), (some (11, true))⟩,
      ⟨(some 15), .pick (.t 11) (.t 14) (.c (.v (.bool false))), none⟩,
      ⟨(some 16), .mv (.t 15), none⟩,
      ⟨(some 17), .fa 1 (.t 1), (some (16, true))⟩,
      ⟨(some 18), .load 1 false (.t 17), (some (16, true))⟩,
      ⟨(some 19), .bin .neq (.t 18) (.c (.v (.int .i64 0))), (some (16, true))⟩,
      ⟨(some 20), .pick (.t 16) (.t 19) (.c (.v (.bool false))), none⟩,
      ⟨(some 21), .mv (.t 20), none⟩,
      ⟨(some 22), .fa 0 (.t 1), (some (21, false))⟩,
      ⟨(some 23), .load 1 false (.t 22), (some (21, false))⟩,
      ⟨(some 24), .bin .neq (.t 23) (.c (.v (.int .i64 3))), (some (21, false))⟩,
      ⟨(some 25), .mv (.t 24), (some (21, false))⟩,
      ⟨(some 26), .fa 2 (.t 1), (some (25, true))⟩,
      ⟨(some 27), .load 1 false (.t 26), (some (25, true))⟩,
      ⟨(some 28), .bin .neq (.t 27) (.c (.v (.string ⟨#[]⟩))), (some (25, true))⟩,
      ⟨(some 29), .pick (.t 25) (.t 28) (.c (.v (.bool false))), (some (21, false))⟩,
      ⟨(some 30), .pick (.t 21) (.c (.v (.bool true))) (.t 29), none⟩])
  (.cond (.t 30)
    (.seq (.reg 0 [⟨(some 2), .mv (.c (.v (.int .i64 3))), none⟩])
    (.ret))
    (.skip)))
  (.seq (.seq (.reg 0 [⟨(some 31), .fa 0 (.t 1), none⟩,
      ⟨(some 32), .load 1 false (.t 31), none⟩,
      ⟨(some 33), .bin .eql (.t 32) (.c (.v (.int .i64 1))), none⟩,
      ⟨(some 34), .mv (.t 33), none⟩,
      ⟨(some 35), .fa 1 (.t 1), (some (34, true))⟩,
      ⟨(some 36), .load 1 false (.t 35), (some (34, true))⟩,
      ⟨(some 37), .call 0 85 [(.t 36), (.c (.v (.int .i64 0))), (.c (.v (.int .i64 1)))], (some (34, true))⟩,
      ⟨(some 38), .un .not (.t 37), (some (34, true))⟩,
      ⟨(some 39), .pick (.t 34) (.t 38) (.c (.v (.bool false))), none⟩,
      ⟨(some 40), .mv (.t 39), none⟩,
      ⟨(some 41), .fa 0 (.t 1), (some (40, false))⟩,
      ⟨(some 42), .load 1 false (.t 41), (some (40, false))⟩,
      ⟨(some 43), .bin .eql (.t 42) (.c (.v (.int .i64 2))), (some (40, false))⟩,
      ⟨(some 44), .mv (.t 43), (some (40, false))⟩,
      ⟨(some 45), .fa 1 (.t 1), (some (44, true))⟩,
      ⟨(some 46), .load 1 false (.t 45), (some (44, true))⟩,
      ⟨(some 47), .call 0 85 [(.t 46), (.c (.v (.int .i64 (-1000000000000000)))), (.c (.v (.int .i64 1000000000000000)))], (some (44, true))⟩,
      ⟨(some 48), .un .not (.t 47), (some (44, true))⟩,
      ⟨(some 49), .pick (.t 44) (.t 48) (.c (.v (.bool false))), (some (40, false))⟩,
      ⟨(some 50), .pick (.t 40) (.c (.v (.bool true))) (.t 49), none⟩])
  (.cond (.t 50)
    (.seq (.reg 0 [⟨(some 2), .mv (.c (.v (.int .i64 1))), none⟩])
    (.ret))
    (.skip)))
  (.seq (.seq (.reg 0 [⟨(some 51), .fa 2 (.t 1), none⟩,
      ⟨(some 52), .load 1 false (.t 51), none⟩,
      ⟨(some 53), .len true (.t 52), none⟩,
      ⟨(some 54), .bin .gtr (.t 53) (.c (.v (.int .i64 200))), none⟩])
  (.cond (.t 54)
    (.seq (.reg 0 [⟨(some 2), .mv (.c (.v (.int .i64 2))), none⟩])
    (.ret))
    (.skip)))
  (.seq (.seq (.reg 0 [⟨(some 3), .mv (.c (.v (.int .i64 0))), none⟩])
  (.block 0
    (.loop A110M0 A110L0)))
  (.seq (.reg 0 [⟨(some 2), .mv (.c (.v (.int .i64 0))), none⟩])
  (.ret)))))))⟩
/-- Live: [1, 3] -/
abbrev A110H0 (t1 t3 : AV) : List AV := [.top, t1, .top, t3, .top, .top, .top, .top, .top, .top, .top, .top, .top, .top, .top, .top, .top, .top, .top, .top, .top, .top, .top, .top, .top, .top, .top, .top, .top, .top, .top, .top, .top, .top, .top, .top, .top, .top, .top, .top, .top, .top, .top, .top, .top, .top, .top, .top, .top, .top, .top, .top, .top, .top, .top, .top, .top, .top, .top, .top, .top, .top, .top, .top, .top, .top, .top, .top, .top, .top, .top, .top, .top, .top]
theorem A110M0_eq (t0 t1 t2 t3 t4 t5 t6 t7 t8 t9 t10 t11 t12 t13 t14 t15 t16 t17 t18 t19 t20 t21 t22 t23 t24 t25 t26 t27 t28 t29 t30 t31 t32 t33 t34 t35 t36 t37 t38 t39 t40 t41 t42 t43 t44 t45 t46 t47 t48 t49 t50 t51 t52 t53 t54 t55 t56 t57 t58 t59 t60 t61 t62 t63 t64 t65 t66 t67 t68 t69 t70 t71 t72 t73 : AV) : mask A110M0 [t0, t1, t2, t3, t4, t5, t6, t7, t8, t9, t10, t11, t12, t13, t14, t15, t16, t17, t18, t19, t20, t21, t22, t23, t24, t25, t26, t27, t28, t29, t30, t31, t32, t33, t34, t35, t36, t37, t38, t39, t40, t41, t42, t43, t44, t45, t46, t47, t48, t49, t50, t51, t52, t53, t54, t55, t56, t57, t58, t59, t60, t61, t62, t63, t64, t65, t66, t67, t68, t69, t70, t71, t72, t73] = [.top, t1, .top, t3, .top, .top, .top, .top, .top, .top, .top, .top, .top, .top, .top, .top, .top, .top, .top, .top, .top, .top, .top, .top, .top, .top, .top, .top, .top, .top, .top, .top, .top, .top, .top, .top, .top, .top, .top, .top, .top, .top, .top, .top, .top, .top, .top, .top, .top, .top, .top, .top, .top, .top, .top, .top, .top, .top, .top, .top, .top, .top, .top, .top, .top, .top, .top, .top, .top, .top, .top, .top, .top, .top] := rfl
theorem A110_is : compFn Try.prog md Try.f110 = some { A110 with code := A110.code.erase } := by kernel_rfl

/-- slices.IndexFunc[[]peristyle/store.seen,peristyle/store.seen] -/
def A111M0 : List Bool := [true, true, false, false, false, false, false, true, true, false, false, false, false, false, false, false, false, false, false]
def A111L0 : AC :=
  .seq (.reg 0 [⟨(some 9), .bin .lss (.t 8) (.t 7), none⟩])
  (.seq (.cond (.t 9)
    (.skip)
    (.exit 0))
  (.seq (.block 1
    (.seq (.reg 0 [⟨(some 10), .mv (.t 8), none⟩,
        ⟨(some 5), .mv (.t 10), none⟩])
    (.seq (.reg 0 [⟨(some 11), .mv (.t 1), none⟩,
        ⟨(some 12), .mv (.t 0), none⟩,
        ⟨(some 13), .mv (.t 5), none⟩,
        ⟨(some 14), .ia 2 (.t 12) (.t 13), none⟩,
        ⟨(some 15), .load 2 true (.t 14), none⟩,
        ⟨(some 16), .callv (.t 11) [(.t 15)], none⟩])
    (.cond (.t 16)
      (.seq (.reg 0 [⟨(some 17), .mv (.t 5), none⟩,
          ⟨(some 4), .mv (.t 17), none⟩])
      (.ret))
      (.skip)))))
  (.reg 0 [⟨(some 18), .bin .add (.t 8) (.c (.v (.int .i64 1))), none⟩,
      ⟨(some 8), .mv (.t 18), none⟩])))
def A111 : AFn := ⟨19, [.tmp 4],
  .seq (.reg 0 [⟨(some 4), .mv (.c (.v (.int .i64 0))), none⟩])
  (.seq (.seq (.reg 0 [⟨(some 6), .mv (.t 0), none⟩,
      ⟨(some 7), .len false (.t 6), none⟩,
      ⟨(some 8), .mv (.c (.v (.int .i64 0))), none⟩])
  (.block 0
    (.loop A111M0 A111L0)))
  (.seq (.reg 0 [⟨(some 4), .mv (.c (.v (.int .i64 (-1)))), none⟩])
  (.ret)))⟩
/-- Live: [0, 1, 7, 8] -/
abbrev A111H0 (t0 t1 t7 t8 : AV) : List AV := [t0, t1, .top, .top, .top, .top, .top, t7, t8, .top, .top, .top, .top, .top, .top, .top, .top, .top, .top]
theorem A111M0_eq (t0 t1 t2 t3 t4 t5 t6 t7 t8 t9 t10 t11 t12 t13 t14 t15 t16 t17 t18 : AV) : mask A111M0 [t0, t1, t2, t3, t4, t5, t6, t7, t8, t9, t10, t11, t12, t13, t14, t15, t16, t17, t18] = [t0, t1, .top, .top, .top, .top, .top, t7, t8, .top, .top, .top, .top, .top, .top, .top, .top, .top, .top] := rfl
theorem A111_is : compFn Try.prog md Try.f111 = some { A111 with code := A111.code.erase } := by kernel_rfl

/-- peristyle/store.place$1 -/
def A112 : AFn := ⟨8, [.tmp 3],
  .seq (.reg 1 [⟨(some 2), .box 0 (.t 0), none⟩,
      ⟨(some 3), .mv (.c (.v (.bool false))), none⟩])
  (.seq (.reg 0 [⟨(some 4), .fa 0 (.t 2), none⟩,
      ⟨(some 5), .load 1 false (.t 4), none⟩,
      ⟨(some 6), .load 1 false (.t 1), none⟩,
      ⟨(some 7), .bin .eql (.t 5) (.t 6), none⟩,
      ⟨(some 3), .mv (.t 7), none⟩])
  (.ret))⟩
theorem A112_is : compFn Try.prog md Try.f112 = some { A112 with code := A112.code.erase } := by kernel_rfl

/-- peristyle/kit.Range -/
def A124 : AFn := ⟨12, [.tmp 6],
  .seq (.reg 0 [⟨(some 6), .mv (.c (.v (.int .i64 0))), none⟩])
  (.seq (.seq (.reg 0 [⟨(some 7), .mv (.t 0), none⟩,
      ⟨(some 8), .mv (.t 1), none⟩,
      ⟨(some 9), .mv (.t 2), none⟩,
      ⟨(some 10), .call 0 44 [(.t 7), (.t 8), (.t 9)], none⟩,
      ⟨(some 11), .un .not (.t 10), none⟩])
  (.cond (.t 11)
    (.seq (.reg 0 [⟨(some 6), .mv (.c (.v (.int .i64 1))), none⟩])
    (.ret))
    (.skip)))
  (.seq (.reg 0 [⟨(some 6), .mv (.c (.v (.int .i64 0))), none⟩])
  (.ret)))⟩
theorem A124_is : compFn Try.prog md Try.f124 = some { A124 with code := A124.code.erase } := by kernel_rfl

end Go.Pv