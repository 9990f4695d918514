/-
  The functions' code in the interpreter's form, second part; the table. Conditions: none.
-/
import Derived.Test.YthncjbjlnligaaaPvG
set_option linter.unusedVariables false
set_option linter.unusedSimpArgs false
namespace Go.Pv
open Go Go.Proofs
set_option maxRecDepth 100000

/-- peristyle/peristylelaw11.StoresMatchSpec -/
def A3 : AFn := ⟨88, [.tmp 6],
  .seq (.reg 1 [⟨(some 3), .box 0 (.t 0), none⟩,
      ⟨(some 6), .mv (.c (.v (.bool false))), none⟩])
  (.seq (.reg 1 [⟨(some 14), .mv (.t 1), none⟩,
      ⟨(some 15), .call 0 9 [(.t 14)], none⟩,
      ⟨(some 13), .mv (.t 15), none⟩,
      ⟨(some 16), .ext 0 (.t 13), none⟩,
      ⟨(some 17), .ext 1 (.t 13), none⟩,
      ⟨(some 7), .alloc 0 [.nils, .nils, (.v (.int .i64 0)), (.v (.int .i64 0)), (.v (.int .i64 0)), (.v (.int .i64 0)), .nils], none⟩,
      ⟨none, .store 7 (.t 7) (.t 16), none⟩,
      ⟨(some 8), .mv (.t 17), none⟩])
  (.seq (.reg 1 [⟨(some 19), .mv (.t 1), none⟩,
      ⟨(some 20), .call 0 10 [(.t 19)], none⟩,
      ⟨(some 18), .mv (.t 20), none⟩,
      ⟨(some 21), .ext 0 (.t 18), none⟩,
      ⟨(some 22), .ext 1 (.t 18), none⟩,
      ⟨(some 9), .alloc 0 [.nils, .nils, (.v (.int .i64 0)), (.v (.int .i64 0)), (.v (.int .i64 0)), (.v (.int .i64 0)), .nils], none⟩,
      ⟨none, .store 7 (.t 9) (.t 21), none⟩,
      ⟨(some 10), .mv (.t 22), none⟩])
  (.seq (.seq (.dreg 0 [⟨(some 23), .load 7 true (.t 3), none⟩,
      ⟨(some 24), .call 0 11 [(.t 23)], none⟩,
      ⟨(some 25), .load 7 true (.t 3), none⟩,
      ⟨(some 26), .call 0 12 [(.t 25)], none⟩,
      ⟨(some 27), .bin .neq (.t 24) (.t 26), none⟩,
      ⟨(some 28), .mv (.t 27), none⟩,
      ⟨(some 29), .load 7 true (.t 7), (some (28, false))⟩,
      ⟨(some 30), .load 7 true (.t 9), (some (28, false))⟩,
      ⟨(some 31), .call 0 13 [(.t 29), (.t 30)], (some (28, false))⟩,
      ⟨(some 32), .un .not (.t 31), (some (28, false))⟩,
      ⟨(some 33), .pick (.t 28) (.c (.v (.bool true))) (.t 32), none⟩,
      ⟨(some 34), .mv (.t 33), none⟩,
      ⟨(some 35), .mv (.t 8), (some (34, false))⟩,
      ⟨(some 36), .mv (.t 10), (some (34, false))⟩,
      ⟨(some 37), .bin .neq (.t 35) (.t 36), (some (34, false))⟩,
      ⟨(some 38), .pick (.t 34) (.c (.v (.bool true))) (.t 37), none⟩] [(0, 2), (1, 2), (6, 7)])
  (.cond (.t 38)
    (.seq (.reg 0 [⟨(some 6), .mv (.c (.v (.bool false))), none⟩])
    (.ret))
    (.skip)))
  (.seq (.reg 0 [⟨(some 40), .load 7 true (.t 3), none⟩,
      ⟨(some 41), .call 0 14 [(.t 40)], none⟩,
      ⟨(some 39), .mv (.t 41), none⟩,
      ⟨(some 42), .ext 0 (.t 39), none⟩,
      ⟨(some 43), .ext 1 (.t 39), none⟩,
      ⟨(some 44), .ext 2 (.t 39), none⟩,
      ⟨none, .store 7 (.t 7) (.t 42), none⟩,
      ⟨(some 11), .mv (.t 43), none⟩,
      ⟨(some 8), .mv (.t 44), none⟩])
  (.seq (.reg 0 [⟨(some 46), .load 7 true (.t 3), none⟩,
      ⟨(some 47), .call 0 15 [(.t 46)], none⟩,
      ⟨(some 45), .mv (.t 47), none⟩,
      ⟨(some 48), .ext 0 (.t 45), none⟩,
      ⟨(some 49), .ext 1 (.t 45), none⟩,
      ⟨(some 50), .ext 2 (.t 45), none⟩,
      ⟨none, .store 7 (.t 9) (.t 48), none⟩,
      ⟨(some 12), .mv (.t 49), none⟩,
      ⟨(some 10), .mv (.t 50), none⟩])
  (.seq (.seq (.reg 0 [⟨(some 51), .load 7 true (.t 7), none⟩,
      ⟨(some 52), .load 7 true (.t 9), none⟩,
      ⟨(some 53), .call 0 13 [(.t 51), (.t 52)], none⟩,
      ⟨(some 54), .un .not (.t 53), none⟩,
      ⟨(some 55), .mv (.t 54), none⟩,
      ⟨(some 56), .mv (.t 11), (some (55, false))⟩,
      ⟨(some 57), .mv (.t 12), (some (55, false))⟩,
      ⟨(some 58), .bin .neq (.t 56) (.t 57), (some (55, false))⟩,
      ⟨(some 59), .pick (.t 55) (.c (.v (.bool true))) (.t 58), none⟩,
      ⟨(some 60), .mv (.t 59), none⟩,
      ⟨(some 61), .mv (.t 8), (some (60, false))⟩,
      ⟨(some 62), .mv (.t 10), (some (60, false))⟩,
      ⟨(some 63), .bin .neq (.t 61) (.t 62), (some (60, false))⟩,
      ⟨(some 64), .pick (.t 60) (.c (.v (.bool true))) (.t 63), none⟩])
  (.cond (.t 64)
    (.seq (.reg 0 [⟨(some 6), .mv (.c (.v (.bool false))), none⟩])
    (.ret))
    (.skip)))
  (.seq (.reg 0 [⟨(some 66), .load 7 true (.t 3), none⟩,
      ⟨(some 67), .mv (.t 2), none⟩,
      ⟨(some 68), .call 0 16 [(.t 66), (.t 67)], none⟩,
      ⟨(some 65), .mv (.t 68), none⟩,
      ⟨(some 69), .ext 0 (.t 65), none⟩,
      ⟨(some 70), .ext 1 (.t 65), none⟩,
      ⟨none, .store 7 (.t 7) (.t 69), none⟩,
      ⟨(some 8), .mv (.t 70), none⟩])
  (.seq (.reg 0 [⟨(some 72), .load 7 true (.t 3), none⟩,
      ⟨(some 73), .mv (.t 2), none⟩,
      ⟨(some 74), .call 0 17 [(.t 72), (.t 73)], none⟩,
      ⟨(some 71), .mv (.t 74), none⟩,
      ⟨(some 75), .ext 0 (.t 71), none⟩,
      ⟨(some 76), .ext 1 (.t 71), none⟩,
      ⟨none, .store 7 (.t 9) (.t 75), none⟩,
      ⟨(some 10), .mv (.t 76), none⟩])
  (.seq (.reg 0 [⟨(some 77), .load 7 true (.t 7), none⟩,
      ⟨(some 78), .load 7 true (.t 9), none⟩,
      ⟨(some 79), .call 0 13 [(.t 77), (.t 78)], none⟩,
      ⟨(some 80), .mv (.t 79), none⟩,
      ⟨(some 81), .mv (.t 8), (some (80, true))⟩,
      ⟨(some 82), .mv (.t 10), (some (80, true))⟩,
      ⟨(some 83), .bin .eql (.t 81) (.t 82), (some (80, true))⟩,
      ⟨(some 84), .pick (.t 80) (.t 83) (.c (.v (.bool false))), none⟩,
      ⟨(some 85), .mv (.t 84), none⟩,
      ⟨(some 86), .call 0 18 [], (some (85, true))⟩,
      ⟨(some 87), .pick (.t 85) (.t 86) (.c (.v (.bool false))), none⟩,
      ⟨(some 6), .mv (.t 87), none⟩])
  (.ret))))))))))⟩
theorem A3_is : compFn Try.prog md Try.f3 = some { A3 with code := A3.code.erase } := by kernel_rfl

/-- peristyle/peristylelaw11.WritesMatchSpec -/
def A4 : AFn := ⟨95, [.tmp 8],
  .seq (.reg 1 [⟨(some 4), .box 0 (.t 0), none⟩,
      ⟨(some 8), .mv (.c (.v (.bool false))), none⟩])
  (.seq (.reg 1 [⟨(some 16), .load 7 true (.t 4), none⟩,
      ⟨(some 17), .mv (.t 1), none⟩,
      ⟨(some 18), .mv (.t 3), none⟩,
      ⟨(some 19), .call 0 19 [(.t 16), (.t 17), (.t 18)], none⟩,
      ⟨(some 15), .mv (.t 19), none⟩,
      ⟨(some 20), .ext 0 (.t 15), none⟩,
      ⟨(some 21), .ext 1 (.t 15), none⟩,
      ⟨(some 22), .ext 2 (.t 15), none⟩,
      ⟨(some 9), .alloc 0 [.nils, .nils, (.v (.int .i64 0)), (.v (.int .i64 0)), (.v (.int .i64 0)), (.v (.int .i64 0)), .nils], none⟩,
      ⟨none, .store 7 (.t 9) (.t 20), none⟩,
      ⟨(some 10), .mv (.t 21), none⟩,
      ⟨(some 11), .mv (.t 22), none⟩])
  (.seq (.reg 1 [⟨(some 24), .load 7 true (.t 4), none⟩,
      ⟨(some 25), .mv (.t 1), none⟩,
      ⟨(some 26), .mv (.t 3), none⟩,
      ⟨(some 27), .call 0 20 [(.t 24), (.t 25), (.t 26)], none⟩,
      ⟨(some 23), .mv (.t 27), none⟩,
      ⟨(some 28), .ext 0 (.t 23), none⟩,
      ⟨(some 29), .ext 1 (.t 23), none⟩,
      ⟨(some 30), .ext 2 (.t 23), none⟩,
      ⟨(some 12), .alloc 0 [.nils, .nils, (.v (.int .i64 0)), (.v (.int .i64 0)), (.v (.int .i64 0)), (.v (.int .i64 0)), .nils], none⟩,
      ⟨none, .store 7 (.t 12) (.t 28), none⟩,
      ⟨(some 13), .mv (.t 29), none⟩,
      ⟨(some 14), .mv (.t 30), none⟩])
  (.seq (.seq (.reg 0 [⟨(some 31), .load 7 true (.t 9), none⟩,
      ⟨(some 32), .load 7 true (.t 12), none⟩,
      ⟨(some 33), .call 0 13 [(.t 31), (.t 32)], none⟩,
      ⟨(some 34), .un .not (.t 33), none⟩,
      ⟨(some 35), .mv (.t 34), none⟩,
      ⟨(some 36), .mv (.t 10), (some (35, false))⟩,
      ⟨(some 37), .mv (.t 13), (some (35, false))⟩,
      ⟨(some 38), .bin .neq (.t 36) (.t 37), (some (35, false))⟩,
      ⟨(some 39), .pick (.t 35) (.c (.v (.bool true))) (.t 38), none⟩,
      ⟨(some 40), .mv (.t 39), none⟩,
      ⟨(some 41), .mv (.t 11), (some (40, false))⟩,
      ⟨(some 42), .mv (.t 14), (some (40, false))⟩,
      ⟨(some 43), .bin .neq (.t 41) (.t 42), (some (40, false))⟩,
      ⟨(some 44), .pick (.t 40) (.c (.v (.bool true))) (.t 43), none⟩])
  (.cond (.t 44)
    (.seq (.reg 0 [⟨(some 8), .mv (.c (.v (.bool false))), none⟩])
    (.ret))
    (.skip)))
  (.seq (.reg 0 [⟨(some 46), .load 7 true (.t 4), none⟩,
      ⟨(some 47), .mv (.t 1), none⟩,
      ⟨(some 48), .mv (.t 2), none⟩,
      ⟨(some 49), .call 0 21 [(.t 46), (.t 47), (.t 48)], none⟩,
      ⟨(some 45), .mv (.t 49), none⟩,
      ⟨(some 50), .ext 0 (.t 45), none⟩,
      ⟨(some 51), .ext 1 (.t 45), none⟩,
      ⟨none, .store 7 (.t 9) (.t 50), none⟩,
      ⟨(some 11), .mv (.t 51), none⟩])
  (.seq (.reg 0 [⟨(some 53), .load 7 true (.t 4), none⟩,
      ⟨(some 54), .mv (.t 1), none⟩,
      ⟨(some 55), .mv (.t 2), none⟩,
      ⟨(some 56), .call 0 22 [(.t 53), (.t 54), (.t 55)], none⟩,
      ⟨(some 52), .mv (.t 56), none⟩,
      ⟨(some 57), .ext 0 (.t 52), none⟩,
      ⟨(some 58), .ext 1 (.t 52), none⟩,
      ⟨none, .store 7 (.t 12) (.t 57), none⟩,
      ⟨(some 14), .mv (.t 58), none⟩])
  (.seq (.seq (.reg 0 [⟨(some 59), .load 7 true (.t 9), none⟩,
      ⟨(some 60), .load 7 true (.t 12), none⟩,
      ⟨(some 61), .call 0 13 [(.t 59), (.t 60)], none⟩,
      ⟨(some 62), .un .not (.t 61), none⟩,
      ⟨(some 63), .mv (.t 62), none⟩,
      ⟨(some 64), .mv (.t 11), (some (63, false))⟩,
      ⟨(some 65), .mv (.t 14), (some (63, false))⟩,
      ⟨(some 66), .bin .neq (.t 64) (.t 65), (some (63, false))⟩,
      ⟨(some 67), .pick (.t 63) (.c (.v (.bool true))) (.t 66), none⟩])
  (.cond (.t 67)
    (.seq (.reg 0 [⟨(some 8), .mv (.c (.v (.bool false))), none⟩])
    (.ret))
    (.skip)))
  (.seq (.reg 0 [⟨(some 69), .load 7 true (.t 4), none⟩,
      ⟨(some 70), .mv (.t 1), none⟩,
      ⟨(some 71), .mv (.t 2), none⟩,
      ⟨(some 72), .mv (.t 3), none⟩,
      ⟨(some 73), .call 0 23 [(.t 69), (.t 70), (.t 71), (.t 72)], none⟩,
      ⟨(some 68), .mv (.t 73), none⟩,
      ⟨(some 74), .ext 0 (.t 68), none⟩,
      ⟨(some 75), .ext 1 (.t 68), none⟩,
      ⟨none, .store 7 (.t 9) (.t 74), none⟩,
      ⟨(some 11), .mv (.t 75), none⟩])
  (.seq (.reg 0 [⟨(some 77), .load 7 true (.t 4), none⟩,
      ⟨(some 78), .mv (.t 1), none⟩,
      ⟨(some 79), .mv (.t 2), none⟩,
      ⟨(some 80), .mv (.t 3), none⟩,
      ⟨(some 81), .call 0 24 [(.t 77), (.t 78), (.t 79), (.t 80)], none⟩,
      ⟨(some 76), .mv (.t 81), none⟩,
      ⟨(some 82), .ext 0 (.t 76), none⟩,
      ⟨(some 83), .ext 1 (.t 76), none⟩,
      ⟨none, .store 7 (.t 12) (.t 82), none⟩,
      ⟨(some 14), .mv (.t 83), none⟩])
  (.seq (.reg 0 [⟨(some 84), .load 7 true (.t 9), none⟩,
      ⟨(some 85), .load 7 true (.t 12), none⟩,
      ⟨(some 86), .call 0 13 [(.t 84), (.t 85)], none⟩,
      ⟨(some 87), .mv (.t 86), none⟩,
      ⟨(some 88), .mv (.t 11), (some (87, true))⟩,
      ⟨(some 89), .mv (.t 14), (some (87, true))⟩,
      ⟨(some 90), .bin .eql (.t 88) (.t 89), (some (87, true))⟩,
      ⟨(some 91), .pick (.t 87) (.t 90) (.c (.v (.bool false))), none⟩,
      ⟨(some 92), .mv (.t 91), none⟩,
      ⟨(some 93), .call 0 18 [], (some (92, true))⟩,
      ⟨(some 94), .pick (.t 92) (.t 93) (.c (.v (.bool false))), none⟩,
      ⟨(some 8), .mv (.t 94), none⟩])
  (.ret))))))))))⟩
theorem A4_is : compFn Try.prog md Try.f4 = some { A4 with code := A4.code.erase } := by kernel_rfl

/-- peristyle/peristylelaw11.SweepsMatchSpec -/
def A5 : AFn := ⟨87, [.tmp 6],
  .seq (.reg 2 [⟨(some 3), .box 0 (.t 0), none⟩,
      ⟨(some 4), .box 1 (.t 1), none⟩,
      ⟨(some 6), .mv (.c (.v (.bool false))), none⟩])
  (.seq (.reg 0 [⟨(some 18), .load 7 true (.t 3), none⟩,
      ⟨(some 19), .call 0 25 [(.t 18)], none⟩,
      ⟨(some 17), .mv (.t 19), none⟩,
      ⟨(some 20), .ext 0 (.t 17), none⟩,
      ⟨(some 21), .ext 1 (.t 17), none⟩,
      ⟨(some 7), .mv (.t 20), none⟩,
      ⟨(some 8), .mv (.t 21), none⟩])
  (.seq (.reg 0 [⟨(some 23), .load 7 true (.t 3), none⟩,
      ⟨(some 24), .call 0 26 [(.t 23)], none⟩,
      ⟨(some 22), .mv (.t 24), none⟩,
      ⟨(some 25), .ext 0 (.t 22), none⟩,
      ⟨(some 26), .ext 1 (.t 22), none⟩,
      ⟨(some 9), .mv (.t 25), none⟩,
      ⟨(some 10), .mv (.t 26), none⟩])
  (.seq (.seq (.reg 0 [⟨(some 27), .mv (.t 7), none⟩,
      ⟨(some 28), .mv (.t 9), none⟩,
      ⟨(some 29), .bin .neq (.t 27) (.t 28), none⟩,
      ⟨(some 30), .mv (.t 29), none⟩,
      ⟨(some 31), .mv (.t 8), (some (30, false))⟩,
      ⟨(some 32), .mv (.t 10), (some (30, false))⟩,
      ⟨(some 33), .bin .neq (.t 31) (.t 32), (some (30, false))⟩,
      ⟨(some 34), .pick (.t 30) (.c (.v (.bool true))) (.t 33), none⟩])
  (.cond (.t 34)
    (.seq (.reg 0 [⟨(some 6), .mv (.c (.v (.bool false))), none⟩])
    (.ret))
    (.skip)))
  (.seq (.reg 1 [⟨(some 36), .load 7 true (.t 3), none⟩,
      ⟨(some 37), .mv (.t 2), none⟩,
      ⟨(some 38), .call 0 27 [(.t 36), (.t 37)], none⟩,
      ⟨(some 35), .mv (.t 38), none⟩,
      ⟨(some 39), .ext 0 (.t 35), none⟩,
      ⟨(some 40), .ext 1 (.t 35), none⟩,
      ⟨(some 41), .ext 2 (.t 35), none⟩,
      ⟨(some 11), .alloc 0 [.nils, .nils, (.v (.int .i64 0)), (.v (.int .i64 0)), (.v (.int .i64 0)), (.v (.int .i64 0)), .nils], none⟩,
      ⟨none, .store 7 (.t 11) (.t 39), none⟩,
      ⟨(some 7), .mv (.t 40), none⟩,
      ⟨(some 8), .mv (.t 41), none⟩])
  (.seq (.reg 1 [⟨(some 43), .load 7 true (.t 3), none⟩,
      ⟨(some 44), .mv (.t 2), none⟩,
      ⟨(some 45), .call 0 28 [(.t 43), (.t 44)], none⟩,
      ⟨(some 42), .mv (.t 45), none⟩,
      ⟨(some 46), .ext 0 (.t 42), none⟩,
      ⟨(some 47), .ext 1 (.t 42), none⟩,
      ⟨(some 48), .ext 2 (.t 42), none⟩,
      ⟨(some 12), .alloc 0 [.nils, .nils, (.v (.int .i64 0)), (.v (.int .i64 0)), (.v (.int .i64 0)), (.v (.int .i64 0)), .nils], none⟩,
      ⟨none, .store 7 (.t 12) (.t 46), none⟩,
      ⟨(some 9), .mv (.t 47), none⟩,
      ⟨(some 10), .mv (.t 48), none⟩])
  (.seq (.reg 0 [⟨(some 50), .load 7 true (.t 3), none⟩,
      ⟨(some 51), .load 7 true (.t 4), none⟩,
      ⟨(some 52), .call 0 29 [(.t 50), (.t 51)], none⟩,
      ⟨(some 49), .mv (.t 52), none⟩,
      ⟨(some 53), .ext 0 (.t 49), none⟩,
      ⟨(some 54), .ext 1 (.t 49), none⟩,
      ⟨(some 13), .mv (.t 53), none⟩,
      ⟨(some 14), .mv (.t 54), none⟩])
  (.seq (.reg 0 [⟨(some 56), .load 7 true (.t 3), none⟩,
      ⟨(some 57), .load 7 true (.t 4), none⟩,
      ⟨(some 58), .call 0 30 [(.t 56), (.t 57)], none⟩,
      ⟨(some 55), .mv (.t 58), none⟩,
      ⟨(some 59), .ext 0 (.t 55), none⟩,
      ⟨(some 60), .ext 1 (.t 55), none⟩,
      ⟨(some 15), .mv (.t 59), none⟩,
      ⟨(some 16), .mv (.t 60), none⟩])
  (.seq (.reg 0 [⟨(some 61), .load 7 true (.t 11), none⟩,
      ⟨(some 62), .load 7 true (.t 12), none⟩,
      ⟨(some 63), .call 0 13 [(.t 61), (.t 62)], none⟩,
      ⟨(some 64), .mv (.t 63), none⟩,
      ⟨(some 65), .mv (.t 7), (some (64, true))⟩,
      ⟨(some 66), .mv (.t 9), (some (64, true))⟩,
      ⟨(some 67), .bin .eql (.t 65) (.t 66), (some (64, true))⟩,
      ⟨(some 68), .pick (.t 64) (.t 67) (.c (.v (.bool false))), none⟩,
      ⟨(some 69), .mv (.t 68), none⟩,
      ⟨(some 70), .mv (.t 8), (some (69, true))⟩,
      ⟨(some 71), .mv (.t 10), (some (69, true))⟩,
      ⟨(some 72), .bin .eql (.t 70) (.t 71), (some (69, true))⟩,
      ⟨(some 73), .pick (.t 69) (.t 72) (.c (.v (.bool false))), none⟩,
      ⟨(some 74), .mv (.t 73), none⟩,
      ⟨(some 75), .mv (.t 13), (some (74, true))⟩,
      ⟨(some 76), .mv (.t 15), (some (74, true))⟩,
      ⟨(some 77), .beq false (.t 75) (.t 76), (some (74, true))⟩,
      ⟨(some 78), .pick (.t 74) (.t 77) (.c (.v (.bool false))), none⟩,
      ⟨(some 79), .mv (.t 78), none⟩,
      ⟨(some 80), .mv (.t 14), (some (79, true))⟩,
      ⟨(some 81), .mv (.t 16), (some (79, true))⟩,
      ⟨(some 82), .bin .eql (.t 80) (.t 81), (some (79, true))⟩,
      ⟨(some 83), .pick (.t 79) (.t 82) (.c (.v (.bool false))), none⟩,
      ⟨(some 84), .mv (.t 83), none⟩,
      ⟨(some 85), .call 0 18 [], (some (84, true))⟩,
      ⟨(some 86), .pick (.t 84) (.t 85) (.c (.v (.bool false))), none⟩,
      ⟨(some 6), .mv (.t 86), none⟩])
  (.ret)))))))))⟩
theorem A5_is : compFn Try.prog md Try.f5 = some { A5 with code := A5.code.erase } := by kernel_rfl

/-- peristyle/peristylelaw11.SweepsChangeNothing -/
def A6 : AFn := ⟨80, [.tmp 8],
  .seq (.reg 1 [⟨(some 4), .box 0 (.t 0), none⟩,
      ⟨(some 8), .mv (.c (.v (.bool false))), none⟩])
  (.seq (.reg 1 [⟨(some 18), .load 7 true (.t 4), none⟩,
      ⟨(some 19), .mv (.t 1), none⟩,
      ⟨(some 20), .call 0 27 [(.t 18), (.t 19)], none⟩,
      ⟨(some 17), .mv (.t 20), none⟩,
      ⟨(some 21), .ext 0 (.t 17), none⟩,
      ⟨(some 22), .ext 1 (.t 17), none⟩,
      ⟨(some 23), .ext 2 (.t 17), none⟩,
      ⟨(some 9), .alloc 0 [.nils, .nils, (.v (.int .i64 0)), (.v (.int .i64 0)), (.v (.int .i64 0)), (.v (.int .i64 0)), .nils], none⟩,
      ⟨none, .store 7 (.t 9) (.t 21), none⟩,
      ⟨(some 10), .mv (.t 22), none⟩,
      ⟨(some 11), .mv (.t 23), none⟩])
  (.seq (.seq (.reg 0 [⟨(some 24), .mv (.t 11), none⟩,
      ⟨(some 25), .bin .neq (.t 24) (.c (.v (.int .i64 0))), none⟩])
  (.cond (.t 25)
    (.seq (.reg 0 [⟨(some 26), .call 0 18 [], none⟩,
        ⟨(some 8), .mv (.t 26), none⟩])
    (.ret))
    (.skip)))
  (.seq (.reg 1 [⟨(some 28), .load 7 true (.t 4), none⟩,
      ⟨(some 29), .mv (.t 2), none⟩,
      ⟨(some 30), .call 0 31 [(.t 28), (.t 29)], none⟩,
      ⟨(some 27), .mv (.t 30), none⟩,
      ⟨(some 31), .ext 0 (.t 27), none⟩,
      ⟨(some 32), .ext 1 (.t 27), none⟩,
      ⟨(some 33), .ext 2 (.t 27), none⟩,
      ⟨(some 13), .alloc 0 [.nils, .nils], none⟩,
      ⟨(some 12), .mv (.t 31), none⟩,
      ⟨none, .store 2 (.t 13) (.t 32), none⟩,
      ⟨(some 11), .mv (.t 33), none⟩])
  (.seq (.reg 1 [⟨(some 35), .load 7 true (.t 9), none⟩,
      ⟨(some 36), .mv (.t 2), none⟩,
      ⟨(some 37), .call 0 31 [(.t 35), (.t 36)], none⟩,
      ⟨(some 34), .mv (.t 37), none⟩,
      ⟨(some 38), .ext 0 (.t 34), none⟩,
      ⟨(some 39), .ext 1 (.t 34), none⟩,
      ⟨(some 40), .ext 2 (.t 34), none⟩,
      ⟨(some 15), .alloc 0 [.nils, .nils], none⟩,
      ⟨(some 14), .mv (.t 38), none⟩,
      ⟨none, .store 2 (.t 15) (.t 39), none⟩,
      ⟨(some 16), .mv (.t 40), none⟩])
  (.seq (.seq (.reg 0 [⟨(some 41), .mv (.t 11), none⟩,
      ⟨(some 42), .mv (.t 16), none⟩,
      ⟨(some 43), .bin .neq (.t 41) (.t 42), none⟩,
      ⟨(some 44), .mv (.t 43), none⟩,
      ⟨(some 45), .load 2 true (.t 13), (some (44, false))⟩,
      ⟨(some 46), .load 2 true (.t 15), (some (44, false))⟩,
      ⟨(some 47), .call 0 32 [(.t 45), (.t 46)], (some (44, false))⟩,
      ⟨(some 48), .un .not (.t 47), (some (44, false))⟩,
      ⟨(some 49), .pick (.t 44) (.c (.v (.bool true))) (.t 48), none⟩])
  (.cond (.t 49)
    (.seq (.reg 0 [⟨(some 8), .mv (.c (.v (.bool false))), none⟩])
    (.ret))
    (.skip)))
  (.seq (.seq (.reg 0 [⟨(some 50), .mv (.t 3), none⟩,
      ⟨(some 51), .mv (.t 1), none⟩,
      ⟨(some 52), .fa 5 (.t 4), none⟩,
      ⟨(some 53), .load 1 false (.t 52), none⟩,
      ⟨(some 54), .mm true [(.t 51), (.t 53)], none⟩,
      ⟨(some 55), .bin .lss (.t 50) (.t 54), none⟩])
  (.cond (.t 55)
    (.seq (.reg 0 [⟨(some 56), .call 0 18 [], none⟩,
        ⟨(some 8), .mv (.t 56), none⟩])
    (.ret))
    (.skip)))
  (.seq (.reg 0 [⟨(some 58), .load 7 true (.t 4), none⟩,
      ⟨(some 59), .mv (.t 3), none⟩,
      ⟨(some 60), .call 0 33 [(.t 58), (.t 59)], none⟩,
      ⟨(some 57), .mv (.t 60), none⟩,
      ⟨(some 61), .ext 0 (.t 57), none⟩,
      ⟨(some 62), .ext 1 (.t 57), none⟩,
      ⟨none, .store 2 (.t 13) (.t 61), none⟩,
      ⟨(some 11), .mv (.t 62), none⟩])
  (.seq (.reg 0 [⟨(some 64), .load 7 true (.t 9), none⟩,
      ⟨(some 65), .mv (.t 3), none⟩,
      ⟨(some 66), .call 0 33 [(.t 64), (.t 65)], none⟩,
      ⟨(some 63), .mv (.t 66), none⟩,
      ⟨(some 67), .ext 0 (.t 63), none⟩,
      ⟨(some 68), .ext 1 (.t 63), none⟩,
      ⟨none, .store 2 (.t 15) (.t 67), none⟩,
      ⟨(some 16), .mv (.t 68), none⟩])
  (.seq (.reg 0 [⟨(some 69), .mv (.t 11), none⟩,
      ⟨(some 70), .mv (.t 16), none⟩,
      ⟨(some 71), .bin .eql (.t 69) (.t 70), none⟩,
      ⟨(some 72), .mv (.t 71), none⟩,
      ⟨(some 73), .load 2 true (.t 13), (some (72, true))⟩,
      ⟨(some 74), .load 2 true (.t 15), (some (72, true))⟩,
      ⟨(some 75), .call 0 32 [(.t 73), (.t 74)], (some (72, true))⟩,
      ⟨(some 76), .pick (.t 72) (.t 75) (.c (.v (.bool false))), none⟩,
      ⟨(some 77), .mv (.t 76), none⟩,
      ⟨(some 78), .call 0 18 [], (some (77, true))⟩,
      ⟨(some 79), .pick (.t 77) (.t 78) (.c (.v (.bool false))), none⟩,
      ⟨(some 8), .mv (.t 79), none⟩])
  (.ret))))))))))⟩
theorem A6_is : compFn Try.prog md Try.f6 = some { A6 with code := A6.code.erase } := by kernel_rfl

/-- peristyle/peristylelaw11.ChangesMakeTheLater -/
def A7M0 : List Bool := [false, true, true, false, false, false, false, true, false, true, true, false, true, true, false, false, false, false, false, false, false, false, false, false, false, false, false, false, false, false, false, false, false, false, false, false, false, false, false, false, false, false, false, false, false, false, false, false, false, false, false, false, false, false, false, false, false, false, false, false, false, false, false, false, false, false, false, false, false, false, false, false, false, false, false, false, false, false, false, false, false, false, false, false, false, false, false, false, false, false, false, false, false, false, false, false, false, false, false, false, false, false, false, false, false]
def A7L0 : AC :=
  .seq (.seq (.reg 0 [⟨(some 48), .mv (.t 13), none⟩,
      ⟨(some 49), .mv (.t 7), none⟩,
      ⟨(some 50), .len false (.t 49), none⟩,
      ⟨(some 51), .bin .lss (.t 48) (.t 50), none⟩])
  (.cond (.t 51)
    (.skip)
    (.exit 0)))
  (.seq (.block 1
    (.seq (.seq (.dreg 0 [⟨(some 54), .mv (.t 13), none⟩,
        ⟨(some 55), .bin .gtr (.t 54) (.c (.v (.int .i64 0))), none⟩,
        ⟨(some 56), .mv (.t 55), none⟩,
        ⟨(some 57), .mv (.t 7), (some (56, true))⟩,
        ⟨(some 58), .mv (.t 13), (some (56, true))⟩,
        ⟨(some 59), .ia 3 (.t 57) (.t 58), (some (56, true))⟩,
        ⟨(some 60), .fa 1 (.t 59), (some (56, true))⟩,
        ⟨(some 61), .load 1 false (.t 60), (some (56, true))⟩,
        ⟨(some 62), .mv (.t 7), (some (56, true))⟩,
        ⟨(some 63), .mv (.t 13), (some (56, true))⟩,
        ⟨(some 64), .bin .sub (.t 63) (.c (.v (.int .i64 1))), (some (56, true))⟩,
        ⟨(some 65), .ia 3 (.t 62) (.t 64), (some (56, true))⟩,
        ⟨(some 66), .fa 1 (.t 65), (some (56, true))⟩,
        ⟨(some 67), .load 1 false (.t 66), (some (56, true))⟩,
        ⟨(some 68), .bin .leq (.t 61) (.t 67), (some (56, true))⟩,
        ⟨(some 69), .pick (.t 56) (.t 68) (.c (.v (.bool false))), none⟩] [(5, 11), (7, 11), (5, 13), (7, 13)])
    (.cond (.t 69)
      (.seq (.reg 0 [⟨(some 6), .mv (.c (.v (.bool false))), none⟩])
      (.ret))
      (.skip)))
    (.seq (.reg 0 [⟨(some 70), .mv (.t 7), none⟩,
        ⟨(some 71), .mv (.t 13), none⟩,
        ⟨(some 72), .ia 3 (.t 70) (.t 71), none⟩,
        ⟨(some 73), .fa 0 (.t 72), none⟩,
        ⟨(some 74), .load 1 false (.t 73), none⟩])
    (.block 2
      (.seq (.reg 0 [⟨(some 76), .bin .eql (.t 74) (.c (.v (.int .i64 1))), none⟩,
          ⟨(some 75), .mv (.t 76), none⟩])
      (.cond (.t 75)
        (.reg 0 [⟨(some 77), .mv (.t 12), none⟩,
            ⟨(some 78), .bin .add (.t 77) (.c (.v (.int .i64 1))), none⟩,
            ⟨(some 12), .mv (.t 78), none⟩])
        (.seq (.reg 0 [⟨(some 80), .bin .eql (.t 74) (.c (.v (.int .i64 2))), none⟩,
            ⟨(some 79), .mv (.t 80), none⟩])
        (.cond (.t 79)
          (.reg 0 [⟨(some 81), .mv (.t 12), none⟩,
              ⟨(some 82), .bin .sub (.t 81) (.c (.v (.int .i64 1))), none⟩,
              ⟨(some 12), .mv (.t 82), none⟩])
          (.skip)))))))))
  (.reg 0 [⟨(some 52), .mv (.t 13), none⟩,
      ⟨(some 53), .bin .add (.t 52) (.c (.v (.int .i64 1))), none⟩,
      ⟨(some 13), .mv (.t 53), none⟩]))
def A7 : AFn := ⟨105, [.tmp 6],
  .seq (.reg 1 [⟨(some 3), .box 0 (.t 0), none⟩,
      ⟨(some 6), .mv (.c (.v (.bool false))), none⟩])
  (.seq (.reg 0 [⟨(some 15), .load 7 true (.t 3), none⟩,
      ⟨(some 16), .mv (.t 1), none⟩,
      ⟨(some 17), .mv (.t 2), none⟩,
      ⟨(some 18), .call 0 34 [(.t 15), (.t 16), (.t 17)], none⟩,
      ⟨(some 14), .mv (.t 18), none⟩,
      ⟨(some 19), .ext 0 (.t 14), none⟩,
      ⟨(some 20), .ext 1 (.t 14), none⟩,
      ⟨(some 7), .mv (.t 19), none⟩,
      ⟨(some 8), .mv (.t 20), none⟩])
  (.seq (.seq (.reg 0 [⟨(some 21), .mv (.t 8), none⟩,
      ⟨(some 22), .bin .neq (.t 21) (.c (.v (.int .i64 0))), none⟩])
  (.cond (.t 22)
    (.seq (.reg 0 [⟨(some 23), .mv (.t 7), none⟩,
        ⟨(some 24), .len false (.t 23), none⟩,
        ⟨(some 25), .bin .eql (.t 24) (.c (.v (.int .i64 0))), none⟩,
        ⟨(some 26), .mv (.t 25), none⟩,
        ⟨(some 27), .call 0 18 [], (some (26, true))⟩,
        ⟨(some 28), .pick (.t 26) (.t 27) (.c (.v (.bool false))), none⟩,
        ⟨(some 6), .mv (.t 28), none⟩])
    (.ret))
    (.skip)))
  (.seq (.reg 1 [⟨(some 30), .load 7 true (.t 3), none⟩,
      ⟨(some 31), .mv (.t 1), none⟩,
      ⟨(some 32), .call 0 33 [(.t 30), (.t 31)], none⟩,
      ⟨(some 29), .mv (.t 32), none⟩,
      ⟨(some 33), .ext 0 (.t 29), none⟩,
      ⟨(some 34), .ext 1 (.t 29), none⟩,
      ⟨(some 9), .alloc 0 [.nils, .nils], none⟩,
      ⟨none, .store 2 (.t 9) (.t 33), none⟩,
      ⟨(some 8), .mv (.t 34), none⟩])
  (.seq (.reg 1 [⟨(some 36), .load 7 true (.t 3), none⟩,
      ⟨(some 37), .mv (.t 2), none⟩,
      ⟨(some 38), .call 0 33 [(.t 36), (.t 37)], none⟩,
      ⟨(some 35), .mv (.t 38), none⟩,
      ⟨(some 39), .ext 0 (.t 35), none⟩,
      ⟨(some 40), .ext 1 (.t 35), none⟩,
      ⟨(some 10), .alloc 0 [.nils, .nils], none⟩,
      ⟨none, .store 2 (.t 10) (.t 39), none⟩,
      ⟨(some 11), .mv (.t 40), none⟩])
  (.seq (.seq (.reg 0 [⟨(some 41), .mv (.t 8), none⟩,
      ⟨(some 42), .bin .neq (.t 41) (.c (.v (.int .i64 0))), none⟩,
      ⟨(some 43), .mv (.t 42), none⟩,
      ⟨(some 44), .mv (.t 11), (some (43, false))⟩,
      ⟨(some 45), .bin .neq (.t 44) (.c (.v (.int .i64 0))), (some (43, false))⟩,
      ⟨(some 46), .pick (.t 43) (.c (.v (.bool true))) (.t 45), none⟩])
  (.cond (.t 46)
    (.seq (.reg 0 [⟨(some 47), .call 0 18 [], none⟩,
        ⟨(some 6), .mv (.t 47), none⟩])
    (.ret))
    (.skip)))
  (.seq (.reg 0 [⟨(some 12), .mv (.c (.v (.int .i64 0))), none⟩])
  (.seq (.seq (.reg 0 [⟨(some 13), .mv (.c (.v (.int .i64 0))), none⟩])
  (.block 0
    (.loop A7M0 A7L0)))
  (.seq (.reg 0 [⟨(some 83), .fa 1 (.t 9), none⟩,
      ⟨(some 84), .load 1 false (.t 83), none⟩,
      ⟨(some 85), .len false (.t 84), none⟩,
      ⟨(some 86), .mv (.t 12), none⟩,
      ⟨(some 87), .bin .add (.t 85) (.t 86), none⟩,
      ⟨(some 88), .fa 1 (.t 10), none⟩,
      ⟨(some 89), .load 1 false (.t 88), none⟩,
      ⟨(some 90), .len false (.t 89), none⟩,
      ⟨(some 91), .bin .eql (.t 87) (.t 90), none⟩,
      ⟨(some 92), .mv (.t 91), none⟩,
      ⟨(some 93), .mv (.t 1), (some (92, true))⟩,
      ⟨(some 94), .mv (.t 2), (some (92, true))⟩,
      ⟨(some 95), .bin .neq (.t 93) (.t 94), (some (92, true))⟩,
      ⟨(some 96), .mv (.t 95), (some (92, true))⟩,
      ⟨(some 97), .mv (.t 7), (some (96, false))⟩,
      ⟨(some 98), .len false (.t 97), (some (96, false))⟩,
      ⟨(some 99), .bin .eql (.t 98) (.c (.v (.int .i64 0))), (some (96, false))⟩,
      ⟨(some 100), .pick (.t 96) (.c (.v (.bool true))) (.t 99), (some (92, true))⟩,
      ⟨(some 101), .pick (.t 92) (.t 100) (.c (.v (.bool false))), none⟩,
      ⟨(some 102), .mv (.t 101), none⟩,
      ⟨(some 103), .call 0 18 [], (some (102, true))⟩,
      ⟨(some 104), .pick (.t 102) (.t 103) (.c (.v (.bool false))), none⟩,
      ⟨(some 6), .mv (.t 104), none⟩])
  (.ret)))))))))⟩
/-- Live: [1, 2, 7, 9, 10, 12, 13] -/
abbrev A7H0 (t1 t2 t7 t9 t10 t12 t13 : AV) : List AV := [.top, t1, t2, .top, .top, .top, .top, t7, .top, t9, t10, .top, t12, t13, .top, .top, .top, .top, .top, .top, .top, .top, .top, .top, .top, .top, .top, .top, .top, .top, .top, .top, .top, .top, .top, .top, .top, .top, .top, .top, .top, .top, .top, .top, .top, .top, .top, .top, .top, .top, .top, .top, .top, .top, .top, .top, .top, .top, .top, .top, .top, .top, .top, .top, .top, .top, .top, .top, .top, .top, .top, .top, .top, .top, .top, .top, .top, .top, .top, .top, .top, .top, .top, .top, .top, .top, .top, .top, .top, .top, .top, .top, .top, .top, .top, .top, .top, .top, .top, .top, .top, .top, .top, .top, .top]
theorem A7M0_eq (t0 t1 t2 t3 t4 t5 t6 t7 t8 t9 t10 t11 t12 t13 t14 t15 t16 t17 t18 t19 t20 t21 t22 t23 t24 t25 t26 t27 t28 t29 t30 t31 t32 t33 t34 t35 t36 t37 t38 t39 t40 t41 t42 t43 t44 t45 t46 t47 t48 t49 t50 t51 t52 t53 t54 t55 t56 t57 t58 t59 t60 t61 t62 t63 t64 t65 t66 t67 t68 t69 t70 t71 t72 t73 t74 t75 t76 t77 t78 t79 t80 t81 t82 t83 t84 t85 t86 t87 t88 t89 t90 t91 t92 t93 t94 t95 t96 t97 t98 t99 t100 t101 t102 t103 t104 : AV) : mask A7M0 [t0, t1, t2, t3, t4, t5, t6, t7, t8, t9, t10, t11, t12, t13, t14, t15, t16, t17, t18, t19, t20, t21, t22, t23, t24, t25, t26, t27, t28, t29, t30, t31, t32, t33, t34, t35, t36, t37, t38, t39, t40, t41, t42, t43, t44, t45, t46, t47, t48, t49, t50, t51, t52, t53, t54, t55, t56, t57, t58, t59, t60, t61, t62, t63, t64, t65, t66, t67, t68, t69, t70, t71, t72, t73, t74, t75, t76, t77, t78, t79, t80, t81, t82, t83, t84, t85, t86, t87, t88, t89, t90, t91, t92, t93, t94, t95, t96, t97, t98, t99, t100, t101, t102, t103, t104] = [.top, t1, t2, .top, .top, .top, .top, t7, .top, t9, t10, .top, t12, t13, .top, .top, .top, .top, .top, .top, .top, .top, .top, .top, .top, .top, .top, .top, .top, .top, .top, .top, .top, .top, .top, .top, .top, .top, .top, .top, .top, .top, .top, .top, .top, .top, .top, .top, .top, .top, .top, .top, .top, .top, .top, .top, .top, .top, .top, .top, .top, .top, .top, .top, .top, .top, .top, .top, .top, .top, .top, .top, .top, .top, .top, .top, .top, .top, .top, .top, .top, .top, .top, .top, .top, .top, .top, .top, .top, .top, .top, .top, .top, .top, .top, .top, .top, .top, .top, .top, .top, .top, .top, .top, .top] := rfl
theorem A7_is : compFn Try.prog md Try.f7 = some { A7 with code := A7.code.erase } := by kernel_rfl

/-- peristyle/peristylelaw11.PastMatchesSpec -/
def A8 : AFn := ⟨89, [.tmp 10],
  .seq (.reg 1 [⟨(some 5), .box 0 (.t 0), none⟩,
      ⟨(some 10), .mv (.c (.v (.bool false))), none⟩])
  (.seq (.reg 1 [⟨(some 22), .load 7 true (.t 5), none⟩,
      ⟨(some 23), .mv (.t 1), none⟩,
      ⟨(some 24), .call 0 33 [(.t 22), (.t 23)], none⟩,
      ⟨(some 21), .mv (.t 24), none⟩,
      ⟨(some 25), .ext 0 (.t 21), none⟩,
      ⟨(some 26), .ext 1 (.t 21), none⟩,
      ⟨(some 11), .alloc 0 [.nils, .nils], none⟩,
      ⟨none, .store 2 (.t 11) (.t 25), none⟩,
      ⟨(some 12), .mv (.t 26), none⟩])
  (.seq (.reg 1 [⟨(some 28), .load 7 true (.t 5), none⟩,
      ⟨(some 29), .mv (.t 1), none⟩,
      ⟨(some 30), .call 0 35 [(.t 28), (.t 29)], none⟩,
      ⟨(some 27), .mv (.t 30), none⟩,
      ⟨(some 31), .ext 0 (.t 27), none⟩,
      ⟨(some 32), .ext 1 (.t 27), none⟩,
      ⟨(some 13), .alloc 0 [.nils, .nils], none⟩,
      ⟨none, .store 2 (.t 13) (.t 31), none⟩,
      ⟨(some 14), .mv (.t 32), none⟩])
  (.seq (.seq (.reg 0 [⟨(some 33), .load 2 true (.t 11), none⟩,
      ⟨(some 34), .load 2 true (.t 13), none⟩,
      ⟨(some 35), .call 0 32 [(.t 33), (.t 34)], none⟩,
      ⟨(some 36), .un .not (.t 35), none⟩,
      ⟨(some 37), .mv (.t 36), none⟩,
      ⟨(some 38), .mv (.t 12), (some (37, false))⟩,
      ⟨(some 39), .mv (.t 14), (some (37, false))⟩,
      ⟨(some 40), .bin .neq (.t 38) (.t 39), (some (37, false))⟩,
      ⟨(some 41), .pick (.t 37) (.c (.v (.bool true))) (.t 40), none⟩])
  (.cond (.t 41)
    (.seq (.reg 0 [⟨(some 10), .mv (.c (.v (.bool false))), none⟩])
    (.ret))
    (.skip)))
  (.seq (.reg 0 [⟨(some 43), .load 7 true (.t 5), none⟩,
      ⟨(some 44), .mv (.t 2), none⟩,
      ⟨(some 45), .call 0 36 [(.t 43), (.t 44)], none⟩,
      ⟨(some 42), .mv (.t 45), none⟩,
      ⟨(some 46), .ext 0 (.t 42), none⟩,
      ⟨(some 47), .ext 1 (.t 42), none⟩,
      ⟨(some 15), .mv (.t 46), none⟩,
      ⟨(some 12), .mv (.t 47), none⟩])
  (.seq (.reg 0 [⟨(some 49), .load 7 true (.t 5), none⟩,
      ⟨(some 50), .mv (.t 2), none⟩,
      ⟨(some 51), .call 0 37 [(.t 49), (.t 50)], none⟩,
      ⟨(some 48), .mv (.t 51), none⟩,
      ⟨(some 52), .ext 0 (.t 48), none⟩,
      ⟨(some 53), .ext 1 (.t 48), none⟩,
      ⟨(some 16), .mv (.t 52), none⟩,
      ⟨(some 14), .mv (.t 53), none⟩])
  (.seq (.reg 0 [⟨(some 55), .load 7 true (.t 5), none⟩,
      ⟨(some 56), .mv (.t 3), none⟩,
      ⟨(some 57), .mv (.t 4), none⟩,
      ⟨(some 58), .call 0 34 [(.t 55), (.t 56), (.t 57)], none⟩,
      ⟨(some 54), .mv (.t 58), none⟩,
      ⟨(some 59), .ext 0 (.t 54), none⟩,
      ⟨(some 60), .ext 1 (.t 54), none⟩,
      ⟨(some 17), .mv (.t 59), none⟩,
      ⟨(some 18), .mv (.t 60), none⟩])
  (.seq (.reg 0 [⟨(some 62), .load 7 true (.t 5), none⟩,
      ⟨(some 63), .mv (.t 3), none⟩,
      ⟨(some 64), .mv (.t 4), none⟩,
      ⟨(some 65), .call 0 38 [(.t 62), (.t 63), (.t 64)], none⟩,
      ⟨(some 61), .mv (.t 65), none⟩,
      ⟨(some 66), .ext 0 (.t 61), none⟩,
      ⟨(some 67), .ext 1 (.t 61), none⟩,
      ⟨(some 19), .mv (.t 66), none⟩,
      ⟨(some 20), .mv (.t 67), none⟩])
  (.seq (.reg 0 [⟨(some 68), .mv (.t 15), none⟩,
      ⟨(some 69), .mv (.t 16), none⟩,
      ⟨(some 70), .call 0 39 [(.t 68), (.t 69)], none⟩,
      ⟨(some 71), .mv (.t 70), none⟩,
      ⟨(some 72), .mv (.t 12), (some (71, true))⟩,
      ⟨(some 73), .mv (.t 14), (some (71, true))⟩,
      ⟨(some 74), .bin .eql (.t 72) (.t 73), (some (71, true))⟩,
      ⟨(some 75), .pick (.t 71) (.t 74) (.c (.v (.bool false))), none⟩,
      ⟨(some 76), .mv (.t 75), none⟩,
      ⟨(some 77), .mv (.t 17), (some (76, true))⟩,
      ⟨(some 78), .mv (.t 19), (some (76, true))⟩,
      ⟨(some 79), .call 0 40 [(.t 77), (.t 78)], (some (76, true))⟩,
      ⟨(some 80), .pick (.t 76) (.t 79) (.c (.v (.bool false))), none⟩,
      ⟨(some 81), .mv (.t 80), none⟩,
      ⟨(some 82), .mv (.t 18), (some (81, true))⟩,
      ⟨(some 83), .mv (.t 20), (some (81, true))⟩,
      ⟨(some 84), .bin .eql (.t 82) (.t 83), (some (81, true))⟩,
      ⟨(some 85), .pick (.t 81) (.t 84) (.c (.v (.bool false))), none⟩,
      ⟨(some 86), .mv (.t 85), none⟩,
      ⟨(some 87), .call 0 18 [], (some (86, true))⟩,
      ⟨(some 88), .pick (.t 86) (.t 87) (.c (.v (.bool false))), none⟩,
      ⟨(some 10), .mv (.t 88), none⟩])
  (.ret)))))))))⟩
theorem A8_is : compFn Try.prog md Try.f8 = some { A8 with code := A8.code.erase } := by kernel_rfl

/-- peristyle/store.Empty -/
def A9 : AFn := ⟨14, [.cell 2 7 true, .tmp 3],
  .seq (.reg 1 [⟨(some 2), .alloc 0 [.nils, .nils, (.v (.int .i64 0)), (.v (.int .i64 0)), (.v (.int .i64 0)), (.v (.int .i64 0)), .nils], none⟩,
      ⟨(some 3), .mv (.c (.v (.int .i64 0))), none⟩])
  (.seq (.seq (.reg 0 [⟨(some 5), .mv (.t 0), none⟩,
      ⟨(some 6), .call 0 41 [(.t 5)], none⟩,
      ⟨(some 4), .mv (.t 6), none⟩])
  (.seq (.reg 0 [⟨(some 7), .mv (.t 4), none⟩,
      ⟨(some 8), .bin .neq (.t 7) (.c (.v (.int .i64 0))), none⟩])
  (.cond (.t 8)
    (.seq (.reg 0 [⟨(some 9), .build [.nils, .nils, (.v (.int .i64 0)), (.v (.int .i64 0)), (.v (.int .i64 0)), (.v (.int .i64 0)), .nils] [], none⟩,
        ⟨(some 10), .mv (.t 4), none⟩,
        ⟨none, .store 7 (.t 2) (.t 9), none⟩,
        ⟨(some 3), .mv (.t 10), none⟩])
    (.ret))
    (.skip))))
  (.seq (.reg 0 [⟨(some 11), .mv (.t 0), none⟩,
      ⟨(some 12), .call 1 42 [(.t 11)], none⟩,
      ⟨(some 13), .build [.nils, .nils, (.v (.int .i64 0)), (.v (.int .i64 0)), (.v (.int .i64 0)), (.v (.int .i64 0)), .nils] [(0, 1, (.t 12)), (3, 1, (.c (.v (.int .i64 1)))), (4, 1, (.c (.v (.int .i64 1))))], none⟩,
      ⟨none, .store 7 (.t 2) (.t 13), none⟩,
      ⟨(some 3), .mv (.c (.v (.int .i64 0))), none⟩])
  (.ret)))⟩
theorem A9_is : compFn Try.prog md Try.f9 = some { A9 with code := A9.code.erase } := by kernel_rfl

/-- peristyle/peristyleref11.Empty -/
def A10 : AFn := ⟨13, [.cell 2 7 true, .tmp 3],
  .seq (.reg 1 [⟨(some 2), .alloc 0 [.nils, .nils, (.v (.int .i64 0)), (.v (.int .i64 0)), (.v (.int .i64 0)), (.v (.int .i64 0)), .nils], none⟩,
      ⟨(some 3), .mv (.c (.v (.int .i64 0))), none⟩])
  (.seq (.seq (.reg 0 [⟨(some 5), .mv (.t 0), none⟩,
      ⟨(some 6), .call 0 43 [(.t 5)], none⟩,
      ⟨(some 4), .mv (.t 6), none⟩])
  (.seq (.reg 0 [⟨(some 7), .mv (.t 4), none⟩,
      ⟨(some 8), .bin .neq (.t 7) (.c (.v (.int .i64 0))), none⟩])
  (.cond (.t 8)
    (.seq (.reg 0 [⟨(some 9), .build [.nils, .nils, (.v (.int .i64 0)), (.v (.int .i64 0)), (.v (.int .i64 0)), (.v (.int .i64 0)), .nils] [], none⟩,
        ⟨(some 10), .mv (.t 4), none⟩,
        ⟨none, .store 7 (.t 2) (.t 9), none⟩,
        ⟨(some 3), .mv (.t 10), none⟩])
    (.ret))
    (.skip))))
  (.seq (.reg 0 [⟨(some 11), .mv (.t 0), none⟩,
      ⟨(some 12), .build [.nils, .nils, (.v (.int .i64 0)), (.v (.int .i64 0)), (.v (.int .i64 0)), (.v (.int .i64 0)), .nils] [(0, 1, (.t 11)), (3, 1, (.c (.v (.int .i64 1)))), (4, 1, (.c (.v (.int .i64 1))))], none⟩,
      ⟨none, .store 7 (.t 2) (.t 12), none⟩,
      ⟨(some 3), .mv (.c (.v (.int .i64 0))), none⟩])
  (.ret)))⟩
theorem A10_is : compFn Try.prog md Try.f10 = some { A10 with code := A10.code.erase } := by kernel_rfl

/-- peristyle/store.CheckStore -/
def A11 : AFn := ⟨52, [.tmp 2],
  .seq (.reg 1 [⟨(some 1), .box 0 (.t 0), none⟩,
      ⟨(some 2), .mv (.c (.v (.int .i64 0))), none⟩])
  (.seq (.seq (.reg 0 [⟨(some 5), .fa 0 (.t 1), none⟩,
      ⟨(some 6), .load 1 false (.t 5), none⟩,
      ⟨(some 7), .call 0 41 [(.t 6)], none⟩,
      ⟨(some 3), .mv (.t 7), none⟩])
  (.seq (.reg 0 [⟨(some 8), .mv (.t 3), none⟩,
      ⟨(some 9), .bin .neq (.t 8) (.c (.v (.int .i64 0))), none⟩])
  (.cond (.t 9)
    (.seq (.reg 0 [⟨(some 10), .mv (.t 3), none⟩,
        ⟨(some 2), .mv (.t 10), none⟩])
    (.ret))
    (.skip))))
  (.seq (.seq (.reg 0 [⟨(some 11), .fa 1 (.t 1), none⟩,
      ⟨(some 12), .load 1 false (.t 11), none⟩,
      ⟨(some 13), .len false (.t 12), none⟩,
      ⟨(some 14), .bin .gtr (.t 13) (.c (.v (.int .i64 3000))), none⟩,
      ⟨(some 15), .mv (.t 14), none⟩,
      ⟨(some 16), .fa 6 (.t 1), (some (15, false))⟩,
      ⟨(some 17), .load 1 false (.t 16), (some (15, false))⟩,
      ⟨(some 18), .len false (.t 17), (some (15, false))⟩,
      ⟨(some 19), .bin .gtr (.t 18) (.c (.v (.int .i64 20))), (some (15, false))⟩,
      ⟨(some 20), .pick (.t 15) (.c (.v (.bool true))) (.t 19), none⟩])
  (.cond (.t 20)
    (.seq (.reg 0 [⟨(some 2), .mv (.c (.v (.int .i64 2))), none⟩])
    (.ret))
    (.skip)))
  (.seq (.seq (.reg 0 [⟨(some 21), .fa 2 (.t 1), none⟩,
      ⟨(some 22), .load 1 false (.t 21), none⟩,
      ⟨(some 23), .call 0 44 [(.t 22), (.c (.v (.int .i64 0))), (.c (.v (.int .i64 1000000)))], none⟩,
      ⟨(some 24), .un .not (.t 23), none⟩,
      ⟨(some 25), .mv (.t 24), none⟩,
      ⟨(some 26), .fa 3 (.t 1), (some (25, false))⟩,
      ⟨(some 27), .load 1 false (.t 26), (some (25, false))⟩,
      ⟨(some 28), .call 0 44 [(.t 27), (.c (.v (.int .i64 1))), (.c (.v (.int .i64 1000000)))], (some (25, false))⟩,
      ⟨(some 29), .un .not (.t 28), (some (25, false))⟩,
      ⟨(some 30), .pick (.t 25) (.c (.v (.bool true))) (.t 29), none⟩,
      ⟨(some 31), .mv (.t 30), none⟩,
      ⟨(some 32), .fa 4 (.t 1), (some (31, false))⟩,
      ⟨(some 33), .load 1 false (.t 32), (some (31, false))⟩,
      ⟨(some 34), .call 0 44 [(.t 33), (.c (.v (.int .i64 1))), (.c (.v (.int .i64 1000000)))], (some (31, false))⟩,
      ⟨(some 35), .un .not (.t 34), (some (31, false))⟩,
      ⟨(some 36), .pick (.t 31) (.c (.v (.bool true))) (.t 35), none⟩,
      ⟨(some 37), .mv (.t 36), none⟩,
      ⟨(some 38), .fa 5 (.t 1), (some (37, false))⟩,
      ⟨(some 39), .load 1 false (.t 38), (some (37, false))⟩,
      ⟨(some 40), .fa 2 (.t 1), (some (37, false))⟩,
      ⟨(some 41), .load 1 false (.t 40), (some (37, false))⟩,
      ⟨(some 42), .call 0 44 [(.t 39), (.c (.v (.int .i64 0))), (.t 41)], (some (37, false))⟩,
      ⟨(some 43), .un .not (.t 42), (some (37, false))⟩,
      ⟨(some 44), .pick (.t 37) (.c (.v (.bool true))) (.t 43), none⟩])
  (.cond (.t 44)
    (.seq (.reg 0 [⟨(some 2), .mv (.c (.v (.int .i64 1))), none⟩])
    (.ret))
    (.skip)))
  (.seq (.seq (.reg 0 [⟨(some 45), .load 7 true (.t 1), none⟩,
      ⟨(some 46), .call 0 45 [(.t 45)], none⟩,
      ⟨(some 4), .mv (.t 46), none⟩])
  (.seq (.reg 0 [⟨(some 47), .mv (.t 4), none⟩,
      ⟨(some 48), .bin .neq (.t 47) (.c (.v (.int .i64 0))), none⟩])
  (.cond (.t 48)
    (.seq (.reg 0 [⟨(some 49), .mv (.t 4), none⟩,
        ⟨(some 2), .mv (.t 49), none⟩])
    (.ret))
    (.skip))))
  (.seq (.reg 0 [⟨(some 50), .load 7 true (.t 1), none⟩,
      ⟨(some 51), .call 0 46 [(.t 50)], none⟩,
      ⟨(some 2), .mv (.t 51), none⟩])
  (.ret))))))⟩
theorem A11_is : compFn Try.prog md Try.f11 = some { A11 with code := A11.code.erase } := by kernel_rfl

/-- peristyle/peristyleref11.CheckStore -/
def A12 : AFn := ⟨52, [.tmp 2],
  .seq (.reg 1 [⟨(some 1), .box 0 (.t 0), none⟩,
      ⟨(some 2), .mv (.c (.v (.int .i64 0))), none⟩])
  (.seq (.seq (.reg 0 [⟨(some 5), .fa 0 (.t 1), none⟩,
      ⟨(some 6), .load 1 false (.t 5), none⟩,
      ⟨(some 7), .call 0 43 [(.t 6)], none⟩,
      ⟨(some 3), .mv (.t 7), none⟩])
  (.seq (.reg 0 [⟨(some 8), .mv (.t 3), none⟩,
      ⟨(some 9), .bin .neq (.t 8) (.c (.v (.int .i64 0))), none⟩])
  (.cond (.t 9)
    (.seq (.reg 0 [⟨(some 10), .mv (.t 3), none⟩,
        ⟨(some 2), .mv (.t 10), none⟩])
    (.ret))
    (.skip))))
  (.seq (.seq (.reg 0 [⟨(some 11), .fa 1 (.t 1), none⟩,
      ⟨(some 12), .load 1 false (.t 11), none⟩,
      ⟨(some 13), .len false (.t 12), none⟩,
      ⟨(some 14), .bin .gtr (.t 13) (.c (.v (.int .i64 3000))), none⟩,
      ⟨(some 15), .mv (.t 14), none⟩,
      ⟨(some 16), .fa 6 (.t 1), (some (15, false))⟩,
      ⟨(some 17), .load 1 false (.t 16), (some (15, false))⟩,
      ⟨(some 18), .len false (.t 17), (some (15, false))⟩,
      ⟨(some 19), .bin .gtr (.t 18) (.c (.v (.int .i64 20))), (some (15, false))⟩,
      ⟨(some 20), .pick (.t 15) (.c (.v (.bool true))) (.t 19), none⟩])
  (.cond (.t 20)
    (.seq (.reg 0 [⟨(some 2), .mv (.c (.v (.int .i64 2))), none⟩])
    (.ret))
    (.skip)))
  (.seq (.seq (.reg 0 [⟨(some 21), .fa 2 (.t 1), none⟩,
      ⟨(some 22), .load 1 false (.t 21), none⟩,
      ⟨(some 23), .call 0 47 [(.t 22), (.c (.v (.int .i64 0))), (.c (.v (.int .i64 1000000)))], none⟩,
      ⟨(some 24), .un .not (.t 23), none⟩,
      ⟨(some 25), .mv (.t 24), none⟩,
      ⟨(some 26), .fa 3 (.t 1), (some (25, false))⟩,
      ⟨(some 27), .load 1 false (.t 26), (some (25, false))⟩,
      ⟨(some 28), .call 0 47 [(.t 27), (.c (.v (.int .i64 1))), (.c (.v (.int .i64 1000000)))], (some (25, false))⟩,
      ⟨(some 29), .un .not (.t 28), (some (25, false))⟩,
      ⟨(some 30), .pick (.t 25) (.c (.v (.bool true))) (.t 29), none⟩,
      ⟨(some 31), .mv (.t 30), none⟩,
      ⟨(some 32), .fa 4 (.t 1), (some (31, false))⟩,
      ⟨(some 33), .load 1 false (.t 32), (some (31, false))⟩,
      ⟨(some 34), .call 0 47 [(.t 33), (.c (.v (.int .i64 1))), (.c (.v (.int .i64 1000000)))], (some (31, false))⟩,
      ⟨(some 35), .un .not (.t 34), (some (31, false))⟩,
      ⟨(some 36), .pick (.t 31) (.c (.v (.bool true))) (.t 35), none⟩,
      ⟨(some 37), .mv (.t 36), none⟩,
      ⟨(some 38), .fa 5 (.t 1), (some (37, false))⟩,
      ⟨(some 39), .load 1 false (.t 38), (some (37, false))⟩,
      ⟨(some 40), .fa 2 (.t 1), (some (37, false))⟩,
      ⟨(some 41), .load 1 false (.t 40), (some (37, false))⟩,
      ⟨(some 42), .call 0 47 [(.t 39), (.c (.v (.int .i64 0))), (.t 41)], (some (37, false))⟩,
      ⟨(some 43), .un .not (.t 42), (some (37, false))⟩,
      ⟨(some 44), .pick (.t 37) (.c (.v (.bool true))) (.t 43), none⟩])
  (.cond (.t 44)
    (.seq (.reg 0 [⟨(some 2), .mv (.c (.v (.int .i64 1))), none⟩])
    (.ret))
    (.skip)))
  (.seq (.seq (.reg 0 [⟨(some 45), .load 7 true (.t 1), none⟩,
      ⟨(some 46), .call 0 48 [(.t 45)], none⟩,
      ⟨(some 4), .mv (.t 46), none⟩])
  (.seq (.reg 0 [⟨(some 47), .mv (.t 4), none⟩,
      ⟨(some 48), .bin .neq (.t 47) (.c (.v (.int .i64 0))), none⟩])
  (.cond (.t 48)
    (.seq (.reg 0 [⟨(some 49), .mv (.t 4), none⟩,
        ⟨(some 2), .mv (.t 49), none⟩])
    (.ret))
    (.skip))))
  (.seq (.reg 0 [⟨(some 50), .load 7 true (.t 1), none⟩,
      ⟨(some 51), .call 0 49 [(.t 50)], none⟩,
      ⟨(some 2), .mv (.t 51), none⟩])
  (.ret))))))⟩
theorem A12_is : compFn Try.prog md Try.f12 = some { A12 with code := A12.code.erase } := by kernel_rfl

/-- peristyle/peristyleref11.Same -/
def A13M0 : List Bool := [false, false, true, true, false, true, false, false, false, false, false, false, false, false, false, false, false, false, false, false, false, false, false, false, false, false, false, false, false, false, false, false, false, false, false, false, false, false, false, false, false, false, false, false, false, false, false, false, false, false, false, false, false, false, false, false, false, false, false, false, false, false, false, false, false, false, false, false, false, false, false, false, false, false, false, false, false]
def A13L0 : AC :=
  .seq (.seq (.reg 0 [⟨(some 26), .mv (.t 5), none⟩,
      ⟨(some 27), .fa 6 (.t 2), none⟩,
      ⟨(some 28), .load 1 false (.t 27), none⟩,
      ⟨(some 29), .len false (.t 28), none⟩,
      ⟨(some 30), .bin .lss (.t 26) (.t 29), none⟩])
  (.cond (.t 30)
    (.skip)
    (.exit 0)))
  (.seq (.block 1
    (.seq (.dreg 0 [⟨(some 33), .fa 6 (.t 2), none⟩,
        ⟨(some 34), .load 1 false (.t 33), none⟩,
        ⟨(some 35), .mv (.t 5), none⟩,
        ⟨(some 36), .ia 3 (.t 34) (.t 35), none⟩,
        ⟨(some 37), .fa 0 (.t 36), none⟩,
        ⟨(some 38), .load 1 false (.t 37), none⟩,
        ⟨(some 39), .fa 6 (.t 3), none⟩,
        ⟨(some 40), .load 1 false (.t 39), none⟩,
        ⟨(some 41), .mv (.t 5), none⟩,
        ⟨(some 42), .ia 3 (.t 40) (.t 41), none⟩,
        ⟨(some 43), .fa 0 (.t 42), none⟩,
        ⟨(some 44), .load 1 false (.t 43), none⟩,
        ⟨(some 45), .bin .neq (.t 38) (.t 44), none⟩,
        ⟨(some 46), .mv (.t 45), none⟩,
        ⟨(some 47), .fa 6 (.t 2), (some (46, false))⟩,
        ⟨(some 48), .load 1 false (.t 47), (some (46, false))⟩,
        ⟨(some 49), .mv (.t 5), (some (46, false))⟩,
        ⟨(some 50), .ia 3 (.t 48) (.t 49), (some (46, false))⟩,
        ⟨(some 51), .fa 1 (.t 50), (some (46, false))⟩,
        ⟨(some 52), .load 1 false (.t 51), (some (46, false))⟩,
        ⟨(some 53), .fa 6 (.t 3), (some (46, false))⟩,
        ⟨(some 54), .load 1 false (.t 53), (some (46, false))⟩,
        ⟨(some 55), .mv (.t 5), (some (46, false))⟩,
        ⟨(some 56), .ia 3 (.t 54) (.t 55), (some (46, false))⟩,
        ⟨(some 57), .fa 1 (.t 56), (some (46, false))⟩,
        ⟨(some 58), .load 1 false (.t 57), (some (46, false))⟩,
        ⟨(some 59), .bin .neq (.t 52) (.t 58), (some (46, false))⟩,
        ⟨(some 60), .pick (.t 46) (.c (.v (.bool true))) (.t 59), none⟩,
        ⟨(some 61), .mv (.t 60), none⟩,
        ⟨(some 62), .fa 6 (.t 2), (some (61, false))⟩,
        ⟨(some 63), .load 1 false (.t 62), (some (61, false))⟩,
        ⟨(some 64), .mv (.t 5), (some (61, false))⟩,
        ⟨(some 65), .ia 3 (.t 63) (.t 64), (some (61, false))⟩,
        ⟨(some 66), .fa 2 (.t 65), (some (61, false))⟩,
        ⟨(some 67), .load 1 false (.t 66), (some (61, false))⟩,
        ⟨(some 68), .fa 6 (.t 3), (some (61, false))⟩,
        ⟨(some 69), .load 1 false (.t 68), (some (61, false))⟩,
        ⟨(some 70), .mv (.t 5), (some (61, false))⟩,
        ⟨(some 71), .ia 3 (.t 69) (.t 70), (some (61, false))⟩,
        ⟨(some 72), .fa 2 (.t 71), (some (61, false))⟩,
        ⟨(some 73), .load 1 false (.t 72), (some (61, false))⟩,
        ⟨(some 74), .call 0 40 [(.t 67), (.t 73)], (some (61, false))⟩,
        ⟨(some 75), .un .not (.t 74), (some (61, false))⟩,
        ⟨(some 76), .pick (.t 61) (.c (.v (.bool true))) (.t 75), none⟩] [(1, 7), (3, 7), (5, 7), (1, 9), (3, 9), (5, 9), (1, 11), (3, 11), (5, 11), (15, 21), (17, 21), (19, 21), (15, 23), (17, 23), (19, 23), (15, 25), (17, 25), (19, 25), (30, 36), (32, 36), (34, 36), (30, 38), (32, 38), (34, 38), (30, 40), (32, 40), (34, 40)])
    (.cond (.t 76)
      (.seq (.reg 0 [⟨(some 4), .mv (.c (.v (.bool false))), none⟩])
      (.ret))
      (.skip))))
  (.reg 0 [⟨(some 31), .mv (.t 5), none⟩,
      ⟨(some 32), .bin .add (.t 31) (.c (.v (.int .i64 1))), none⟩,
      ⟨(some 5), .mv (.t 32), none⟩]))
def A13 : AFn := ⟨77, [.tmp 4],
  .seq (.reg 2 [⟨(some 2), .box 0 (.t 0), none⟩,
      ⟨(some 3), .box 1 (.t 1), none⟩,
      ⟨(some 4), .mv (.c (.v (.bool false))), none⟩])
  (.seq (.seq (.reg 0 [⟨(some 6), .load 7 true (.t 2), none⟩,
      ⟨(some 7), .load 7 true (.t 3), none⟩,
      ⟨(some 8), .call 0 50 [(.t 6), (.t 7)], none⟩,
      ⟨(some 9), .un .not (.t 8), none⟩,
      ⟨(some 10), .mv (.t 9), none⟩,
      ⟨(some 11), .fa 4 (.t 2), (some (10, false))⟩,
      ⟨(some 12), .load 1 false (.t 11), (some (10, false))⟩,
      ⟨(some 13), .fa 4 (.t 3), (some (10, false))⟩,
      ⟨(some 14), .load 1 false (.t 13), (some (10, false))⟩,
      ⟨(some 15), .bin .neq (.t 12) (.t 14), (some (10, false))⟩,
      ⟨(some 16), .pick (.t 10) (.c (.v (.bool true))) (.t 15), none⟩,
      ⟨(some 17), .mv (.t 16), none⟩,
      ⟨(some 18), .fa 6 (.t 2), (some (17, false))⟩,
      ⟨(some 19), .load 1 false (.t 18), (some (17, false))⟩,
      ⟨(some 20), .len false (.t 19), (some (17, false))⟩,
      ⟨(some 21), .fa 6 (.t 3), (some (17, false))⟩,
      ⟨(some 22), .load 1 false (.t 21), (some (17, false))⟩,
      ⟨(some 23), .len false (.t 22), (some (17, false))⟩,
      ⟨(some 24), .bin .neq (.t 20) (.t 23), (some (17, false))⟩,
      ⟨(some 25), .pick (.t 17) (.c (.v (.bool true))) (.t 24), none⟩])
  (.cond (.t 25)
    (.seq (.reg 0 [⟨(some 4), .mv (.c (.v (.bool false))), none⟩])
    (.ret))
    (.skip)))
  (.seq (.seq (.reg 0 [⟨(some 5), .mv (.c (.v (.int .i64 0))), none⟩])
  (.block 0
    (.loop A13M0 A13L0)))
  (.seq (.reg 0 [⟨(some 4), .mv (.c (.v (.bool true))), none⟩])
  (.ret))))⟩
/-- Live: [2, 3, 5] -/
abbrev A13H0 (t2 t3 t5 : AV) : List AV := [.top, .top, t2, t3, .top, t5, .top, .top, .top, .top, .top, .top, .top, .top, .top, .top, .top, .top, .top, .top, .top, .top, .top, .top, .top, .top, .top, .top, .top, .top, .top, .top, .top, .top, .top, .top, .top, .top, .top, .top, .top, .top, .top, .top, .top, .top, .top, .top, .top, .top, .top, .top, .top, .top, .top, .top, .top, .top, .top, .top, .top, .top, .top, .top, .top, .top, .top, .top, .top, .top, .top, .top, .top, .top, .top, .top, .top]
theorem A13M0_eq (t0 t1 t2 t3 t4 t5 t6 t7 t8 t9 t10 t11 t12 t13 t14 t15 t16 t17 t18 t19 t20 t21 t22 t23 t24 t25 t26 t27 t28 t29 t30 t31 t32 t33 t34 t35 t36 t37 t38 t39 t40 t41 t42 t43 t44 t45 t46 t47 t48 t49 t50 t51 t52 t53 t54 t55 t56 t57 t58 t59 t60 t61 t62 t63 t64 t65 t66 t67 t68 t69 t70 t71 t72 t73 t74 t75 t76 : AV) : mask A13M0 [t0, t1, t2, t3, t4, t5, t6, t7, t8, t9, t10, t11, t12, t13, t14, t15, t16, t17, t18, t19, t20, t21, t22, t23, t24, t25, t26, t27, t28, t29, t30, t31, t32, t33, t34, t35, t36, t37, t38, t39, t40, t41, t42, t43, t44, t45, t46, t47, t48, t49, t50, t51, t52, t53, t54, t55, t56, t57, t58, t59, t60, t61, t62, t63, t64, t65, t66, t67, t68, t69, t70, t71, t72, t73, t74, t75, t76] = [.top, .top, t2, t3, .top, t5, .top, .top, .top, .top, .top, .top, .top, .top, .top, .top, .top, .top, .top, .top, .top, .top, .top, .top, .top, .top, .top, .top, .top, .top, .top, .top, .top, .top, .top, .top, .top, .top, .top, .top, .top, .top, .top, .top, .top, .top, .top, .top, .top, .top, .top, .top, .top, .top, .top, .top, .top, .top, .top, .top, .top, .top, .top, .top, .top, .top, .top, .top, .top, .top, .top, .top, .top, .top, .top, .top, .top] := rfl
theorem A13_is : compFn Try.prog md Try.f13 = some { A13 with code := A13.code.erase } := by kernel_rfl

/-- peristyle/store.Begin -/
def A14 : AFn := ⟨41, [.cell 2 7 true, .tmp 3, .tmp 4],
  .seq (.reg 2 [⟨(some 1), .box 0 (.t 0), none⟩,
      ⟨(some 2), .alloc 1 [.nils, .nils, (.v (.int .i64 0)), (.v (.int .i64 0)), (.v (.int .i64 0)), (.v (.int .i64 0)), .nils], none⟩,
      ⟨(some 3), .mv (.c (.v (.int .i64 0))), none⟩,
      ⟨(some 4), .mv (.c (.v (.int .i64 0))), none⟩])
  (.seq (.seq (.reg 0 [⟨(some 7), .load 7 true (.t 1), none⟩,
      ⟨(some 8), .call 0 11 [(.t 7)], none⟩,
      ⟨(some 5), .mv (.t 8), none⟩])
  (.seq (.reg 0 [⟨(some 9), .mv (.t 5), none⟩,
      ⟨(some 10), .bin .neq (.t 9) (.c (.v (.int .i64 0))), none⟩])
  (.cond (.t 10)
    (.seq (.reg 0 [⟨(some 11), .build [.nils, .nils, (.v (.int .i64 0)), (.v (.int .i64 0)), (.v (.int .i64 0)), (.v (.int .i64 0)), .nils] [], none⟩,
        ⟨(some 12), .mv (.t 5), none⟩,
        ⟨none, .store 7 (.t 2) (.t 11), none⟩,
        ⟨(some 3), .mv (.c (.v (.int .i64 0))), none⟩,
        ⟨(some 4), .mv (.t 12), none⟩])
    (.ret))
    (.skip))))
  (.seq (.seq (.reg 0 [⟨(some 13), .fa 6 (.t 1), none⟩,
      ⟨(some 14), .load 1 false (.t 13), none⟩,
      ⟨(some 15), .len false (.t 14), none⟩,
      ⟨(some 16), .bin .eql (.t 15) (.c (.v (.int .i64 20))), none⟩])
  (.cond (.t 16)
    (.seq (.reg 0 [⟨(some 17), .build [.nils, .nils, (.v (.int .i64 0)), (.v (.int .i64 0)), (.v (.int .i64 0)), (.v (.int .i64 0)), .nils] [], none⟩,
        ⟨none, .store 7 (.t 2) (.t 17), none⟩,
        ⟨(some 3), .mv (.c (.v (.int .i64 0))), none⟩,
        ⟨(some 4), .mv (.c (.v (.int .i64 2))), none⟩])
    (.ret))
    (.skip)))
  (.seq (.seq (.reg 0 [⟨(some 18), .fa 4 (.t 1), none⟩,
      ⟨(some 19), .load 1 false (.t 18), none⟩,
      ⟨(some 20), .bin .eql (.t 19) (.c (.v (.int .i64 1000000))), none⟩])
  (.cond (.t 20)
    (.seq (.reg 0 [⟨(some 21), .build [.nils, .nils, (.v (.int .i64 0)), (.v (.int .i64 0)), (.v (.int .i64 0)), (.v (.int .i64 0)), .nils] [], none⟩,
        ⟨none, .store 7 (.t 2) (.t 21), none⟩,
        ⟨(some 3), .mv (.c (.v (.int .i64 0))), none⟩,
        ⟨(some 4), .mv (.c (.v (.int .i64 14))), none⟩])
    (.ret))
    (.skip)))
  (.seq (.reg 0 [⟨(some 22), .load 7 true (.t 1), none⟩,
      ⟨(some 23), .call 1 51 [(.t 22)], none⟩,
      ⟨none, .store 7 (.t 1) (.t 23), none⟩])
  (.seq (.reg 0 [⟨(some 24), .fa 4 (.t 1), none⟩,
      ⟨(some 25), .load 1 false (.t 24), none⟩,
      ⟨(some 6), .mv (.t 25), none⟩])
  (.seq (.reg 0 [⟨(some 26), .fa 6 (.t 1), none⟩,
      ⟨(some 27), .load 1 false (.t 26), none⟩,
      ⟨(some 28), .mv (.t 6), none⟩,
      ⟨(some 29), .fa 2 (.t 1), none⟩,
      ⟨(some 30), .load 1 false (.t 29), none⟩,
      ⟨(some 31), .build [(.v (.int .i64 0)), (.v (.int .i64 0)), .nils] [(0, 1, (.t 28)), (1, 1, (.t 30))], none⟩,
      ⟨(some 32), .bsl 3 1 [(.v (.int .i64 0)), (.v (.int .i64 0)), .nils] [(0, (.t 31))], none⟩,
      ⟨(some 33), .app 3 40 (.t 27) (.t 32), none⟩,
      ⟨(some 34), .fa 6 (.t 1), none⟩,
      ⟨none, .store 1 (.t 34) (.t 33), none⟩])
  (.seq (.reg 0 [⟨(some 35), .fa 4 (.t 1), none⟩,
      ⟨(some 36), .load 1 false (.t 35), none⟩,
      ⟨(some 37), .bin .add (.t 36) (.c (.v (.int .i64 1))), none⟩,
      ⟨(some 38), .fa 4 (.t 1), none⟩,
      ⟨none, .store 1 (.t 38) (.t 37), none⟩])
  (.seq (.reg 0 [⟨(some 39), .load 7 true (.t 1), none⟩,
      ⟨(some 40), .mv (.t 6), none⟩,
      ⟨none, .store 7 (.t 2) (.t 39), none⟩,
      ⟨(some 3), .mv (.t 40), none⟩,
      ⟨(some 4), .mv (.c (.v (.int .i64 0))), none⟩])
  (.ret)))))))))⟩
theorem A14_is : compFn Try.prog md Try.f14 = some { A14 with code := A14.code.erase } := by kernel_rfl

/-- peristyle/peristyleref11.Begin -/
def A15 : AFn := ⟨43, [.cell 2 7 true, .tmp 3, .tmp 4],
  .seq (.reg 2 [⟨(some 1), .box 0 (.t 0), none⟩,
      ⟨(some 2), .alloc 1 [.nils, .nils, (.v (.int .i64 0)), (.v (.int .i64 0)), (.v (.int .i64 0)), (.v (.int .i64 0)), .nils], none⟩,
      ⟨(some 3), .mv (.c (.v (.int .i64 0))), none⟩,
      ⟨(some 4), .mv (.c (.v (.int .i64 0))), none⟩])
  (.seq (.seq (.reg 0 [⟨(some 7), .load 7 true (.t 1), none⟩,
      ⟨(some 8), .call 0 12 [(.t 7)], none⟩,
      ⟨(some 5), .mv (.t 8), none⟩])
  (.seq (.reg 0 [⟨(some 9), .mv (.t 5), none⟩,
      ⟨(some 10), .bin .neq (.t 9) (.c (.v (.int .i64 0))), none⟩])
  (.cond (.t 10)
    (.seq (.reg 0 [⟨(some 11), .build [.nils, .nils, (.v (.int .i64 0)), (.v (.int .i64 0)), (.v (.int .i64 0)), (.v (.int .i64 0)), .nils] [], none⟩,
        ⟨(some 12), .mv (.t 5), none⟩,
        ⟨none, .store 7 (.t 2) (.t 11), none⟩,
        ⟨(some 3), .mv (.c (.v (.int .i64 0))), none⟩,
        ⟨(some 4), .mv (.t 12), none⟩])
    (.ret))
    (.skip))))
  (.seq (.seq (.reg 0 [⟨(some 13), .fa 6 (.t 1), none⟩,
      ⟨(some 14), .load 1 false (.t 13), none⟩,
      ⟨(some 15), .len false (.t 14), none⟩,
      ⟨(some 16), .bin .eql (.t 15) (.c (.v (.int .i64 20))), none⟩])
  (.cond (.t 16)
    (.seq (.reg 0 [⟨(some 17), .build [.nils, .nils, (.v (.int .i64 0)), (.v (.int .i64 0)), (.v (.int .i64 0)), (.v (.int .i64 0)), .nils] [], none⟩,
        ⟨none, .store 7 (.t 2) (.t 17), none⟩,
        ⟨(some 3), .mv (.c (.v (.int .i64 0))), none⟩,
        ⟨(some 4), .mv (.c (.v (.int .i64 2))), none⟩])
    (.ret))
    (.skip)))
  (.seq (.seq (.reg 0 [⟨(some 18), .fa 4 (.t 1), none⟩,
      ⟨(some 19), .load 1 false (.t 18), none⟩,
      ⟨(some 20), .bin .eql (.t 19) (.c (.v (.int .i64 1000000))), none⟩])
  (.cond (.t 20)
    (.seq (.reg 0 [⟨(some 21), .build [.nils, .nils, (.v (.int .i64 0)), (.v (.int .i64 0)), (.v (.int .i64 0)), (.v (.int .i64 0)), .nils] [], none⟩,
        ⟨none, .store 7 (.t 2) (.t 21), none⟩,
        ⟨(some 3), .mv (.c (.v (.int .i64 0))), none⟩,
        ⟨(some 4), .mv (.c (.v (.int .i64 14))), none⟩])
    (.ret))
    (.skip)))
  (.seq (.reg 0 [⟨(some 6), .mv (.c .nils), none⟩])
  (.seq (.reg 0 [⟨(some 22), .mv (.t 6), none⟩,
      ⟨(some 23), .fa 6 (.t 1), none⟩,
      ⟨(some 24), .load 1 false (.t 23), none⟩,
      ⟨(some 25), .app 3 40 (.t 22) (.t 24), none⟩,
      ⟨(some 6), .mv (.t 25), none⟩])
  (.seq (.reg 0 [⟨(some 26), .mv (.t 6), none⟩,
      ⟨(some 27), .fa 4 (.t 1), none⟩,
      ⟨(some 28), .load 1 false (.t 27), none⟩,
      ⟨(some 29), .fa 2 (.t 1), none⟩,
      ⟨(some 30), .load 1 false (.t 29), none⟩,
      ⟨(some 31), .build [(.v (.int .i64 0)), (.v (.int .i64 0)), .nils] [(0, 1, (.t 28)), (1, 1, (.t 30))], none⟩,
      ⟨(some 32), .bsl 3 1 [(.v (.int .i64 0)), (.v (.int .i64 0)), .nils] [(0, (.t 31))], none⟩,
      ⟨(some 33), .app 3 40 (.t 26) (.t 32), none⟩,
      ⟨(some 34), .fa 6 (.t 1), none⟩,
      ⟨none, .store 1 (.t 34) (.t 33), none⟩])
  (.seq (.reg 0 [⟨(some 35), .fa 4 (.t 1), none⟩,
      ⟨(some 36), .load 1 false (.t 35), none⟩,
      ⟨(some 37), .bin .add (.t 36) (.c (.v (.int .i64 1))), none⟩,
      ⟨(some 38), .fa 4 (.t 1), none⟩,
      ⟨none, .store 1 (.t 38) (.t 37), none⟩])
  (.seq (.dreg 0 [⟨(some 39), .load 7 true (.t 1), none⟩,
      ⟨(some 40), .fa 4 (.t 1), none⟩,
      ⟨(some 41), .load 1 false (.t 40), none⟩,
      ⟨(some 42), .bin .sub (.t 41) (.c (.v (.int .i64 1))), none⟩,
      ⟨none, .store 7 (.t 2) (.t 39), none⟩,
      ⟨(some 3), .mv (.t 42), none⟩,
      ⟨(some 4), .mv (.c (.v (.int .i64 0))), none⟩] [(0, 2), (2, 4)])
  (.ret)))))))))⟩
theorem A15_is : compFn Try.prog md Try.f15 = some { A15 with code := A15.code.erase } := by kernel_rfl

/-- peristyle/store.Abort -/
def A16 : AFn := ⟨28, [.cell 4 7 true, .tmp 5],
  .seq (.reg 2 [⟨(some 2), .box 0 (.t 0), none⟩,
      ⟨(some 4), .alloc 1 [.nils, .nils, (.v (.int .i64 0)), (.v (.int .i64 0)), (.v (.int .i64 0)), (.v (.int .i64 0)), .nils], none⟩,
      ⟨(some 5), .mv (.c (.v (.int .i64 0))), none⟩])
  (.seq (.reg 0 [⟨(some 9), .load 7 true (.t 2), none⟩,
      ⟨(some 10), .mv (.t 1), none⟩,
      ⟨(some 11), .call 0 52 [(.t 9), (.t 10)], none⟩,
      ⟨(some 8), .mv (.t 11), none⟩,
      ⟨(some 12), .ext 0 (.t 8), none⟩,
      ⟨(some 13), .ext 1 (.t 8), none⟩,
      ⟨(some 6), .mv (.t 12), none⟩,
      ⟨(some 7), .mv (.t 13), none⟩])
  (.seq (.seq (.reg 0 [⟨(some 14), .mv (.t 7), none⟩,
      ⟨(some 15), .bin .neq (.t 14) (.c (.v (.int .i64 0))), none⟩])
  (.cond (.t 15)
    (.seq (.reg 0 [⟨(some 16), .build [.nils, .nils, (.v (.int .i64 0)), (.v (.int .i64 0)), (.v (.int .i64 0)), (.v (.int .i64 0)), .nils] [], none⟩,
        ⟨(some 17), .mv (.t 7), none⟩,
        ⟨none, .store 7 (.t 4) (.t 16), none⟩,
        ⟨(some 5), .mv (.t 17), none⟩])
    (.ret))
    (.skip)))
  (.seq (.reg 0 [⟨(some 18), .load 7 true (.t 2), none⟩,
      ⟨(some 19), .call 1 51 [(.t 18)], none⟩,
      ⟨none, .store 7 (.t 2) (.t 19), none⟩])
  (.seq (.reg 0 [⟨(some 20), .fa 6 (.t 2), none⟩,
      ⟨(some 21), .load 1 false (.t 20), none⟩,
      ⟨(some 22), .mv (.t 6), none⟩,
      ⟨(some 23), .mv (.t 6), none⟩,
      ⟨(some 24), .bin .add (.t 23) (.c (.v (.int .i64 1))), none⟩,
      ⟨(some 25), .call 1 53 [(.t 21), (.t 22), (.t 24)], none⟩,
      ⟨(some 26), .fa 6 (.t 2), none⟩,
      ⟨none, .store 1 (.t 26) (.t 25), none⟩])
  (.seq (.reg 0 [⟨(some 27), .load 7 true (.t 2), none⟩,
      ⟨none, .store 7 (.t 4) (.t 27), none⟩,
      ⟨(some 5), .mv (.c (.v (.int .i64 0))), none⟩])
  (.ret))))))⟩
theorem A16_is : compFn Try.prog md Try.f16 = some { A16 with code := A16.code.erase } := by kernel_rfl

/-- peristyle/peristyleref11.Abort -/
def A17 : AFn := ⟨23, [.cell 4 7 true, .tmp 5],
  .seq (.reg 2 [⟨(some 2), .box 0 (.t 0), none⟩,
      ⟨(some 4), .alloc 1 [.nils, .nils, (.v (.int .i64 0)), (.v (.int .i64 0)), (.v (.int .i64 0)), (.v (.int .i64 0)), .nils], none⟩,
      ⟨(some 5), .mv (.c (.v (.int .i64 0))), none⟩])
  (.seq (.seq (.reg 0 [⟨(some 8), .load 7 true (.t 2), none⟩,
      ⟨(some 9), .call 0 12 [(.t 8)], none⟩,
      ⟨(some 6), .mv (.t 9), none⟩])
  (.seq (.reg 0 [⟨(some 10), .mv (.t 6), none⟩,
      ⟨(some 11), .bin .neq (.t 10) (.c (.v (.int .i64 0))), none⟩])
  (.cond (.t 11)
    (.seq (.reg 0 [⟨(some 12), .build [.nils, .nils, (.v (.int .i64 0)), (.v (.int .i64 0)), (.v (.int .i64 0)), (.v (.int .i64 0)), .nils] [], none⟩,
        ⟨(some 13), .mv (.t 6), none⟩,
        ⟨none, .store 7 (.t 4) (.t 12), none⟩,
        ⟨(some 5), .mv (.t 13), none⟩])
    (.ret))
    (.skip))))
  (.seq (.reg 0 [⟨(some 14), .load 7 true (.t 2), none⟩,
      ⟨(some 15), .mv (.t 1), none⟩,
      ⟨(some 16), .call 0 54 [(.t 14), (.t 15)], none⟩,
      ⟨(some 7), .mv (.t 16), none⟩])
  (.seq (.seq (.reg 0 [⟨(some 17), .mv (.t 7), none⟩,
      ⟨(some 18), .bin .lss (.t 17) (.c (.v (.int .i64 0))), none⟩])
  (.cond (.t 18)
    (.seq (.reg 0 [⟨(some 19), .build [.nils, .nils, (.v (.int .i64 0)), (.v (.int .i64 0)), (.v (.int .i64 0)), (.v (.int .i64 0)), .nils] [], none⟩,
        ⟨none, .store 7 (.t 4) (.t 19), none⟩,
        ⟨(some 5), .mv (.c (.v (.int .i64 6))), none⟩])
    (.ret))
    (.skip)))
  (.seq (.reg 0 [⟨(some 20), .load 7 true (.t 2), none⟩,
      ⟨(some 21), .mv (.t 7), none⟩,
      ⟨(some 22), .call 0 55 [(.t 20), (.t 21)], none⟩,
      ⟨none, .store 7 (.t 4) (.t 22), none⟩,
      ⟨(some 5), .mv (.c (.v (.int .i64 0))), none⟩])
  (.ret)))))⟩
theorem A17_is : compFn Try.prog md Try.f17 = some { A17 with code := A17.code.erase } := by kernel_rfl

/-- peristyle/peristylelaw11.awake -/
def A18 : AFn := ⟨16, [.tmp 0],
  .seq (.reg 0 [⟨(some 0), .mv (.c (.v (.bool false))), none⟩])
  (.seq (.reg 1 [⟨(some 4), .build [(.v (.string ⟨#[]⟩)), (.v (.int .i64 0))] [(0, 1, (.c (.v (.string ⟨#[97]⟩)))), (1, 1, (.c (.v (.int .i64 2))))], none⟩,
      ⟨(some 5), .bsl 2 1 [(.v (.string ⟨#[]⟩)), (.v (.int .i64 0))] [(0, (.t 4))], none⟩,
      ⟨(some 6), .call 0 9 [(.t 5)], none⟩,
      ⟨(some 3), .mv (.t 6), none⟩,
      ⟨(some 7), .ext 0 (.t 3), none⟩,
      ⟨(some 8), .ext 1 (.t 3), none⟩,
      ⟨(some 1), .alloc 0 [.nils, .nils, (.v (.int .i64 0)), (.v (.int .i64 0)), (.v (.int .i64 0)), (.v (.int .i64 0)), .nils], none⟩,
      ⟨none, .store 7 (.t 1) (.t 7), none⟩,
      ⟨(some 2), .mv (.t 8), none⟩])
  (.seq (.reg 0 [⟨(some 9), .mv (.t 2), none⟩,
      ⟨(some 10), .bin .eql (.t 9) (.c (.v (.int .i64 0))), none⟩,
      ⟨(some 11), .mv (.t 10), none⟩,
      ⟨(some 12), .fa 3 (.t 1), (some (11, true))⟩,
      ⟨(some 13), .load 1 false (.t 12), (some (11, true))⟩,
      ⟨(some 14), .bin .eql (.t 13) (.c (.v (.int .i64 1))), (some (11, true))⟩,
      ⟨(some 15), .pick (.t 11) (.t 14) (.c (.v (.bool false))), none⟩,
      ⟨(some 0), .mv (.t 15), none⟩])
  (.ret)))⟩
theorem A18_is : compFn Try.prog md Try.f18 = some { A18 with code := A18.code.erase } := by kernel_rfl

/-- peristyle/store.Insert -/
def A19 : AFn := ⟨71, [.cell 6 7 true, .tmp 7, .tmp 8],
  .seq (.reg 2 [⟨(some 3), .box 0 (.t 0), none⟩,
      ⟨(some 6), .alloc 1 [.nils, .nils, (.v (.int .i64 0)), (.v (.int .i64 0)), (.v (.int .i64 0)), (.v (.int .i64 0)), .nils], none⟩,
      ⟨(some 7), .mv (.c (.v (.int .i64 0))), none⟩,
      ⟨(some 8), .mv (.c (.v (.int .i64 0))), none⟩])
  (.seq (.reg 0 [⟨(some 14), .load 7 true (.t 3), none⟩,
      ⟨(some 15), .mv (.t 1), none⟩,
      ⟨(some 16), .call 0 52 [(.t 14), (.t 15)], none⟩,
      ⟨(some 13), .mv (.t 16), none⟩,
      ⟨(some 17), .ext 0 (.t 13), none⟩,
      ⟨(some 18), .ext 1 (.t 13), none⟩,
      ⟨(some 9), .mv (.t 17), none⟩,
      ⟨(some 10), .mv (.t 18), none⟩])
  (.seq (.seq (.reg 0 [⟨(some 19), .mv (.t 10), none⟩,
      ⟨(some 20), .bin .neq (.t 19) (.c (.v (.int .i64 0))), none⟩])
  (.cond (.t 20)
    (.seq (.reg 0 [⟨(some 21), .build [.nils, .nils, (.v (.int .i64 0)), (.v (.int .i64 0)), (.v (.int .i64 0)), (.v (.int .i64 0)), .nils] [], none⟩,
        ⟨(some 22), .mv (.t 10), none⟩,
        ⟨none, .store 7 (.t 6) (.t 21), none⟩,
        ⟨(some 7), .mv (.c (.v (.int .i64 0))), none⟩,
        ⟨(some 8), .mv (.t 22), none⟩])
    (.ret))
    (.skip)))
  (.seq (.seq (.reg 0 [⟨(some 23), .fa 0 (.t 3), none⟩,
      ⟨(some 24), .load 1 false (.t 23), none⟩,
      ⟨(some 25), .mv (.t 2), none⟩,
      ⟨(some 26), .call 0 56 [(.t 24), (.t 25)], none⟩,
      ⟨(some 11), .mv (.t 26), none⟩])
  (.seq (.reg 0 [⟨(some 27), .mv (.t 11), none⟩,
      ⟨(some 28), .bin .neq (.t 27) (.c (.v (.int .i64 0))), none⟩])
  (.cond (.t 28)
    (.seq (.reg 0 [⟨(some 29), .build [.nils, .nils, (.v (.int .i64 0)), (.v (.int .i64 0)), (.v (.int .i64 0)), (.v (.int .i64 0)), .nils] [], none⟩,
        ⟨(some 30), .mv (.t 11), none⟩,
        ⟨none, .store 7 (.t 6) (.t 29), none⟩,
        ⟨(some 7), .mv (.c (.v (.int .i64 0))), none⟩,
        ⟨(some 8), .mv (.t 30), none⟩])
    (.ret))
    (.skip))))
  (.seq (.seq (.reg 0 [⟨(some 31), .fa 3 (.t 3), none⟩,
      ⟨(some 32), .load 1 false (.t 31), none⟩,
      ⟨(some 33), .bin .eql (.t 32) (.c (.v (.int .i64 1000000))), none⟩])
  (.cond (.t 33)
    (.seq (.reg 0 [⟨(some 34), .build [.nils, .nils, (.v (.int .i64 0)), (.v (.int .i64 0)), (.v (.int .i64 0)), (.v (.int .i64 0)), .nils] [], none⟩,
        ⟨none, .store 7 (.t 6) (.t 34), none⟩,
        ⟨(some 7), .mv (.c (.v (.int .i64 0))), none⟩,
        ⟨(some 8), .mv (.c (.v (.int .i64 14))), none⟩])
    (.ret))
    (.skip)))
  (.seq (.seq (.reg 0 [⟨(some 35), .fa 6 (.t 3), none⟩,
      ⟨(some 36), .load 1 false (.t 35), none⟩,
      ⟨(some 37), .mv (.t 9), none⟩,
      ⟨(some 38), .ia 3 (.t 36) (.t 37), none⟩,
      ⟨(some 39), .fa 2 (.t 38), none⟩,
      ⟨(some 40), .load 1 false (.t 39), none⟩,
      ⟨(some 41), .len false (.t 40), none⟩,
      ⟨(some 42), .bin .eql (.t 41) (.c (.v (.int .i64 200))), none⟩])
  (.cond (.t 42)
    (.seq (.reg 0 [⟨(some 43), .build [.nils, .nils, (.v (.int .i64 0)), (.v (.int .i64 0)), (.v (.int .i64 0)), (.v (.int .i64 0)), .nils] [], none⟩,
        ⟨none, .store 7 (.t 6) (.t 43), none⟩,
        ⟨(some 7), .mv (.c (.v (.int .i64 0))), none⟩,
        ⟨(some 8), .mv (.c (.v (.int .i64 2))), none⟩])
    (.ret))
    (.skip)))
  (.seq (.reg 0 [⟨(some 44), .load 7 true (.t 3), none⟩,
      ⟨(some 45), .call 1 51 [(.t 44)], none⟩,
      ⟨none, .store 7 (.t 3) (.t 45), none⟩])
  (.seq (.reg 0 [⟨(some 46), .fa 3 (.t 3), none⟩,
      ⟨(some 47), .load 1 false (.t 46), none⟩,
      ⟨(some 12), .mv (.t 47), none⟩])
  (.seq (.dreg 0 [⟨(some 48), .fa 6 (.t 3), none⟩,
      ⟨(some 49), .load 1 false (.t 48), none⟩,
      ⟨(some 50), .mv (.t 9), none⟩,
      ⟨(some 51), .fa 6 (.t 3), none⟩,
      ⟨(some 52), .load 1 false (.t 51), none⟩,
      ⟨(some 53), .mv (.t 9), none⟩,
      ⟨(some 54), .ia 3 (.t 52) (.t 53), none⟩,
      ⟨(some 55), .fa 2 (.t 54), none⟩,
      ⟨(some 56), .load 1 false (.t 55), none⟩,
      ⟨(some 57), .mv (.t 12), none⟩,
      ⟨(some 58), .mv (.t 2), none⟩,
      ⟨(some 59), .call 0 57 [(.t 58)], none⟩,
      ⟨(some 60), .build [(.v (.int .i64 0)), (.v (.int .i64 0)), .nils] [(0, 1, (.c (.v (.int .i64 1)))), (1, 1, (.t 57)), (2, 1, (.t 59))], none⟩,
      ⟨(some 61), .bsl 3 1 [(.v (.int .i64 0)), (.v (.int .i64 0)), .nils] [(0, (.t 60))], none⟩,
      ⟨(some 62), .app 3 40 (.t 56) (.t 61), none⟩,
      ⟨(some 63), .ia 3 (.t 49) (.t 50), none⟩,
      ⟨(some 64), .fa 2 (.t 63), none⟩,
      ⟨none, .store 1 (.t 64) (.t 62), none⟩] [(1, 4), (1, 6), (1, 8), (1, 11), (4, 11), (6, 11), (8, 11), (1, 13), (4, 13), (6, 13), (8, 13), (1, 14)])
  (.seq (.reg 0 [⟨(some 65), .fa 3 (.t 3), none⟩,
      ⟨(some 66), .load 1 false (.t 65), none⟩,
      ⟨(some 67), .bin .add (.t 66) (.c (.v (.int .i64 1))), none⟩,
      ⟨(some 68), .fa 3 (.t 3), none⟩,
      ⟨none, .store 1 (.t 68) (.t 67), none⟩])
  (.seq (.reg 0 [⟨(some 69), .load 7 true (.t 3), none⟩,
      ⟨(some 70), .mv (.t 12), none⟩,
      ⟨none, .store 7 (.t 6) (.t 69), none⟩,
      ⟨(some 7), .mv (.t 70), none⟩,
      ⟨(some 8), .mv (.c (.v (.int .i64 0))), none⟩])
  (.ret)))))))))))⟩
theorem A19_is : compFn Try.prog md Try.f19 = some { A19 with code := A19.code.erase } := by kernel_rfl

/-- peristyle/peristyleref11.Insert -/
def A20 : AFn := ⟨59, [.cell 6 7 true, .tmp 7, .tmp 8],
  .seq (.reg 2 [⟨(some 3), .box 0 (.t 0), none⟩,
      ⟨(some 6), .alloc 1 [.nils, .nils, (.v (.int .i64 0)), (.v (.int .i64 0)), (.v (.int .i64 0)), (.v (.int .i64 0)), .nils], none⟩,
      ⟨(some 7), .mv (.c (.v (.int .i64 0))), none⟩,
      ⟨(some 8), .mv (.c (.v (.int .i64 0))), none⟩])
  (.seq (.seq (.reg 0 [⟨(some 13), .load 7 true (.t 3), none⟩,
      ⟨(some 14), .call 0 12 [(.t 13)], none⟩,
      ⟨(some 9), .mv (.t 14), none⟩])
  (.seq (.reg 0 [⟨(some 15), .mv (.t 9), none⟩,
      ⟨(some 16), .bin .neq (.t 15) (.c (.v (.int .i64 0))), none⟩])
  (.cond (.t 16)
    (.seq (.reg 0 [⟨(some 17), .build [.nils, .nils, (.v (.int .i64 0)), (.v (.int .i64 0)), (.v (.int .i64 0)), (.v (.int .i64 0)), .nils] [], none⟩,
        ⟨(some 18), .mv (.t 9), none⟩,
        ⟨none, .store 7 (.t 6) (.t 17), none⟩,
        ⟨(some 7), .mv (.c (.v (.int .i64 0))), none⟩,
        ⟨(some 8), .mv (.t 18), none⟩])
    (.ret))
    (.skip))))
  (.seq (.reg 0 [⟨(some 19), .load 7 true (.t 3), none⟩,
      ⟨(some 20), .mv (.t 1), none⟩,
      ⟨(some 21), .call 0 54 [(.t 19), (.t 20)], none⟩,
      ⟨(some 10), .mv (.t 21), none⟩])
  (.seq (.seq (.reg 0 [⟨(some 22), .mv (.t 10), none⟩,
      ⟨(some 23), .bin .lss (.t 22) (.c (.v (.int .i64 0))), none⟩])
  (.cond (.t 23)
    (.seq (.reg 0 [⟨(some 24), .build [.nils, .nils, (.v (.int .i64 0)), (.v (.int .i64 0)), (.v (.int .i64 0)), (.v (.int .i64 0)), .nils] [], none⟩,
        ⟨none, .store 7 (.t 6) (.t 24), none⟩,
        ⟨(some 7), .mv (.c (.v (.int .i64 0))), none⟩,
        ⟨(some 8), .mv (.c (.v (.int .i64 6))), none⟩])
    (.ret))
    (.skip)))
  (.seq (.seq (.reg 0 [⟨(some 25), .fa 0 (.t 3), none⟩,
      ⟨(some 26), .load 1 false (.t 25), none⟩,
      ⟨(some 27), .mv (.t 2), none⟩,
      ⟨(some 28), .call 0 58 [(.t 26), (.t 27)], none⟩,
      ⟨(some 11), .mv (.t 28), none⟩])
  (.seq (.reg 0 [⟨(some 29), .mv (.t 11), none⟩,
      ⟨(some 30), .bin .neq (.t 29) (.c (.v (.int .i64 0))), none⟩])
  (.cond (.t 30)
    (.seq (.reg 0 [⟨(some 31), .build [.nils, .nils, (.v (.int .i64 0)), (.v (.int .i64 0)), (.v (.int .i64 0)), (.v (.int .i64 0)), .nils] [], none⟩,
        ⟨(some 32), .mv (.t 11), none⟩,
        ⟨none, .store 7 (.t 6) (.t 31), none⟩,
        ⟨(some 7), .mv (.c (.v (.int .i64 0))), none⟩,
        ⟨(some 8), .mv (.t 32), none⟩])
    (.ret))
    (.skip))))
  (.seq (.seq (.reg 0 [⟨(some 33), .fa 3 (.t 3), none⟩,
      ⟨(some 34), .load 1 false (.t 33), none⟩,
      ⟨(some 35), .bin .eql (.t 34) (.c (.v (.int .i64 1000000))), none⟩])
  (.cond (.t 35)
    (.seq (.reg 0 [⟨(some 36), .build [.nils, .nils, (.v (.int .i64 0)), (.v (.int .i64 0)), (.v (.int .i64 0)), (.v (.int .i64 0)), .nils] [], none⟩,
        ⟨none, .store 7 (.t 6) (.t 36), none⟩,
        ⟨(some 7), .mv (.c (.v (.int .i64 0))), none⟩,
        ⟨(some 8), .mv (.c (.v (.int .i64 14))), none⟩])
    (.ret))
    (.skip)))
  (.seq (.seq (.reg 0 [⟨(some 37), .fa 6 (.t 3), none⟩,
      ⟨(some 38), .load 1 false (.t 37), none⟩,
      ⟨(some 39), .mv (.t 10), none⟩,
      ⟨(some 40), .ia 3 (.t 38) (.t 39), none⟩,
      ⟨(some 41), .fa 2 (.t 40), none⟩,
      ⟨(some 42), .load 1 false (.t 41), none⟩,
      ⟨(some 43), .len false (.t 42), none⟩,
      ⟨(some 44), .bin .eql (.t 43) (.c (.v (.int .i64 200))), none⟩])
  (.cond (.t 44)
    (.seq (.reg 0 [⟨(some 45), .build [.nils, .nils, (.v (.int .i64 0)), (.v (.int .i64 0)), (.v (.int .i64 0)), (.v (.int .i64 0)), .nils] [], none⟩,
        ⟨none, .store 7 (.t 6) (.t 45), none⟩,
        ⟨(some 7), .mv (.c (.v (.int .i64 0))), none⟩,
        ⟨(some 8), .mv (.c (.v (.int .i64 2))), none⟩])
    (.ret))
    (.skip)))
  (.seq (.reg 0 [⟨(some 46), .fa 3 (.t 3), none⟩,
      ⟨(some 47), .load 1 false (.t 46), none⟩,
      ⟨(some 12), .mv (.t 47), none⟩])
  (.seq (.reg 0 [⟨(some 48), .fa 3 (.t 3), none⟩,
      ⟨(some 49), .load 1 false (.t 48), none⟩,
      ⟨(some 50), .bin .add (.t 49) (.c (.v (.int .i64 1))), none⟩,
      ⟨(some 51), .fa 3 (.t 3), none⟩,
      ⟨none, .store 1 (.t 51) (.t 50), none⟩])
  (.seq (.reg 0 [⟨(some 52), .load 7 true (.t 3), none⟩,
      ⟨(some 53), .mv (.t 10), none⟩,
      ⟨(some 54), .mv (.t 12), none⟩,
      ⟨(some 55), .mv (.t 2), none⟩,
      ⟨(some 56), .build [(.v (.int .i64 0)), (.v (.int .i64 0)), .nils] [(0, 1, (.c (.v (.int .i64 1)))), (1, 1, (.t 54)), (2, 1, (.t 55))], none⟩,
      ⟨(some 57), .call 0 59 [(.t 52), (.t 53), (.t 56)], none⟩,
      ⟨(some 58), .mv (.t 12), none⟩,
      ⟨none, .store 7 (.t 6) (.t 57), none⟩,
      ⟨(some 7), .mv (.t 58), none⟩,
      ⟨(some 8), .mv (.c (.v (.int .i64 0))), none⟩])
  (.ret))))))))))⟩
theorem A20_is : compFn Try.prog md Try.f20 = some { A20 with code := A20.code.erase } := by kernel_rfl

/-- peristyle/store.Delete -/
def A21 : AFn := ⟨27, [.cell 6 7 true, .tmp 7],
  .seq (.reg 2 [⟨(some 3), .box 0 (.t 0), none⟩,
      ⟨(some 6), .alloc 1 [.nils, .nils, (.v (.int .i64 0)), (.v (.int .i64 0)), (.v (.int .i64 0)), (.v (.int .i64 0)), .nils], none⟩,
      ⟨(some 7), .mv (.c (.v (.int .i64 0))), none⟩])
  (.seq (.reg 0 [⟨(some 11), .load 7 true (.t 3), none⟩,
      ⟨(some 12), .mv (.t 1), none⟩,
      ⟨(some 13), .call 0 52 [(.t 11), (.t 12)], none⟩,
      ⟨(some 10), .mv (.t 13), none⟩,
      ⟨(some 14), .ext 0 (.t 10), none⟩,
      ⟨(some 15), .ext 1 (.t 10), none⟩,
      ⟨(some 8), .mv (.t 14), none⟩,
      ⟨(some 9), .mv (.t 15), none⟩])
  (.seq (.seq (.reg 0 [⟨(some 16), .mv (.t 9), none⟩,
      ⟨(some 17), .bin .neq (.t 16) (.c (.v (.int .i64 0))), none⟩])
  (.cond (.t 17)
    (.seq (.reg 0 [⟨(some 18), .build [.nils, .nils, (.v (.int .i64 0)), (.v (.int .i64 0)), (.v (.int .i64 0)), (.v (.int .i64 0)), .nils] [], none⟩,
        ⟨(some 19), .mv (.t 9), none⟩,
        ⟨none, .store 7 (.t 6) (.t 18), none⟩,
        ⟨(some 7), .mv (.t 19), none⟩])
    (.ret))
    (.skip)))
  (.seq (.reg 0 [⟨(some 20), .load 7 true (.t 3), none⟩,
      ⟨(some 21), .mv (.t 8), none⟩,
      ⟨(some 22), .mv (.t 2), none⟩,
      ⟨(some 23), .build [(.v (.int .i64 0)), (.v (.int .i64 0)), .nils] [(0, 1, (.c (.v (.int .i64 2)))), (1, 1, (.t 22))], none⟩,
      ⟨(some 24), .call 0 60 [(.t 20), (.t 21), (.t 23)], none⟩,
      ⟨(some 25), .ext 0 (.t 24), none⟩,
      ⟨(some 26), .ext 1 (.t 24), none⟩,
      ⟨none, .store 7 (.t 6) (.t 25), none⟩,
      ⟨(some 7), .mv (.t 26), none⟩])
  (.ret))))⟩
theorem A21_is : compFn Try.prog md Try.f21 = some { A21 with code := A21.code.erase } := by kernel_rfl

/-- peristyle/peristyleref11.Delete -/
def A22 : AFn := ⟨15, [.cell 6 7 true, .tmp 7],
  .seq (.reg 2 [⟨(some 3), .box 0 (.t 0), none⟩,
      ⟨(some 6), .alloc 1 [.nils, .nils, (.v (.int .i64 0)), (.v (.int .i64 0)), (.v (.int .i64 0)), (.v (.int .i64 0)), .nils], none⟩,
      ⟨(some 7), .mv (.c (.v (.int .i64 0))), none⟩])
  (.seq (.reg 0 [⟨(some 8), .load 7 true (.t 3), none⟩,
      ⟨(some 9), .mv (.t 1), none⟩,
      ⟨(some 10), .mv (.t 2), none⟩,
      ⟨(some 11), .build [(.v (.int .i64 0)), (.v (.int .i64 0)), .nils] [(0, 1, (.c (.v (.int .i64 2)))), (1, 1, (.t 10))], none⟩,
      ⟨(some 12), .call 0 61 [(.t 8), (.t 9), (.t 11)], none⟩,
      ⟨(some 13), .ext 0 (.t 12), none⟩,
      ⟨(some 14), .ext 1 (.t 12), none⟩,
      ⟨none, .store 7 (.t 6) (.t 13), none⟩,
      ⟨(some 7), .mv (.t 14), none⟩])
  (.ret))⟩
theorem A22_is : compFn Try.prog md Try.f22 = some { A22 with code := A22.code.erase } := by kernel_rfl

/-- peristyle/store.Update -/
def A23 : AFn := ⟨40, [.cell 8 7 true, .tmp 9],
  .seq (.reg 2 [⟨(some 4), .box 0 (.t 0), none⟩,
      ⟨(some 8), .alloc 1 [.nils, .nils, (.v (.int .i64 0)), (.v (.int .i64 0)), (.v (.int .i64 0)), (.v (.int .i64 0)), .nils], none⟩,
      ⟨(some 9), .mv (.c (.v (.int .i64 0))), none⟩])
  (.seq (.reg 0 [⟨(some 14), .load 7 true (.t 4), none⟩,
      ⟨(some 15), .mv (.t 1), none⟩,
      ⟨(some 16), .call 0 52 [(.t 14), (.t 15)], none⟩,
      ⟨(some 13), .mv (.t 16), none⟩,
      ⟨(some 17), .ext 0 (.t 13), none⟩,
      ⟨(some 18), .ext 1 (.t 13), none⟩,
      ⟨(some 10), .mv (.t 17), none⟩,
      ⟨(some 11), .mv (.t 18), none⟩])
  (.seq (.seq (.reg 0 [⟨(some 19), .mv (.t 11), none⟩,
      ⟨(some 20), .bin .neq (.t 19) (.c (.v (.int .i64 0))), none⟩])
  (.cond (.t 20)
    (.seq (.reg 0 [⟨(some 21), .build [.nils, .nils, (.v (.int .i64 0)), (.v (.int .i64 0)), (.v (.int .i64 0)), (.v (.int .i64 0)), .nils] [], none⟩,
        ⟨(some 22), .mv (.t 11), none⟩,
        ⟨none, .store 7 (.t 8) (.t 21), none⟩,
        ⟨(some 9), .mv (.t 22), none⟩])
    (.ret))
    (.skip)))
  (.seq (.seq (.reg 0 [⟨(some 23), .fa 0 (.t 4), none⟩,
      ⟨(some 24), .load 1 false (.t 23), none⟩,
      ⟨(some 25), .mv (.t 3), none⟩,
      ⟨(some 26), .call 0 56 [(.t 24), (.t 25)], none⟩,
      ⟨(some 12), .mv (.t 26), none⟩])
  (.seq (.reg 0 [⟨(some 27), .mv (.t 12), none⟩,
      ⟨(some 28), .bin .neq (.t 27) (.c (.v (.int .i64 0))), none⟩])
  (.cond (.t 28)
    (.seq (.reg 0 [⟨(some 29), .build [.nils, .nils, (.v (.int .i64 0)), (.v (.int .i64 0)), (.v (.int .i64 0)), (.v (.int .i64 0)), .nils] [], none⟩,
        ⟨(some 30), .mv (.t 12), none⟩,
        ⟨none, .store 7 (.t 8) (.t 29), none⟩,
        ⟨(some 9), .mv (.t 30), none⟩])
    (.ret))
    (.skip))))
  (.seq (.dreg 0 [⟨(some 31), .load 7 true (.t 4), none⟩,
      ⟨(some 32), .mv (.t 10), none⟩,
      ⟨(some 33), .mv (.t 2), none⟩,
      ⟨(some 34), .mv (.t 3), none⟩,
      ⟨(some 35), .call 0 57 [(.t 34)], none⟩,
      ⟨(some 36), .build [(.v (.int .i64 0)), (.v (.int .i64 0)), .nils] [(0, 1, (.c (.v (.int .i64 3)))), (1, 1, (.t 33)), (2, 1, (.t 35))], none⟩,
      ⟨(some 37), .call 0 60 [(.t 31), (.t 32), (.t 36)], none⟩,
      ⟨(some 38), .ext 0 (.t 37), none⟩,
      ⟨(some 39), .ext 1 (.t 37), none⟩,
      ⟨none, .store 7 (.t 8) (.t 38), none⟩,
      ⟨(some 9), .mv (.t 39), none⟩] [(0, 4)])
  (.ret)))))⟩
theorem A23_is : compFn Try.prog md Try.f23 = some { A23 with code := A23.code.erase } := by kernel_rfl

/-- peristyle/peristyleref11.Update -/
def A24 : AFn := ⟨18, [.cell 8 7 true, .tmp 9],
  .seq (.reg 2 [⟨(some 4), .box 0 (.t 0), none⟩,
      ⟨(some 8), .alloc 1 [.nils, .nils, (.v (.int .i64 0)), (.v (.int .i64 0)), (.v (.int .i64 0)), (.v (.int .i64 0)), .nils], none⟩,
      ⟨(some 9), .mv (.c (.v (.int .i64 0))), none⟩])
  (.seq (.reg 0 [⟨(some 10), .load 7 true (.t 4), none⟩,
      ⟨(some 11), .mv (.t 1), none⟩,
      ⟨(some 12), .mv (.t 2), none⟩,
      ⟨(some 13), .mv (.t 3), none⟩,
      ⟨(some 14), .build [(.v (.int .i64 0)), (.v (.int .i64 0)), .nils] [(0, 1, (.c (.v (.int .i64 3)))), (1, 1, (.t 12)), (2, 1, (.t 13))], none⟩,
      ⟨(some 15), .call 0 61 [(.t 10), (.t 11), (.t 14)], none⟩,
      ⟨(some 16), .ext 0 (.t 15), none⟩,
      ⟨(some 17), .ext 1 (.t 15), none⟩,
      ⟨none, .store 7 (.t 8) (.t 16), none⟩,
      ⟨(some 9), .mv (.t 17), none⟩])
  (.ret))⟩
theorem A24_is : compFn Try.prog md Try.f24 = some { A24 with code := A24.code.erase } := by kernel_rfl

/-- peristyle/store.Oldest -/
def A25 : AFn := ⟨12, [.tmp 2, .tmp 3],
  .seq (.reg 1 [⟨(some 1), .box 0 (.t 0), none⟩,
      ⟨(some 2), .mv (.c (.v (.int .i64 0))), none⟩,
      ⟨(some 3), .mv (.c (.v (.int .i64 0))), none⟩])
  (.seq (.seq (.reg 0 [⟨(some 5), .load 7 true (.t 1), none⟩,
      ⟨(some 6), .call 0 11 [(.t 5)], none⟩,
      ⟨(some 4), .mv (.t 6), none⟩])
  (.seq (.reg 0 [⟨(some 7), .mv (.t 4), none⟩,
      ⟨(some 8), .bin .neq (.t 7) (.c (.v (.int .i64 0))), none⟩])
  (.cond (.t 8)
    (.seq (.reg 0 [⟨(some 9), .mv (.t 4), none⟩,
        ⟨(some 2), .mv (.c (.v (.int .i64 0))), none⟩,
        ⟨(some 3), .mv (.t 9), none⟩])
    (.ret))
    (.skip))))
  (.seq (.reg 0 [⟨(some 10), .load 7 true (.t 1), none⟩,
      ⟨(some 11), .call 0 62 [(.t 10)], none⟩,
      ⟨(some 2), .mv (.t 11), none⟩,
      ⟨(some 3), .mv (.c (.v (.int .i64 0))), none⟩])
  (.ret)))⟩
theorem A25_is : compFn Try.prog md Try.f25 = some { A25 with code := A25.code.erase } := by kernel_rfl

/-- peristyle/peristyleref11.Oldest -/
def A26 : AFn := ⟨12, [.tmp 2, .tmp 3],
  .seq (.reg 1 [⟨(some 1), .box 0 (.t 0), none⟩,
      ⟨(some 2), .mv (.c (.v (.int .i64 0))), none⟩,
      ⟨(some 3), .mv (.c (.v (.int .i64 0))), none⟩])
  (.seq (.seq (.reg 0 [⟨(some 5), .load 7 true (.t 1), none⟩,
      ⟨(some 6), .call 0 12 [(.t 5)], none⟩,
      ⟨(some 4), .mv (.t 6), none⟩])
  (.seq (.reg 0 [⟨(some 7), .mv (.t 4), none⟩,
      ⟨(some 8), .bin .neq (.t 7) (.c (.v (.int .i64 0))), none⟩])
  (.cond (.t 8)
    (.seq (.reg 0 [⟨(some 9), .mv (.t 4), none⟩,
        ⟨(some 2), .mv (.c (.v (.int .i64 0))), none⟩,
        ⟨(some 3), .mv (.t 9), none⟩])
    (.ret))
    (.skip))))
  (.seq (.reg 0 [⟨(some 10), .load 7 true (.t 1), none⟩,
      ⟨(some 11), .call 0 63 [(.t 10)], none⟩,
      ⟨(some 2), .mv (.t 11), none⟩,
      ⟨(some 3), .mv (.c (.v (.int .i64 0))), none⟩])
  (.ret)))⟩
theorem A26_is : compFn Try.prog md Try.f26 = some { A26 with code := A26.code.erase } := by kernel_rfl

/-- peristyle/store.Sweep -/
def A27 : AFn := ⟨47, [.cell 4 7 true, .tmp 5, .tmp 6],
  .seq (.reg 3 [⟨(some 2), .box 0 (.t 0), none⟩,
      ⟨(some 3), .box 1 (.t 1), none⟩,
      ⟨(some 4), .alloc 2 [.nils, .nils, (.v (.int .i64 0)), (.v (.int .i64 0)), (.v (.int .i64 0)), (.v (.int .i64 0)), .nils], none⟩,
      ⟨(some 5), .mv (.c (.v (.int .i64 0))), none⟩,
      ⟨(some 6), .mv (.c (.v (.int .i64 0))), none⟩])
  (.seq (.seq (.reg 0 [⟨(some 9), .load 7 true (.t 2), none⟩,
      ⟨(some 10), .call 0 11 [(.t 9)], none⟩,
      ⟨(some 7), .mv (.t 10), none⟩])
  (.seq (.reg 0 [⟨(some 11), .mv (.t 7), none⟩,
      ⟨(some 12), .bin .neq (.t 11) (.c (.v (.int .i64 0))), none⟩])
  (.cond (.t 12)
    (.seq (.reg 0 [⟨(some 13), .build [.nils, .nils, (.v (.int .i64 0)), (.v (.int .i64 0)), (.v (.int .i64 0)), (.v (.int .i64 0)), .nils] [], none⟩,
        ⟨(some 14), .mv (.t 7), none⟩,
        ⟨none, .store 7 (.t 4) (.t 13), none⟩,
        ⟨(some 5), .mv (.c (.v (.int .i64 0))), none⟩,
        ⟨(some 6), .mv (.t 14), none⟩])
    (.ret))
    (.skip))))
  (.seq (.seq (.reg 0 [⟨(some 15), .load 1 false (.t 3), none⟩,
      ⟨(some 16), .fa 2 (.t 2), none⟩,
      ⟨(some 17), .load 1 false (.t 16), none⟩,
      ⟨(some 18), .call 0 44 [(.t 15), (.c (.v (.int .i64 0))), (.t 17)], none⟩,
      ⟨(some 19), .un .not (.t 18), none⟩])
  (.cond (.t 19)
    (.seq (.reg 0 [⟨(some 20), .build [.nils, .nils, (.v (.int .i64 0)), (.v (.int .i64 0)), (.v (.int .i64 0)), (.v (.int .i64 0)), .nils] [], none⟩,
        ⟨none, .store 7 (.t 4) (.t 20), none⟩,
        ⟨(some 5), .mv (.c (.v (.int .i64 0))), none⟩,
        ⟨(some 6), .mv (.c (.v (.int .i64 1))), none⟩])
    (.ret))
    (.skip)))
  (.seq (.seq (.dreg 0 [⟨(some 21), .load 1 false (.t 3), none⟩,
      ⟨(some 22), .load 7 true (.t 2), none⟩,
      ⟨(some 23), .call 0 62 [(.t 22)], none⟩,
      ⟨(some 24), .bin .gtr (.t 21) (.t 23), none⟩] [(0, 1), (0, 2)])
  (.cond (.t 24)
    (.seq (.reg 0 [⟨(some 25), .build [.nils, .nils, (.v (.int .i64 0)), (.v (.int .i64 0)), (.v (.int .i64 0)), (.v (.int .i64 0)), .nils] [], none⟩,
        ⟨none, .store 7 (.t 4) (.t 25), none⟩,
        ⟨(some 5), .mv (.c (.v (.int .i64 0))), none⟩,
        ⟨(some 6), .mv (.c (.v (.int .i64 11))), none⟩])
    (.ret))
    (.skip)))
  (.seq (.reg 0 [⟨(some 26), .load 7 true (.t 2), none⟩,
      ⟨(some 27), .call 1 51 [(.t 26)], none⟩,
      ⟨none, .store 7 (.t 2) (.t 27), none⟩])
  (.seq (.reg 0 [⟨(some 28), .fa 1 (.t 2), none⟩,
      ⟨(some 29), .load 1 false (.t 28), none⟩,
      ⟨(some 30), .len false (.t 29), none⟩,
      ⟨(some 8), .mv (.t 30), none⟩])
  (.seq (.reg 0 [⟨(some 31), .fa 1 (.t 2), none⟩,
      ⟨(some 32), .load 1 false (.t 31), none⟩,
      ⟨(some 33), .mkf 65 [(.t 3)], none⟩,
      ⟨(some 34), .call 2 64 [(.t 32), (.t 33)], none⟩,
      ⟨(some 35), .fa 1 (.t 2), none⟩,
      ⟨none, .store 1 (.t 35) (.t 34), none⟩])
  (.seq (.reg 0 [⟨(some 36), .fa 5 (.t 2), none⟩,
      ⟨(some 37), .load 1 false (.t 36), none⟩,
      ⟨(some 38), .load 1 false (.t 3), none⟩,
      ⟨(some 39), .mm true [(.t 37), (.t 38)], none⟩,
      ⟨(some 40), .fa 5 (.t 2), none⟩,
      ⟨none, .store 1 (.t 40) (.t 39), none⟩])
  (.seq (.dreg 0 [⟨(some 41), .load 7 true (.t 2), none⟩,
      ⟨(some 42), .mv (.t 8), none⟩,
      ⟨(some 43), .fa 1 (.t 2), none⟩,
      ⟨(some 44), .load 1 false (.t 43), none⟩,
      ⟨(some 45), .len false (.t 44), none⟩,
      ⟨(some 46), .bin .sub (.t 42) (.t 45), none⟩,
      ⟨none, .store 7 (.t 4) (.t 41), none⟩,
      ⟨(some 5), .mv (.t 46), none⟩,
      ⟨(some 6), .mv (.c (.v (.int .i64 0))), none⟩] [(0, 3), (0, 4), (3, 6), (4, 6)])
  (.ret)))))))))⟩
theorem A27_is : compFn Try.prog md Try.f27 = some { A27 with code := A27.code.erase } := by kernel_rfl

/-- peristyle/peristyleref11.Sweep -/
def A28M0 : List Bool := [false, true, true, false, true, false, false, false, true, true, false, false, false, false, false, false, false, false, false, false, false, false, false, false, false, false, false, false, false, false, false, false, false, false, false, false, false, false, false, false, false, false, false, false, false, false, false, false, false, false, false, false, false, false, false, false, false, false, false, false, false, false, false, false, false, false, false, false, false]
def A28L0 : AC :=
  .seq (.seq (.reg 0 [⟨(some 29), .mv (.t 9), none⟩,
      ⟨(some 30), .fa 1 (.t 2), none⟩,
      ⟨(some 31), .load 1 false (.t 30), none⟩,
      ⟨(some 32), .len false (.t 31), none⟩,
      ⟨(some 33), .bin .lss (.t 29) (.t 32), none⟩])
  (.cond (.t 33)
    (.skip)
    (.exit 0)))
  (.seq (.block 1
    (.seq (.reg 1 [⟨(some 36), .fa 1 (.t 2), none⟩,
        ⟨(some 37), .load 1 false (.t 36), none⟩,
        ⟨(some 38), .mv (.t 9), none⟩,
        ⟨(some 39), .ia 4 (.t 37) (.t 38), none⟩,
        ⟨(some 40), .load 4 true (.t 39), none⟩,
        ⟨(some 10), .alloc 0 [(.v (.int .i64 0)), (.v (.int .i64 0)), (.v (.int .i64 0)), .nils], none⟩,
        ⟨none, .store 4 (.t 10) (.t 40), none⟩])
    (.seq (.reg 0 [⟨(some 41), .fa 2 (.t 10), none⟩,
        ⟨(some 42), .load 1 false (.t 41), none⟩,
        ⟨(some 43), .bin .eql (.t 42) (.c (.v (.int .i64 0))), none⟩,
        ⟨(some 44), .mv (.t 43), none⟩,
        ⟨(some 45), .fa 2 (.t 10), (some (44, false))⟩,
        ⟨(some 46), .load 1 false (.t 45), (some (44, false))⟩,
        ⟨(some 47), .mv (.t 1), (some (44, false))⟩,
        ⟨(some 48), .bin .gtr (.t 46) (.t 47), (some (44, false))⟩,
        ⟨(some 49), .pick (.t 44) (.c (.v (.bool true))) (.t 48), none⟩])
    (.cond (.t 49)
      (.reg 0 [⟨(some 50), .mv (.t 8), none⟩,
          ⟨(some 51), .load 4 true (.t 10), none⟩,
          ⟨(some 52), .bsl 4 1 [(.v (.int .i64 0)), (.v (.int .i64 0)), (.v (.int .i64 0)), .nils] [(0, (.t 51))], none⟩,
          ⟨(some 53), .app 4 48 (.t 50) (.t 52), none⟩,
          ⟨(some 8), .mv (.t 53), none⟩])
      (.skip)))))
  (.reg 0 [⟨(some 34), .mv (.t 9), none⟩,
      ⟨(some 35), .bin .add (.t 34) (.c (.v (.int .i64 1))), none⟩,
      ⟨(some 9), .mv (.t 35), none⟩]))
def A28 : AFn := ⟨69, [.cell 4 7 true, .tmp 5, .tmp 6],
  .seq (.reg 2 [⟨(some 2), .box 0 (.t 0), none⟩,
      ⟨(some 4), .alloc 1 [.nils, .nils, (.v (.int .i64 0)), (.v (.int .i64 0)), (.v (.int .i64 0)), (.v (.int .i64 0)), .nils], none⟩,
      ⟨(some 5), .mv (.c (.v (.int .i64 0))), none⟩,
      ⟨(some 6), .mv (.c (.v (.int .i64 0))), none⟩])
  (.seq (.seq (.reg 0 [⟨(some 12), .load 7 true (.t 2), none⟩,
      ⟨(some 13), .call 0 12 [(.t 12)], none⟩,
      ⟨(some 7), .mv (.t 13), none⟩])
  (.seq (.reg 0 [⟨(some 14), .mv (.t 7), none⟩,
      ⟨(some 15), .bin .neq (.t 14) (.c (.v (.int .i64 0))), none⟩])
  (.cond (.t 15)
    (.seq (.reg 0 [⟨(some 16), .build [.nils, .nils, (.v (.int .i64 0)), (.v (.int .i64 0)), (.v (.int .i64 0)), (.v (.int .i64 0)), .nils] [], none⟩,
        ⟨(some 17), .mv (.t 7), none⟩,
        ⟨none, .store 7 (.t 4) (.t 16), none⟩,
        ⟨(some 5), .mv (.c (.v (.int .i64 0))), none⟩,
        ⟨(some 6), .mv (.t 17), none⟩])
    (.ret))
    (.skip))))
  (.seq (.seq (.reg 0 [⟨(some 18), .mv (.t 1), none⟩,
      ⟨(some 19), .fa 2 (.t 2), none⟩,
      ⟨(some 20), .load 1 false (.t 19), none⟩,
      ⟨(some 21), .call 0 47 [(.t 18), (.c (.v (.int .i64 0))), (.t 20)], none⟩,
      ⟨(some 22), .un .not (.t 21), none⟩])
  (.cond (.t 22)
    (.seq (.reg 0 [⟨(some 23), .build [.nils, .nils, (.v (.int .i64 0)), (.v (.int .i64 0)), (.v (.int .i64 0)), (.v (.int .i64 0)), .nils] [], none⟩,
        ⟨none, .store 7 (.t 4) (.t 23), none⟩,
        ⟨(some 5), .mv (.c (.v (.int .i64 0))), none⟩,
        ⟨(some 6), .mv (.c (.v (.int .i64 1))), none⟩])
    (.ret))
    (.skip)))
  (.seq (.seq (.reg 0 [⟨(some 24), .mv (.t 1), none⟩,
      ⟨(some 25), .load 7 true (.t 2), none⟩,
      ⟨(some 26), .call 0 63 [(.t 25)], none⟩,
      ⟨(some 27), .bin .gtr (.t 24) (.t 26), none⟩])
  (.cond (.t 27)
    (.seq (.reg 0 [⟨(some 28), .build [.nils, .nils, (.v (.int .i64 0)), (.v (.int .i64 0)), (.v (.int .i64 0)), (.v (.int .i64 0)), .nils] [], none⟩,
        ⟨none, .store 7 (.t 4) (.t 28), none⟩,
        ⟨(some 5), .mv (.c (.v (.int .i64 0))), none⟩,
        ⟨(some 6), .mv (.c (.v (.int .i64 11))), none⟩])
    (.ret))
    (.skip)))
  (.seq (.reg 0 [⟨(some 8), .mv (.c .nils), none⟩])
  (.seq (.seq (.reg 0 [⟨(some 9), .mv (.c (.v (.int .i64 0))), none⟩])
  (.block 0
    (.loop A28M0 A28L0)))
  (.seq (.reg 0 [⟨(some 54), .fa 1 (.t 2), none⟩,
      ⟨(some 55), .load 1 false (.t 54), none⟩,
      ⟨(some 56), .len false (.t 55), none⟩,
      ⟨(some 57), .mv (.t 8), none⟩,
      ⟨(some 58), .len false (.t 57), none⟩,
      ⟨(some 59), .bin .sub (.t 56) (.t 58), none⟩,
      ⟨(some 11), .mv (.t 59), none⟩])
  (.seq (.reg 0 [⟨(some 60), .mv (.t 8), none⟩,
      ⟨(some 61), .fa 1 (.t 2), none⟩,
      ⟨none, .store 1 (.t 61) (.t 60), none⟩])
  (.seq (.reg 0 [⟨(some 62), .fa 5 (.t 2), none⟩,
      ⟨(some 63), .load 1 false (.t 62), none⟩,
      ⟨(some 64), .mv (.t 1), none⟩,
      ⟨(some 65), .mm true [(.t 63), (.t 64)], none⟩,
      ⟨(some 66), .fa 5 (.t 2), none⟩,
      ⟨none, .store 1 (.t 66) (.t 65), none⟩])
  (.seq (.reg 0 [⟨(some 67), .load 7 true (.t 2), none⟩,
      ⟨(some 68), .mv (.t 11), none⟩,
      ⟨none, .store 7 (.t 4) (.t 67), none⟩,
      ⟨(some 5), .mv (.t 68), none⟩,
      ⟨(some 6), .mv (.c (.v (.int .i64 0))), none⟩])
  (.ret))))))))))⟩
/-- Live: [1, 2, 4, 8, 9] -/
abbrev A28H0 (t1 t2 t4 t8 t9 : AV) : List AV := [.top, t1, t2, .top, t4, .top, .top, .top, t8, t9, .top, .top, .top, .top, .top, .top, .top, .top, .top, .top, .top, .top, .top, .top, .top, .top, .top, .top, .top, .top, .top, .top, .top, .top, .top, .top, .top, .top, .top, .top, .top, .top, .top, .top, .top, .top, .top, .top, .top, .top, .top, .top, .top, .top, .top, .top, .top, .top, .top, .top, .top, .top, .top, .top, .top, .top, .top, .top, .top]
theorem A28M0_eq (t0 t1 t2 t3 t4 t5 t6 t7 t8 t9 t10 t11 t12 t13 t14 t15 t16 t17 t18 t19 t20 t21 t22 t23 t24 t25 t26 t27 t28 t29 t30 t31 t32 t33 t34 t35 t36 t37 t38 t39 t40 t41 t42 t43 t44 t45 t46 t47 t48 t49 t50 t51 t52 t53 t54 t55 t56 t57 t58 t59 t60 t61 t62 t63 t64 t65 t66 t67 t68 : AV) : mask A28M0 [t0, t1, t2, t3, t4, t5, t6, t7, t8, t9, t10, t11, t12, t13, t14, t15, t16, t17, t18, t19, t20, t21, t22, t23, t24, t25, t26, t27, t28, t29, t30, t31, t32, t33, t34, t35, t36, t37, t38, t39, t40, t41, t42, t43, t44, t45, t46, t47, t48, t49, t50, t51, t52, t53, t54, t55, t56, t57, t58, t59, t60, t61, t62, t63, t64, t65, t66, t67, t68] = [.top, t1, t2, .top, t4, .top, .top, .top, t8, t9, .top, .top, .top, .top, .top, .top, .top, .top, .top, .top, .top, .top, .top, .top, .top, .top, .top, .top, .top, .top, .top, .top, .top, .top, .top, .top, .top, .top, .top, .top, .top, .top, .top, .top, .top, .top, .top, .top, .top, .top, .top, .top, .top, .top, .top, .top, .top, .top, .top, .top, .top, .top, .top, .top, .top, .top, .top, .top, .top] := rfl
theorem A28_is : compFn Try.prog md Try.f28 = some { A28 with code := A28.code.erase } := by kernel_rfl

/-- peristyle/store.SameStore -/
def A29 : AFn := ⟨51, [.tmp 4, .tmp 5],
  .seq (.reg 2 [⟨(some 2), .box 0 (.t 0), none⟩,
      ⟨(some 3), .box 1 (.t 1), none⟩,
      ⟨(some 4), .mv (.c (.v (.bool false))), none⟩,
      ⟨(some 5), .mv (.c (.v (.int .i64 0))), none⟩])
  (.seq (.seq (.reg 0 [⟨(some 8), .load 7 true (.t 2), none⟩,
      ⟨(some 9), .call 0 11 [(.t 8)], none⟩,
      ⟨(some 6), .mv (.t 9), none⟩])
  (.seq (.reg 0 [⟨(some 10), .mv (.t 6), none⟩,
      ⟨(some 11), .bin .neq (.t 10) (.c (.v (.int .i64 0))), none⟩])
  (.cond (.t 11)
    (.seq (.reg 0 [⟨(some 12), .mv (.t 6), none⟩,
        ⟨(some 4), .mv (.c (.v (.bool false))), none⟩,
        ⟨(some 5), .mv (.t 12), none⟩])
    (.ret))
    (.skip))))
  (.seq (.seq (.reg 0 [⟨(some 13), .load 7 true (.t 3), none⟩,
      ⟨(some 14), .call 0 11 [(.t 13)], none⟩,
      ⟨(some 7), .mv (.t 14), none⟩])
  (.seq (.reg 0 [⟨(some 15), .mv (.t 7), none⟩,
      ⟨(some 16), .bin .neq (.t 15) (.c (.v (.int .i64 0))), none⟩])
  (.cond (.t 16)
    (.seq (.reg 0 [⟨(some 17), .mv (.t 7), none⟩,
        ⟨(some 4), .mv (.c (.v (.bool false))), none⟩,
        ⟨(some 5), .mv (.t 17), none⟩])
    (.ret))
    (.skip))))
  (.seq (.reg 0 [⟨(some 18), .fa 0 (.t 2), none⟩,
      ⟨(some 19), .load 1 false (.t 18), none⟩,
      ⟨(some 20), .fa 0 (.t 3), none⟩,
      ⟨(some 21), .load 1 false (.t 20), none⟩,
      ⟨(some 22), .call 0 66 [(.t 19), (.t 21)], none⟩,
      ⟨(some 23), .mv (.t 22), none⟩,
      ⟨(some 24), .fa 2 (.t 2), (some (23, true))⟩,
      ⟨(some 25), .load 1 false (.t 24), (some (23, true))⟩,
      ⟨(some 26), .fa 2 (.t 3), (some (23, true))⟩,
      ⟨(some 27), .load 1 false (.t 26), (some (23, true))⟩,
      ⟨(some 28), .bin .eql (.t 25) (.t 27), (some (23, true))⟩,
      ⟨(some 29), .pick (.t 23) (.t 28) (.c (.v (.bool false))), none⟩,
      ⟨(some 30), .mv (.t 29), none⟩,
      ⟨(some 31), .fa 3 (.t 2), (some (30, true))⟩,
      ⟨(some 32), .load 1 false (.t 31), (some (30, true))⟩,
      ⟨(some 33), .fa 3 (.t 3), (some (30, true))⟩,
      ⟨(some 34), .load 1 false (.t 33), (some (30, true))⟩,
      ⟨(some 35), .bin .eql (.t 32) (.t 34), (some (30, true))⟩,
      ⟨(some 36), .pick (.t 30) (.t 35) (.c (.v (.bool false))), none⟩,
      ⟨(some 37), .mv (.t 36), none⟩,
      ⟨(some 38), .fa 5 (.t 2), (some (37, true))⟩,
      ⟨(some 39), .load 1 false (.t 38), (some (37, true))⟩,
      ⟨(some 40), .fa 5 (.t 3), (some (37, true))⟩,
      ⟨(some 41), .load 1 false (.t 40), (some (37, true))⟩,
      ⟨(some 42), .bin .eql (.t 39) (.t 41), (some (37, true))⟩,
      ⟨(some 43), .pick (.t 37) (.t 42) (.c (.v (.bool false))), none⟩,
      ⟨(some 44), .mv (.t 43), none⟩,
      ⟨(some 45), .fa 1 (.t 2), (some (44, true))⟩,
      ⟨(some 46), .load 1 false (.t 45), (some (44, true))⟩,
      ⟨(some 47), .fa 1 (.t 3), (some (44, true))⟩,
      ⟨(some 48), .load 1 false (.t 47), (some (44, true))⟩,
      ⟨(some 49), .call 2 67 [(.t 46), (.t 48), (.f 68)], (some (44, true))⟩,
      ⟨(some 50), .pick (.t 44) (.t 49) (.c (.v (.bool false))), none⟩,
      ⟨(some 4), .mv (.t 50), none⟩,
      ⟨(some 5), .mv (.c (.v (.int .i64 0))), none⟩])
  (.ret))))⟩
theorem A29_is : compFn Try.prog md Try.f29 = some { A29 with code := A29.code.erase } := by kernel_rfl

/-- peristyle/peristyleref11.SameStore -/
def A30 : AFn := ⟨21, [.tmp 4, .tmp 5],
  .seq (.reg 2 [⟨(some 2), .box 0 (.t 0), none⟩,
      ⟨(some 3), .box 1 (.t 1), none⟩,
      ⟨(some 4), .mv (.c (.v (.bool false))), none⟩,
      ⟨(some 5), .mv (.c (.v (.int .i64 0))), none⟩])
  (.seq (.seq (.reg 0 [⟨(some 8), .load 7 true (.t 2), none⟩,
      ⟨(some 9), .call 0 12 [(.t 8)], none⟩,
      ⟨(some 6), .mv (.t 9), none⟩])
  (.seq (.reg 0 [⟨(some 10), .mv (.t 6), none⟩,
      ⟨(some 11), .bin .neq (.t 10) (.c (.v (.int .i64 0))), none⟩])
  (.cond (.t 11)
    (.seq (.reg 0 [⟨(some 12), .mv (.t 6), none⟩,
        ⟨(some 4), .mv (.c (.v (.bool false))), none⟩,
        ⟨(some 5), .mv (.t 12), none⟩])
    (.ret))
    (.skip))))
  (.seq (.seq (.reg 0 [⟨(some 13), .load 7 true (.t 3), none⟩,
      ⟨(some 14), .call 0 12 [(.t 13)], none⟩,
      ⟨(some 7), .mv (.t 14), none⟩])
  (.seq (.reg 0 [⟨(some 15), .mv (.t 7), none⟩,
      ⟨(some 16), .bin .neq (.t 15) (.c (.v (.int .i64 0))), none⟩])
  (.cond (.t 16)
    (.seq (.reg 0 [⟨(some 17), .mv (.t 7), none⟩,
        ⟨(some 4), .mv (.c (.v (.bool false))), none⟩,
        ⟨(some 5), .mv (.t 17), none⟩])
    (.ret))
    (.skip))))
  (.seq (.reg 0 [⟨(some 18), .load 7 true (.t 2), none⟩,
      ⟨(some 19), .load 7 true (.t 3), none⟩,
      ⟨(some 20), .call 0 50 [(.t 18), (.t 19)], none⟩,
      ⟨(some 4), .mv (.t 20), none⟩,
      ⟨(some 5), .mv (.c (.v (.int .i64 0))), none⟩])
  (.ret))))⟩
theorem A30_is : compFn Try.prog md Try.f30 = some { A30 with code := A30.code.erase } := by kernel_rfl

/-- peristyle/store.Rows -/
def A31M0 : List Bool := [false, false, false, false, false, true, false, false, false, false, true, true, false, false, false, false, false, false, false, false, false, false, false, false, false, false, false, false, false, false, false, false, false, false, false, false, false, false, false, false, false, false, true, true, true, false, false, false, false, false, false, false, false, false, false, false]
def A31L0 : AC :=
  .seq (.reg 0 [⟨(some 45), .bin .lss (.t 44) (.t 43), none⟩])
  (.seq (.cond (.t 45)
    (.skip)
    (.exit 0))
  (.seq (.block 1
    (.seq (.reg 1 [⟨(some 46), .ia 2 (.t 42) (.t 44), none⟩,
        ⟨(some 47), .load 2 true (.t 46), none⟩,
        ⟨(some 13), .alloc 0 [(.v (.int .i64 0)), .nils], none⟩,
        ⟨none, .store 2 (.t 13) (.t 47), none⟩])
    (.reg 0 [⟨(some 48), .mv (.t 11), none⟩,
        ⟨(some 49), .fa 0 (.t 13), none⟩,
        ⟨(some 50), .load 1 false (.t 49), none⟩,
        ⟨(some 51), .bsl 1 1 [(.v (.int .i64 0))] [(0, (.t 50))], none⟩,
        ⟨(some 52), .app 1 8 (.t 48) (.t 51), none⟩,
        ⟨(some 11), .mv (.t 52), none⟩])))
  (.reg 0 [⟨(some 53), .bin .add (.t 44) (.c (.v (.int .i64 1))), none⟩,
      ⟨(some 44), .mv (.t 53), none⟩])))
def A31 : AFn := ⟨56, [.tmp 4, .cell 5 2 true, .tmp 6],
  .seq (.reg 2 [⟨(some 2), .box 0 (.t 0), none⟩,
      ⟨(some 4), .mv (.c .nils), none⟩,
      ⟨(some 5), .alloc 1 [.nils, .nils], none⟩,
      ⟨(some 6), .mv (.c (.v (.int .i64 0))), none⟩])
  (.seq (.reg 0 [⟨(some 15), .load 7 true (.t 2), none⟩,
      ⟨(some 16), .mv (.t 1), none⟩,
      ⟨(some 17), .call 0 52 [(.t 15), (.t 16)], none⟩,
      ⟨(some 14), .mv (.t 17), none⟩,
      ⟨(some 18), .ext 0 (.t 14), none⟩,
      ⟨(some 19), .ext 1 (.t 14), none⟩,
      ⟨(some 7), .mv (.t 18), none⟩,
      ⟨(some 8), .mv (.t 19), none⟩])
  (.seq (.seq (.reg 0 [⟨(some 20), .mv (.t 8), none⟩,
      ⟨(some 21), .bin .neq (.t 20) (.c (.v (.int .i64 0))), none⟩])
  (.cond (.t 21)
    (.seq (.reg 0 [⟨(some 22), .build [.nils, .nils] [], none⟩,
        ⟨(some 23), .mv (.t 8), none⟩,
        ⟨(some 4), .mv (.c .nils), none⟩,
        ⟨none, .store 2 (.t 5) (.t 22), none⟩,
        ⟨(some 6), .mv (.t 23), none⟩])
    (.ret))
    (.skip)))
  (.seq (.dreg 0 [⟨(some 24), .load 7 true (.t 2), none⟩,
      ⟨(some 25), .fa 6 (.t 2), none⟩,
      ⟨(some 26), .load 1 false (.t 25), none⟩,
      ⟨(some 27), .mv (.t 7), none⟩,
      ⟨(some 28), .ia 3 (.t 26) (.t 27), none⟩,
      ⟨(some 29), .load 3 true (.t 28), none⟩,
      ⟨(some 30), .call 0 70 [(.t 24), (.t 29)], none⟩,
      ⟨(some 9), .mv (.t 30), none⟩] [(0, 2), (0, 4), (0, 5)])
  (.seq (.reg 1 [⟨(some 32), .fa 0 (.t 2), none⟩,
      ⟨(some 33), .load 1 false (.t 32), none⟩,
      ⟨(some 34), .mv (.t 9), none⟩,
      ⟨(some 35), .call 0 71 [(.t 33), (.t 34)], none⟩,
      ⟨(some 31), .mv (.t 35), none⟩,
      ⟨(some 36), .ext 0 (.t 31), none⟩,
      ⟨(some 37), .ext 1 (.t 31), none⟩,
      ⟨(some 10), .alloc 0 [.nils, .nils], none⟩,
      ⟨none, .store 2 (.t 10) (.t 36), none⟩,
      ⟨(some 8), .mv (.t 37), none⟩])
  (.seq (.seq (.reg 0 [⟨(some 38), .mv (.t 8), none⟩,
      ⟨(some 39), .bin .neq (.t 38) (.c (.v (.int .i64 0))), none⟩])
  (.cond (.t 39)
    (.seq (.reg 0 [⟨(some 40), .build [.nils, .nils] [], none⟩,
        ⟨(some 41), .mv (.t 8), none⟩,
        ⟨(some 4), .mv (.c .nils), none⟩,
        ⟨none, .store 2 (.t 5) (.t 40), none⟩,
        ⟨(some 6), .mv (.t 41), none⟩])
    (.ret))
    (.skip)))
  (.seq (.reg 0 [⟨(some 11), .mv (.c .nils), none⟩])
  (.seq (.seq (.reg 0 [⟨(some 42), .mv (.t 9), none⟩,
      ⟨(some 43), .len false (.t 42), none⟩,
      ⟨(some 44), .mv (.c (.v (.int .i64 0))), none⟩])
  (.block 0
    (.loop A31M0 A31L0)))
  (.seq (.dreg 0 [⟨(some 54), .mv (.t 11), none⟩,
      ⟨(some 55), .load 2 true (.t 10), none⟩,
      ⟨(some 4), .mv (.t 54), none⟩,
      ⟨none, .store 2 (.t 5) (.t 55), none⟩,
      ⟨(some 6), .mv (.c (.v (.int .i64 0))), none⟩] [])
  (.ret)))))))))⟩
/-- Live: [5, 10, 11, 42, 43, 44] -/
abbrev A31H0 (t5 t10 t11 t42 t43 t44 : AV) : List AV := [.top, .top, .top, .top, .top, t5, .top, .top, .top, .top, t10, t11, .top, .top, .top, .top, .top, .top, .top, .top, .top, .top, .top, .top, .top, .top, .top, .top, .top, .top, .top, .top, .top, .top, .top, .top, .top, .top, .top, .top, .top, .top, t42, t43, t44, .top, .top, .top, .top, .top, .top, .top, .top, .top, .top, .top]
theorem A31M0_eq (t0 t1 t2 t3 t4 t5 t6 t7 t8 t9 t10 t11 t12 t13 t14 t15 t16 t17 t18 t19 t20 t21 t22 t23 t24 t25 t26 t27 t28 t29 t30 t31 t32 t33 t34 t35 t36 t37 t38 t39 t40 t41 t42 t43 t44 t45 t46 t47 t48 t49 t50 t51 t52 t53 t54 t55 : AV) : mask A31M0 [t0, t1, t2, t3, t4, t5, t6, t7, t8, t9, t10, t11, t12, t13, t14, t15, t16, t17, t18, t19, t20, t21, t22, t23, t24, t25, t26, t27, t28, t29, t30, t31, t32, t33, t34, t35, t36, t37, t38, t39, t40, t41, t42, t43, t44, t45, t46, t47, t48, t49, t50, t51, t52, t53, t54, t55] = [.top, .top, .top, .top, .top, t5, .top, .top, .top, .top, t10, t11, .top, .top, .top, .top, .top, .top, .top, .top, .top, .top, .top, .top, .top, .top, .top, .top, .top, .top, .top, .top, .top, .top, .top, .top, .top, .top, .top, .top, .top, .top, t42, t43, t44, .top, .top, .top, .top, .top, .top, .top, .top, .top, .top, .top] := rfl
theorem A31_is : compFn Try.prog md Try.f31 = some { A31 with code := A31.code.erase } := by kernel_rfl

/-- peristyle/peristyleref1.SameTable -/
def A32M0 : List Bool := [false, false, true, true, false, true, false, false, false, false, false, false, false, false, false, false, false, false, false, false, false, false, false, false, false, false, false, false, false, false, false, false, false, false, false, false, false, false, false, false]
def A32L0 : AC :=
  .seq (.seq (.reg 0 [⟨(some 21), .mv (.t 5), none⟩,
      ⟨(some 22), .fa 1 (.t 2), none⟩,
      ⟨(some 23), .load 1 false (.t 22), none⟩,
      ⟨(some 24), .len false (.t 23), none⟩,
      ⟨(some 25), .bin .lss (.t 21) (.t 24), none⟩])
  (.cond (.t 25)
    (.skip)
    (.exit 0)))
  (.seq (.block 1
    (.seq (.dreg 0 [⟨(some 28), .fa 1 (.t 2), none⟩,
        ⟨(some 29), .load 1 false (.t 28), none⟩,
        ⟨(some 30), .mv (.t 5), none⟩,
        ⟨(some 31), .ia 1 (.t 29) (.t 30), none⟩,
        ⟨(some 32), .load 1 true (.t 31), none⟩,
        ⟨(some 33), .fa 1 (.t 3), none⟩,
        ⟨(some 34), .load 1 false (.t 33), none⟩,
        ⟨(some 35), .mv (.t 5), none⟩,
        ⟨(some 36), .ia 1 (.t 34) (.t 35), none⟩,
        ⟨(some 37), .load 1 true (.t 36), none⟩,
        ⟨(some 38), .call 0 73 [(.t 32), (.t 37)], none⟩,
        ⟨(some 39), .un .not (.t 38), none⟩] [(1, 6), (3, 6), (4, 6), (1, 8), (3, 8), (4, 8), (1, 9), (3, 9), (4, 9)])
    (.cond (.t 39)
      (.seq (.reg 0 [⟨(some 4), .mv (.c (.v (.bool false))), none⟩])
      (.ret))
      (.skip))))
  (.reg 0 [⟨(some 26), .mv (.t 5), none⟩,
      ⟨(some 27), .bin .add (.t 26) (.c (.v (.int .i64 1))), none⟩,
      ⟨(some 5), .mv (.t 27), none⟩]))
def A32 : AFn := ⟨40, [.tmp 4],
  .seq (.reg 2 [⟨(some 2), .box 0 (.t 0), none⟩,
      ⟨(some 3), .box 1 (.t 1), none⟩,
      ⟨(some 4), .mv (.c (.v (.bool false))), none⟩])
  (.seq (.seq (.reg 0 [⟨(some 6), .fa 0 (.t 2), none⟩,
      ⟨(some 7), .load 1 false (.t 6), none⟩,
      ⟨(some 8), .fa 0 (.t 3), none⟩,
      ⟨(some 9), .load 1 false (.t 8), none⟩,
      ⟨(some 10), .call 0 72 [(.t 7), (.t 9)], none⟩,
      ⟨(some 11), .un .not (.t 10), none⟩,
      ⟨(some 12), .mv (.t 11), none⟩,
      ⟨(some 13), .fa 1 (.t 2), (some (12, false))⟩,
      ⟨(some 14), .load 1 false (.t 13), (some (12, false))⟩,
      ⟨(some 15), .len false (.t 14), (some (12, false))⟩,
      ⟨(some 16), .fa 1 (.t 3), (some (12, false))⟩,
      ⟨(some 17), .load 1 false (.t 16), (some (12, false))⟩,
      ⟨(some 18), .len false (.t 17), (some (12, false))⟩,
      ⟨(some 19), .bin .neq (.t 15) (.t 18), (some (12, false))⟩,
      ⟨(some 20), .pick (.t 12) (.c (.v (.bool true))) (.t 19), none⟩])
  (.cond (.t 20)
    (.seq (.reg 0 [⟨(some 4), .mv (.c (.v (.bool false))), none⟩])
    (.ret))
    (.skip)))
  (.seq (.seq (.reg 0 [⟨(some 5), .mv (.c (.v (.int .i64 0))), none⟩])
  (.block 0
    (.loop A32M0 A32L0)))
  (.seq (.reg 0 [⟨(some 4), .mv (.c (.v (.bool true))), none⟩])
  (.ret))))⟩
/-- Live: [2, 3, 5] -/
abbrev A32H0 (t2 t3 t5 : AV) : List AV := [.top, .top, t2, t3, .top, t5, .top, .top, .top, .top, .top, .top, .top, .top, .top, .top, .top, .top, .top, .top, .top, .top, .top, .top, .top, .top, .top, .top, .top, .top, .top, .top, .top, .top, .top, .top, .top, .top, .top, .top]
theorem A32M0_eq (t0 t1 t2 t3 t4 t5 t6 t7 t8 t9 t10 t11 t12 t13 t14 t15 t16 t17 t18 t19 t20 t21 t22 t23 t24 t25 t26 t27 t28 t29 t30 t31 t32 t33 t34 t35 t36 t37 t38 t39 : AV) : mask A32M0 [t0, t1, t2, t3, t4, t5, t6, t7, t8, t9, t10, t11, t12, t13, t14, t15, t16, t17, t18, t19, t20, t21, t22, t23, t24, t25, t26, t27, t28, t29, t30, t31, t32, t33, t34, t35, t36, t37, t38, t39] = [.top, .top, t2, t3, .top, t5, .top, .top, .top, .top, .top, .top, .top, .top, .top, .top, .top, .top, .top, .top, .top, .top, .top, .top, .top, .top, .top, .top, .top, .top, .top, .top, .top, .top, .top, .top, .top, .top, .top, .top] := rfl
theorem A32_is : compFn Try.prog md Try.f32 = some { A32 with code := A32.code.erase } := by kernel_rfl

/-- peristyle/store.AsOf -/
def A33 : AFn := ⟨29, [.cell 4 2 true, .tmp 5],
  .seq (.reg 2 [⟨(some 2), .box 0 (.t 0), none⟩,
      ⟨(some 4), .alloc 1 [.nils, .nils], none⟩,
      ⟨(some 5), .mv (.c (.v (.int .i64 0))), none⟩])
  (.seq (.seq (.reg 0 [⟨(some 7), .load 7 true (.t 2), none⟩,
      ⟨(some 8), .call 0 11 [(.t 7)], none⟩,
      ⟨(some 6), .mv (.t 8), none⟩])
  (.seq (.reg 0 [⟨(some 9), .mv (.t 6), none⟩,
      ⟨(some 10), .bin .neq (.t 9) (.c (.v (.int .i64 0))), none⟩])
  (.cond (.t 10)
    (.seq (.reg 0 [⟨(some 11), .build [.nils, .nils] [], none⟩,
        ⟨(some 12), .mv (.t 6), none⟩,
        ⟨none, .store 2 (.t 4) (.t 11), none⟩,
        ⟨(some 5), .mv (.t 12), none⟩])
    (.ret))
    (.skip))))
  (.seq (.seq (.reg 0 [⟨(some 13), .mv (.t 1), none⟩,
      ⟨(some 14), .fa 5 (.t 2), none⟩,
      ⟨(some 15), .load 1 false (.t 14), none⟩,
      ⟨(some 16), .fa 2 (.t 2), none⟩,
      ⟨(some 17), .load 1 false (.t 16), none⟩,
      ⟨(some 18), .call 0 44 [(.t 13), (.t 15), (.t 17)], none⟩,
      ⟨(some 19), .un .not (.t 18), none⟩])
  (.cond (.t 19)
    (.seq (.reg 0 [⟨(some 20), .build [.nils, .nils] [], none⟩,
        ⟨none, .store 2 (.t 4) (.t 20), none⟩,
        ⟨(some 5), .mv (.c (.v (.int .i64 1))), none⟩])
    (.ret))
    (.skip)))
  (.seq (.dreg 0 [⟨(some 21), .fa 0 (.t 2), none⟩,
      ⟨(some 22), .load 1 false (.t 21), none⟩,
      ⟨(some 23), .load 7 true (.t 2), none⟩,
      ⟨(some 24), .mv (.t 1), none⟩,
      ⟨(some 25), .call 0 74 [(.t 23), (.t 24)], none⟩,
      ⟨(some 26), .call 0 71 [(.t 22), (.t 25)], none⟩,
      ⟨(some 27), .ext 0 (.t 26), none⟩,
      ⟨(some 28), .ext 1 (.t 26), none⟩,
      ⟨none, .store 2 (.t 4) (.t 27), none⟩,
      ⟨(some 5), .mv (.t 28), none⟩] [(1, 2), (1, 4)])
  (.ret))))⟩
theorem A33_is : compFn Try.prog md Try.f33 = some { A33 with code := A33.code.erase } := by kernel_rfl

/-- peristyle/store.Changes -/
def A34M0 : List Bool := [false, true, true, false, false, false, false, false, false, true, true, true, true, false, false, false, false, false, false, false, false, false, false, false, false, false, false, false, false, false, false, false, false, false, false, false, false, false, false, false, false, false, true, true, true, false, false, false, false, false, false, false, false, false, false, false, false, false, false, false, false, false, false, false, false, false, false, false, false, false, false, false, false, false, false, false, false, false, false, false, false, false, false, false, false, false, false, false, false, false, false, false, false, false, false, false, false, false, false, false, false, false, false, false, false, false, false, false, false, false, false, false, false, false, false, false, false, false, false, false, false, false, false, false, false, false, false, false, false, false, false, false]
def A34L0 : AC :=
  .seq (.reg 0 [⟨(some 45), .bin .lss (.t 44) (.t 43), none⟩])
  (.seq (.cond (.t 45)
    (.skip)
    (.exit 0))
  (.seq (.block 1
    (.seq (.reg 1 [⟨(some 46), .ia 4 (.t 42) (.t 44), none⟩,
        ⟨(some 47), .load 4 true (.t 46), none⟩,
        ⟨(some 14), .alloc 0 [(.v (.int .i64 0)), (.v (.int .i64 0)), (.v (.int .i64 0)), .nils], none⟩,
        ⟨none, .store 4 (.t 14) (.t 47), none⟩])
    (.seq (.seq (.reg 0 [⟨(some 48), .load 4 true (.t 14), none⟩,
        ⟨(some 49), .mv (.t 1), none⟩,
        ⟨(some 50), .call 0 75 [(.t 48), (.t 49)], none⟩])
    (.cond (.t 50)
      (.seq (.reg 0 [⟨(some 51), .mv (.t 9), none⟩,
          ⟨(some 52), .fa 0 (.t 14), none⟩,
          ⟨(some 53), .load 1 false (.t 52), none⟩,
          ⟨(some 54), .fa 1 (.t 14), none⟩,
          ⟨(some 55), .load 1 false (.t 54), none⟩,
          ⟨none, .mu (.t 51) (.t 53) (.t 55), none⟩])
      (.reg 0 [⟨(some 56), .mv (.t 12), none⟩,
          ⟨(some 57), .fa 0 (.t 14), none⟩,
          ⟨(some 58), .load 1 false (.t 57), none⟩,
          ⟨(some 59), .bsl 1 1 [(.v (.int .i64 0))] [(0, (.t 58))], none⟩,
          ⟨(some 60), .app 1 8 (.t 56) (.t 59), none⟩,
          ⟨(some 12), .mv (.t 60), none⟩]))
      (.skip)))
    (.seq (.reg 0 [⟨(some 61), .load 4 true (.t 14), none⟩,
        ⟨(some 62), .mv (.t 2), none⟩,
        ⟨(some 63), .call 0 75 [(.t 61), (.t 62)], none⟩])
    (.cond (.t 63)
      (.seq (.dreg 0 [⟨(some 64), .mv (.t 10), none⟩,
          ⟨(some 65), .fa 0 (.t 14), none⟩,
          ⟨(some 66), .load 1 false (.t 65), none⟩,
          ⟨(some 67), .mv (.t 11), none⟩,
          ⟨(some 68), .fa 0 (.t 14), none⟩,
          ⟨(some 69), .load 1 false (.t 68), none⟩,
          ⟨(some 70), .fa 1 (.t 14), none⟩,
          ⟨(some 71), .load 1 false (.t 70), none⟩,
          ⟨(some 72), .fa 3 (.t 14), none⟩,
          ⟨(some 73), .load 1 false (.t 72), none⟩,
          ⟨none, .mu (.t 64) (.t 66) (.t 71), none⟩,
          ⟨none, .mu (.t 67) (.t 69) (.t 73), none⟩] [(2, 5), (2, 7), (5, 7), (2, 9), (5, 9), (7, 9), (5, 10), (9, 10)])
      (.reg 0 [⟨(some 74), .mv (.t 12), none⟩,
          ⟨(some 75), .fa 0 (.t 14), none⟩,
          ⟨(some 76), .load 1 false (.t 75), none⟩,
          ⟨(some 77), .bsl 1 1 [(.v (.int .i64 0))] [(0, (.t 76))], none⟩,
          ⟨(some 78), .app 1 8 (.t 74) (.t 77), none⟩,
          ⟨(some 12), .mv (.t 78), none⟩]))
      (.skip))))))
  (.reg 0 [⟨(some 79), .bin .add (.t 44) (.c (.v (.int .i64 1))), none⟩,
      ⟨(some 44), .mv (.t 79), none⟩])))
def A34M1 : List Bool := [false, false, false, false, false, false, false, false, false, true, true, true, false, false, false, true, false, false, false, false, false, false, false, false, false, false, false, false, false, false, false, false, false, false, false, false, false, false, false, false, false, false, false, false, false, false, false, false, false, false, false, false, false, false, false, false, false, false, false, false, false, false, false, false, false, false, false, false, false, false, false, false, false, false, false, false, false, false, false, false, false, false, false, true, true, true, false, false, false, false, false, false, false, false, false, false, false, false, false, false, false, false, false, false, false, false, false, false, false, false, false, false, false, false, false, false, false, false, false, false, false, false, false, false, false, false, false, false, false, false, false, false]
def A34L1 : AC :=
  .seq (.reg 0 [⟨(some 86), .bin .lss (.t 85) (.t 84), none⟩])
  (.seq (.cond (.t 86)
    (.skip)
    (.exit 2))
  (.seq (.block 3
    (.seq (.reg 0 [⟨(some 87), .ia 1 (.t 83) (.t 85), none⟩,
        ⟨(some 88), .load 1 false (.t 87), none⟩,
        ⟨(some 17), .mv (.t 88), none⟩])
    (.block 4
      (.seq (.reg 0 [⟨(some 99), .mv (.t 9), none⟩,
          ⟨(some 100), .mv (.t 17), none⟩,
          ⟨(some 101), .lk (.v (.int .i64 0)) false (.t 99) (.t 100), none⟩,
          ⟨(some 102), .mv (.t 10), none⟩,
          ⟨(some 103), .mv (.t 17), none⟩,
          ⟨(some 104), .lk (.v (.int .i64 0)) false (.t 102) (.t 103), none⟩,
          ⟨(some 105), .bin .eql (.t 101) (.t 104), none⟩,
          ⟨(some 98), .mv (.t 105), none⟩])
      (.cond (.t 98)
        (.skip)
        (.seq (.reg 0 [⟨(some 107), .mv (.t 10), none⟩,
            ⟨(some 108), .mv (.t 17), none⟩,
            ⟨(some 109), .lk (.v (.int .i64 0)) false (.t 107) (.t 108), none⟩,
            ⟨(some 110), .bin .eql (.t 109) (.c (.v (.int .i64 0))), none⟩,
            ⟨(some 106), .mv (.t 110), none⟩])
        (.cond (.t 106)
          (.reg 0 [⟨(some 111), .mv (.t 15), none⟩,
              ⟨(some 112), .mv (.t 17), none⟩,
              ⟨(some 113), .build [(.v (.int .i64 0)), (.v (.int .i64 0)), .nils] [(0, 1, (.c (.v (.int .i64 2)))), (1, 1, (.t 112))], none⟩,
              ⟨(some 114), .bsl 3 1 [(.v (.int .i64 0)), (.v (.int .i64 0)), .nils] [(0, (.t 113))], none⟩,
              ⟨(some 115), .app 3 40 (.t 111) (.t 114), none⟩,
              ⟨(some 15), .mv (.t 115), none⟩])
          (.seq (.reg 0 [⟨(some 117), .mv (.t 9), none⟩,
              ⟨(some 118), .mv (.t 17), none⟩,
              ⟨(some 119), .lk (.v (.int .i64 0)) false (.t 117) (.t 118), none⟩,
              ⟨(some 120), .bin .eql (.t 119) (.c (.v (.int .i64 0))), none⟩,
              ⟨(some 116), .mv (.t 120), none⟩])
          (.cond (.t 116)
            (.reg 0 [⟨(some 121), .mv (.t 15), none⟩,
                ⟨(some 122), .mv (.t 17), none⟩,
                ⟨(some 123), .mv (.t 11), none⟩,
                ⟨(some 124), .mv (.t 17), none⟩,
                ⟨(some 125), .lk .nils false (.t 123) (.t 124), none⟩,
                ⟨(some 126), .call 0 57 [(.t 125)], none⟩,
                ⟨(some 127), .build [(.v (.int .i64 0)), (.v (.int .i64 0)), .nils] [(0, 1, (.c (.v (.int .i64 1)))), (1, 1, (.t 122)), (2, 1, (.t 126))], none⟩,
                ⟨(some 128), .bsl 3 1 [(.v (.int .i64 0)), (.v (.int .i64 0)), .nils] [(0, (.t 127))], none⟩,
                ⟨(some 129), .app 3 40 (.t 121) (.t 128), none⟩,
                ⟨(some 15), .mv (.t 129), none⟩])
            (.reg 0 [⟨(some 89), .mv (.t 15), none⟩,
                ⟨(some 90), .mv (.t 17), none⟩,
                ⟨(some 91), .mv (.t 11), none⟩,
                ⟨(some 92), .mv (.t 17), none⟩,
                ⟨(some 93), .lk .nils false (.t 91) (.t 92), none⟩,
                ⟨(some 94), .call 0 57 [(.t 93)], none⟩,
                ⟨(some 95), .build [(.v (.int .i64 0)), (.v (.int .i64 0)), .nils] [(0, 1, (.c (.v (.int .i64 3)))), (1, 1, (.t 90)), (2, 1, (.t 94))], none⟩,
                ⟨(some 96), .bsl 3 1 [(.v (.int .i64 0)), (.v (.int .i64 0)), .nils] [(0, (.t 95))], none⟩,
                ⟨(some 97), .app 3 40 (.t 89) (.t 96), none⟩,
                ⟨(some 15), .mv (.t 97), none⟩]))))))))))
  (.reg 0 [⟨(some 130), .bin .add (.t 85) (.c (.v (.int .i64 1))), none⟩,
      ⟨(some 85), .mv (.t 130), none⟩])))
def A34 : AFn := ⟨132, [.tmp 6, .tmp 7],
  .seq (.reg 1 [⟨(some 3), .box 0 (.t 0), none⟩,
      ⟨(some 6), .mv (.c .nils), none⟩,
      ⟨(some 7), .mv (.c (.v (.int .i64 0))), none⟩])
  (.seq (.seq (.reg 0 [⟨(some 18), .load 7 true (.t 3), none⟩,
      ⟨(some 19), .call 0 11 [(.t 18)], none⟩,
      ⟨(some 8), .mv (.t 19), none⟩])
  (.seq (.reg 0 [⟨(some 20), .mv (.t 8), none⟩,
      ⟨(some 21), .bin .neq (.t 20) (.c (.v (.int .i64 0))), none⟩])
  (.cond (.t 21)
    (.seq (.reg 0 [⟨(some 22), .mv (.t 8), none⟩,
        ⟨(some 6), .mv (.c .nils), none⟩,
        ⟨(some 7), .mv (.t 22), none⟩])
    (.ret))
    (.skip))))
  (.seq (.seq (.reg 0 [⟨(some 23), .mv (.t 1), none⟩,
      ⟨(some 24), .fa 5 (.t 3), none⟩,
      ⟨(some 25), .load 1 false (.t 24), none⟩,
      ⟨(some 26), .fa 2 (.t 3), none⟩,
      ⟨(some 27), .load 1 false (.t 26), none⟩,
      ⟨(some 28), .call 0 44 [(.t 23), (.t 25), (.t 27)], none⟩,
      ⟨(some 29), .un .not (.t 28), none⟩,
      ⟨(some 30), .mv (.t 29), none⟩,
      ⟨(some 31), .mv (.t 2), (some (30, false))⟩,
      ⟨(some 32), .mv (.t 1), (some (30, false))⟩,
      ⟨(some 33), .fa 2 (.t 3), (some (30, false))⟩,
      ⟨(some 34), .load 1 false (.t 33), (some (30, false))⟩,
      ⟨(some 35), .call 0 44 [(.t 31), (.t 32), (.t 34)], (some (30, false))⟩,
      ⟨(some 36), .un .not (.t 35), (some (30, false))⟩,
      ⟨(some 37), .pick (.t 30) (.c (.v (.bool true))) (.t 36), none⟩])
  (.cond (.t 37)
    (.seq (.reg 0 [⟨(some 6), .mv (.c .nils), none⟩,
        ⟨(some 7), .mv (.c (.v (.int .i64 1))), none⟩])
    (.ret))
    (.skip)))
  (.seq (.reg 0 [⟨(some 38), .mkm, none⟩,
      ⟨(some 39), .mkm, none⟩,
      ⟨(some 9), .mv (.t 38), none⟩,
      ⟨(some 10), .mv (.t 39), none⟩])
  (.seq (.reg 0 [⟨(some 40), .mkm, none⟩,
      ⟨(some 11), .mv (.t 40), none⟩])
  (.seq (.reg 0 [⟨(some 12), .mv (.c .nils), none⟩])
  (.seq (.seq (.reg 0 [⟨(some 41), .fa 1 (.t 3), none⟩,
      ⟨(some 42), .load 1 false (.t 41), none⟩,
      ⟨(some 43), .len false (.t 42), none⟩,
      ⟨(some 44), .mv (.c (.v (.int .i64 0))), none⟩])
  (.block 0
    (.loop A34M0 A34L0)))
  (.seq (.reg 0 [⟨(some 80), .mv (.t 12), none⟩,
      ⟨(some 81), .call 1 76 [(.t 80)], none⟩])
  (.seq (.reg 0 [⟨(some 15), .mv (.c .nils), none⟩])
  (.seq (.seq (.reg 0 [⟨(some 82), .mv (.t 12), none⟩,
      ⟨(some 83), .call 1 77 [(.t 82)], none⟩,
      ⟨(some 84), .len false (.t 83), none⟩,
      ⟨(some 85), .mv (.c (.v (.int .i64 0))), none⟩])
  (.block 2
    (.loop A34M1 A34L1)))
  (.seq (.reg 0 [⟨(some 131), .mv (.t 15), none⟩,
      ⟨(some 6), .mv (.t 131), none⟩,
      ⟨(some 7), .mv (.c (.v (.int .i64 0))), none⟩])
  (.ret)))))))))))⟩
/-- Live: [1, 2, 9, 10, 11, 12, 42, 43, 44] -/
abbrev A34H0 (t1 t2 t9 t10 t11 t12 t42 t43 t44 : AV) : List AV := [.top, t1, t2, .top, .top, .top, .top, .top, .top, t9, t10, t11, t12, .top, .top, .top, .top, .top, .top, .top, .top, .top, .top, .top, .top, .top, .top, .top, .top, .top, .top, .top, .top, .top, .top, .top, .top, .top, .top, .top, .top, .top, t42, t43, t44, .top, .top, .top, .top, .top, .top, .top, .top, .top, .top, .top, .top, .top, .top, .top, .top, .top, .top, .top, .top, .top, .top, .top, .top, .top, .top, .top, .top, .top, .top, .top, .top, .top, .top, .top, .top, .top, .top, .top, .top, .top, .top, .top, .top, .top, .top, .top, .top, .top, .top, .top, .top, .top, .top, .top, .top, .top, .top, .top, .top, .top, .top, .top, .top, .top, .top, .top, .top, .top, .top, .top, .top, .top, .top, .top, .top, .top, .top, .top, .top, .top, .top, .top, .top, .top, .top, .top]
theorem A34M0_eq (t0 t1 t2 t3 t4 t5 t6 t7 t8 t9 t10 t11 t12 t13 t14 t15 t16 t17 t18 t19 t20 t21 t22 t23 t24 t25 t26 t27 t28 t29 t30 t31 t32 t33 t34 t35 t36 t37 t38 t39 t40 t41 t42 t43 t44 t45 t46 t47 t48 t49 t50 t51 t52 t53 t54 t55 t56 t57 t58 t59 t60 t61 t62 t63 t64 t65 t66 t67 t68 t69 t70 t71 t72 t73 t74 t75 t76 t77 t78 t79 t80 t81 t82 t83 t84 t85 t86 t87 t88 t89 t90 t91 t92 t93 t94 t95 t96 t97 t98 t99 t100 t101 t102 t103 t104 t105 t106 t107 t108 t109 t110 t111 t112 t113 t114 t115 t116 t117 t118 t119 t120 t121 t122 t123 t124 t125 t126 t127 t128 t129 t130 t131 : AV) : mask A34M0 [t0, t1, t2, t3, t4, t5, t6, t7, t8, t9, t10, t11, t12, t13, t14, t15, t16, t17, t18, t19, t20, t21, t22, t23, t24, t25, t26, t27, t28, t29, t30, t31, t32, t33, t34, t35, t36, t37, t38, t39, t40, t41, t42, t43, t44, t45, t46, t47, t48, t49, t50, t51, t52, t53, t54, t55, t56, t57, t58, t59, t60, t61, t62, t63, t64, t65, t66, t67, t68, t69, t70, t71, t72, t73, t74, t75, t76, t77, t78, t79, t80, t81, t82, t83, t84, t85, t86, t87, t88, t89, t90, t91, t92, t93, t94, t95, t96, t97, t98, t99, t100, t101, t102, t103, t104, t105, t106, t107, t108, t109, t110, t111, t112, t113, t114, t115, t116, t117, t118, t119, t120, t121, t122, t123, t124, t125, t126, t127, t128, t129, t130, t131] = [.top, t1, t2, .top, .top, .top, .top, .top, .top, t9, t10, t11, t12, .top, .top, .top, .top, .top, .top, .top, .top, .top, .top, .top, .top, .top, .top, .top, .top, .top, .top, .top, .top, .top, .top, .top, .top, .top, .top, .top, .top, .top, t42, t43, t44, .top, .top, .top, .top, .top, .top, .top, .top, .top, .top, .top, .top, .top, .top, .top, .top, .top, .top, .top, .top, .top, .top, .top, .top, .top, .top, .top, .top, .top, .top, .top, .top, .top, .top, .top, .top, .top, .top, .top, .top, .top, .top, .top, .top, .top, .top, .top, .top, .top, .top, .top, .top, .top, .top, .top, .top, .top, .top, .top, .top, .top, .top, .top, .top, .top, .top, .top, .top, .top, .top, .top, .top, .top, .top, .top, .top, .top, .top, .top, .top, .top, .top, .top, .top, .top, .top, .top] := rfl
/-- Live: [9, 10, 11, 15, 83, 84, 85] -/
abbrev A34H1 (t9 t10 t11 t15 t83 t84 t85 : AV) : List AV := [.top, .top, .top, .top, .top, .top, .top, .top, .top, t9, t10, t11, .top, .top, .top, t15, .top, .top, .top, .top, .top, .top, .top, .top, .top, .top, .top, .top, .top, .top, .top, .top, .top, .top, .top, .top, .top, .top, .top, .top, .top, .top, .top, .top, .top, .top, .top, .top, .top, .top, .top, .top, .top, .top, .top, .top, .top, .top, .top, .top, .top, .top, .top, .top, .top, .top, .top, .top, .top, .top, .top, .top, .top, .top, .top, .top, .top, .top, .top, .top, .top, .top, .top, t83, t84, t85, .top, .top, .top, .top, .top, .top, .top, .top, .top, .top, .top, .top, .top, .top, .top, .top, .top, .top, .top, .top, .top, .top, .top, .top, .top, .top, .top, .top, .top, .top, .top, .top, .top, .top, .top, .top, .top, .top, .top, .top, .top, .top, .top, .top, .top, .top]
theorem A34M1_eq (t0 t1 t2 t3 t4 t5 t6 t7 t8 t9 t10 t11 t12 t13 t14 t15 t16 t17 t18 t19 t20 t21 t22 t23 t24 t25 t26 t27 t28 t29 t30 t31 t32 t33 t34 t35 t36 t37 t38 t39 t40 t41 t42 t43 t44 t45 t46 t47 t48 t49 t50 t51 t52 t53 t54 t55 t56 t57 t58 t59 t60 t61 t62 t63 t64 t65 t66 t67 t68 t69 t70 t71 t72 t73 t74 t75 t76 t77 t78 t79 t80 t81 t82 t83 t84 t85 t86 t87 t88 t89 t90 t91 t92 t93 t94 t95 t96 t97 t98 t99 t100 t101 t102 t103 t104 t105 t106 t107 t108 t109 t110 t111 t112 t113 t114 t115 t116 t117 t118 t119 t120 t121 t122 t123 t124 t125 t126 t127 t128 t129 t130 t131 : AV) : mask A34M1 [t0, t1, t2, t3, t4, t5, t6, t7, t8, t9, t10, t11, t12, t13, t14, t15, t16, t17, t18, t19, t20, t21, t22, t23, t24, t25, t26, t27, t28, t29, t30, t31, t32, t33, t34, t35, t36, t37, t38, t39, t40, t41, t42, t43, t44, t45, t46, t47, t48, t49, t50, t51, t52, t53, t54, t55, t56, t57, t58, t59, t60, t61, t62, t63, t64, t65, t66, t67, t68, t69, t70, t71, t72, t73, t74, t75, t76, t77, t78, t79, t80, t81, t82, t83, t84, t85, t86, t87, t88, t89, t90, t91, t92, t93, t94, t95, t96, t97, t98, t99, t100, t101, t102, t103, t104, t105, t106, t107, t108, t109, t110, t111, t112, t113, t114, t115, t116, t117, t118, t119, t120, t121, t122, t123, t124, t125, t126, t127, t128, t129, t130, t131] = [.top, .top, .top, .top, .top, .top, .top, .top, .top, t9, t10, t11, .top, .top, .top, t15, .top, .top, .top, .top, .top, .top, .top, .top, .top, .top, .top, .top, .top, .top, .top, .top, .top, .top, .top, .top, .top, .top, .top, .top, .top, .top, .top, .top, .top, .top, .top, .top, .top, .top, .top, .top, .top, .top, .top, .top, .top, .top, .top, .top, .top, .top, .top, .top, .top, .top, .top, .top, .top, .top, .top, .top, .top, .top, .top, .top, .top, .top, .top, .top, .top, .top, .top, t83, t84, t85, .top, .top, .top, .top, .top, .top, .top, .top, .top, .top, .top, .top, .top, .top, .top, .top, .top, .top, .top, .top, .top, .top, .top, .top, .top, .top, .top, .top, .top, .top, .top, .top, .top, .top, .top, .top, .top, .top, .top, .top, .top, .top, .top, .top, .top, .top] := rfl
theorem A34_is : compFn Try.prog md Try.f34 = some { A34 with code := A34.code.erase } := by kernel_rfl

/-- peristyle/peristyleref11.AsOf -/
def A35 : AFn := ⟨35, [.cell 4 2 true, .tmp 5],
  .seq (.reg 2 [⟨(some 2), .box 0 (.t 0), none⟩,
      ⟨(some 4), .alloc 1 [.nils, .nils], none⟩,
      ⟨(some 5), .mv (.c (.v (.int .i64 0))), none⟩])
  (.seq (.seq (.reg 0 [⟨(some 10), .load 7 true (.t 2), none⟩,
      ⟨(some 11), .call 0 12 [(.t 10)], none⟩,
      ⟨(some 6), .mv (.t 11), none⟩])
  (.seq (.reg 0 [⟨(some 12), .mv (.t 6), none⟩,
      ⟨(some 13), .bin .neq (.t 12) (.c (.v (.int .i64 0))), none⟩])
  (.cond (.t 13)
    (.seq (.reg 0 [⟨(some 14), .build [.nils, .nils] [], none⟩,
        ⟨(some 15), .mv (.t 6), none⟩,
        ⟨none, .store 2 (.t 4) (.t 14), none⟩,
        ⟨(some 5), .mv (.t 15), none⟩])
    (.ret))
    (.skip))))
  (.seq (.seq (.reg 0 [⟨(some 16), .mv (.t 1), none⟩,
      ⟨(some 17), .fa 5 (.t 2), none⟩,
      ⟨(some 18), .load 1 false (.t 17), none⟩,
      ⟨(some 19), .fa 2 (.t 2), none⟩,
      ⟨(some 20), .load 1 false (.t 19), none⟩,
      ⟨(some 21), .call 0 47 [(.t 16), (.t 18), (.t 20)], none⟩,
      ⟨(some 22), .un .not (.t 21), none⟩])
  (.cond (.t 22)
    (.seq (.reg 0 [⟨(some 23), .build [.nils, .nils] [], none⟩,
        ⟨none, .store 2 (.t 4) (.t 23), none⟩,
        ⟨(some 5), .mv (.c (.v (.int .i64 1))), none⟩])
    (.ret))
    (.skip)))
  (.seq (.dreg 1 [⟨(some 25), .load 7 true (.t 2), none⟩,
      ⟨(some 26), .load 7 true (.t 2), none⟩,
      ⟨(some 27), .mv (.t 1), none⟩,
      ⟨(some 28), .call 0 79 [(.t 26), (.t 27)], none⟩,
      ⟨(some 29), .call 0 78 [(.t 25), (.t 28)], none⟩,
      ⟨(some 24), .mv (.t 29), none⟩,
      ⟨(some 30), .ext 0 (.t 24), none⟩,
      ⟨(some 31), .ext 1 (.t 24), none⟩,
      ⟨(some 32), .ext 2 (.t 24), none⟩,
      ⟨(some 8), .alloc 0 [.nils, .nils], none⟩,
      ⟨(some 7), .mv (.t 30), none⟩,
      ⟨none, .store 2 (.t 8) (.t 31), none⟩,
      ⟨(some 9), .mv (.t 32), none⟩] [(0, 1), (0, 3), (0, 9), (1, 9), (3, 9), (4, 9)])
  (.seq (.reg 0 [⟨(some 33), .load 2 true (.t 8), none⟩,
      ⟨(some 34), .mv (.t 9), none⟩,
      ⟨none, .store 2 (.t 4) (.t 33), none⟩,
      ⟨(some 5), .mv (.t 34), none⟩])
  (.ret)))))⟩
theorem A35_is : compFn Try.prog md Try.f35 = some { A35 with code := A35.code.erase } := by kernel_rfl

/-- peristyle/store.History -/
def A36M0 : List Bool := [false, true, false, false, false, false, false, true, false, false, false, false, false, false, false, false, false, false, false, false, false, false, false, true, true, true, false, false, false, false, false, false, false, false, false, false, false, false, false]
def A36L0 : AC :=
  .seq (.reg 0 [⟨(some 26), .bin .lss (.t 25) (.t 24), none⟩])
  (.seq (.cond (.t 26)
    (.skip)
    (.exit 0))
  (.seq (.block 1
    (.seq (.reg 1 [⟨(some 27), .ia 4 (.t 23) (.t 25), none⟩,
        ⟨(some 28), .load 4 true (.t 27), none⟩,
        ⟨(some 9), .alloc 0 [(.v (.int .i64 0)), (.v (.int .i64 0)), (.v (.int .i64 0)), .nils], none⟩,
        ⟨none, .store 4 (.t 9) (.t 28), none⟩])
    (.seq (.reg 0 [⟨(some 29), .fa 0 (.t 9), none⟩,
        ⟨(some 30), .load 1 false (.t 29), none⟩,
        ⟨(some 31), .mv (.t 1), none⟩,
        ⟨(some 32), .bin .eql (.t 30) (.t 31), none⟩])
    (.cond (.t 32)
      (.reg 0 [⟨(some 33), .mv (.t 7), none⟩,
          ⟨(some 34), .load 4 true (.t 9), none⟩,
          ⟨(some 35), .bsl 4 1 [(.v (.int .i64 0)), (.v (.int .i64 0)), (.v (.int .i64 0)), .nils] [(0, (.t 34))], none⟩,
          ⟨(some 36), .app 4 48 (.t 33) (.t 35), none⟩,
          ⟨(some 7), .mv (.t 36), none⟩])
      (.skip)))))
  (.reg 0 [⟨(some 37), .bin .add (.t 25) (.c (.v (.int .i64 1))), none⟩,
      ⟨(some 25), .mv (.t 37), none⟩])))
def A36 : AFn := ⟨39, [.tmp 4, .tmp 5],
  .seq (.reg 1 [⟨(some 2), .box 0 (.t 0), none⟩,
      ⟨(some 4), .mv (.c .nils), none⟩,
      ⟨(some 5), .mv (.c (.v (.int .i64 0))), none⟩])
  (.seq (.seq (.reg 0 [⟨(some 10), .load 7 true (.t 2), none⟩,
      ⟨(some 11), .call 0 11 [(.t 10)], none⟩,
      ⟨(some 6), .mv (.t 11), none⟩])
  (.seq (.reg 0 [⟨(some 12), .mv (.t 6), none⟩,
      ⟨(some 13), .bin .neq (.t 12) (.c (.v (.int .i64 0))), none⟩])
  (.cond (.t 13)
    (.seq (.reg 0 [⟨(some 14), .mv (.t 6), none⟩,
        ⟨(some 4), .mv (.c .nils), none⟩,
        ⟨(some 5), .mv (.t 14), none⟩])
    (.ret))
    (.skip))))
  (.seq (.seq (.reg 0 [⟨(some 15), .mv (.t 1), none⟩,
      ⟨(some 16), .fa 3 (.t 2), none⟩,
      ⟨(some 17), .load 1 false (.t 16), none⟩,
      ⟨(some 18), .bin .sub (.t 17) (.c (.v (.int .i64 1))), none⟩,
      ⟨(some 19), .call 0 44 [(.t 15), (.c (.v (.int .i64 1))), (.t 18)], none⟩,
      ⟨(some 20), .un .not (.t 19), none⟩])
  (.cond (.t 20)
    (.seq (.reg 0 [⟨(some 4), .mv (.c .nils), none⟩,
        ⟨(some 5), .mv (.c (.v (.int .i64 1))), none⟩])
    (.ret))
    (.skip)))
  (.seq (.reg 0 [⟨(some 7), .mv (.c .nils), none⟩])
  (.seq (.seq (.reg 0 [⟨(some 21), .load 7 true (.t 2), none⟩,
      ⟨(some 22), .call 1 51 [(.t 21)], none⟩,
      ⟨(some 23), .fld 1 1 false (.t 22), none⟩,
      ⟨(some 24), .len false (.t 23), none⟩,
      ⟨(some 25), .mv (.c (.v (.int .i64 0))), none⟩])
  (.block 0
    (.loop A36M0 A36L0)))
  (.seq (.reg 0 [⟨(some 38), .mv (.t 7), none⟩,
      ⟨(some 4), .mv (.t 38), none⟩,
      ⟨(some 5), .mv (.c (.v (.int .i64 0))), none⟩])
  (.ret))))))⟩
/-- Live: [1, 7, 23, 24, 25] -/
abbrev A36H0 (t1 t7 t23 t24 t25 : AV) : List AV := [.top, t1, .top, .top, .top, .top, .top, t7, .top, .top, .top, .top, .top, .top, .top, .top, .top, .top, .top, .top, .top, .top, .top, t23, t24, t25, .top, .top, .top, .top, .top, .top, .top, .top, .top, .top, .top, .top, .top]
theorem A36M0_eq (t0 t1 t2 t3 t4 t5 t6 t7 t8 t9 t10 t11 t12 t13 t14 t15 t16 t17 t18 t19 t20 t21 t22 t23 t24 t25 t26 t27 t28 t29 t30 t31 t32 t33 t34 t35 t36 t37 t38 : AV) : mask A36M0 [t0, t1, t2, t3, t4, t5, t6, t7, t8, t9, t10, t11, t12, t13, t14, t15, t16, t17, t18, t19, t20, t21, t22, t23, t24, t25, t26, t27, t28, t29, t30, t31, t32, t33, t34, t35, t36, t37, t38] = [.top, t1, .top, .top, .top, .top, .top, t7, .top, .top, .top, .top, .top, .top, .top, .top, .top, .top, .top, .top, .top, .top, .top, t23, t24, t25, .top, .top, .top, .top, .top, .top, .top, .top, .top, .top, .top, .top, .top] := rfl
theorem A36_is : compFn Try.prog md Try.f36 = some { A36 with code := A36.code.erase } := by kernel_rfl

/-- peristyle/peristyleref11.History -/
def A37M0 : List Bool := [false, true, true, false, false, false, false, true, true, false, false, false, false, false, false, false, false, false, false, false, false, false, false, false, false, false, false, false, false, false, false, false, false, false, false, false, false, false, false, false, false, false, false, false]
def A37L0 : AC :=
  .seq (.seq (.reg 0 [⟨(some 20), .mv (.t 8), none⟩,
      ⟨(some 21), .fa 1 (.t 2), none⟩,
      ⟨(some 22), .load 1 false (.t 21), none⟩,
      ⟨(some 23), .len false (.t 22), none⟩,
      ⟨(some 24), .bin .lss (.t 20) (.t 23), none⟩])
  (.cond (.t 24)
    (.skip)
    (.exit 0)))
  (.seq (.block 1
    (.seq (.reg 0 [⟨(some 27), .fa 1 (.t 2), none⟩,
        ⟨(some 28), .load 1 false (.t 27), none⟩,
        ⟨(some 29), .mv (.t 8), none⟩,
        ⟨(some 30), .ia 4 (.t 28) (.t 29), none⟩,
        ⟨(some 31), .fa 0 (.t 30), none⟩,
        ⟨(some 32), .load 1 false (.t 31), none⟩,
        ⟨(some 33), .mv (.t 1), none⟩,
        ⟨(some 34), .bin .eql (.t 32) (.t 33), none⟩])
    (.cond (.t 34)
      (.reg 0 [⟨(some 35), .mv (.t 7), none⟩,
          ⟨(some 36), .fa 1 (.t 2), none⟩,
          ⟨(some 37), .load 1 false (.t 36), none⟩,
          ⟨(some 38), .mv (.t 8), none⟩,
          ⟨(some 39), .ia 4 (.t 37) (.t 38), none⟩,
          ⟨(some 40), .load 4 true (.t 39), none⟩,
          ⟨(some 41), .bsl 4 1 [(.v (.int .i64 0)), (.v (.int .i64 0)), (.v (.int .i64 0)), .nils] [(0, (.t 40))], none⟩,
          ⟨(some 42), .app 4 48 (.t 35) (.t 41), none⟩,
          ⟨(some 7), .mv (.t 42), none⟩])
      (.skip))))
  (.reg 0 [⟨(some 25), .mv (.t 8), none⟩,
      ⟨(some 26), .bin .add (.t 25) (.c (.v (.int .i64 1))), none⟩,
      ⟨(some 8), .mv (.t 26), none⟩]))
def A37 : AFn := ⟨44, [.tmp 4, .tmp 5],
  .seq (.reg 1 [⟨(some 2), .box 0 (.t 0), none⟩,
      ⟨(some 4), .mv (.c .nils), none⟩,
      ⟨(some 5), .mv (.c (.v (.int .i64 0))), none⟩])
  (.seq (.seq (.reg 0 [⟨(some 9), .load 7 true (.t 2), none⟩,
      ⟨(some 10), .call 0 12 [(.t 9)], none⟩,
      ⟨(some 6), .mv (.t 10), none⟩])
  (.seq (.reg 0 [⟨(some 11), .mv (.t 6), none⟩,
      ⟨(some 12), .bin .neq (.t 11) (.c (.v (.int .i64 0))), none⟩])
  (.cond (.t 12)
    (.seq (.reg 0 [⟨(some 13), .mv (.t 6), none⟩,
        ⟨(some 4), .mv (.c .nils), none⟩,
        ⟨(some 5), .mv (.t 13), none⟩])
    (.ret))
    (.skip))))
  (.seq (.seq (.reg 0 [⟨(some 14), .mv (.t 1), none⟩,
      ⟨(some 15), .fa 3 (.t 2), none⟩,
      ⟨(some 16), .load 1 false (.t 15), none⟩,
      ⟨(some 17), .bin .sub (.t 16) (.c (.v (.int .i64 1))), none⟩,
      ⟨(some 18), .call 0 47 [(.t 14), (.c (.v (.int .i64 1))), (.t 17)], none⟩,
      ⟨(some 19), .un .not (.t 18), none⟩])
  (.cond (.t 19)
    (.seq (.reg 0 [⟨(some 4), .mv (.c .nils), none⟩,
        ⟨(some 5), .mv (.c (.v (.int .i64 1))), none⟩])
    (.ret))
    (.skip)))
  (.seq (.reg 0 [⟨(some 7), .mv (.c .nils), none⟩])
  (.seq (.seq (.reg 0 [⟨(some 8), .mv (.c (.v (.int .i64 0))), none⟩])
  (.block 0
    (.loop A37M0 A37L0)))
  (.seq (.reg 0 [⟨(some 43), .mv (.t 7), none⟩,
      ⟨(some 4), .mv (.t 43), none⟩,
      ⟨(some 5), .mv (.c (.v (.int .i64 0))), none⟩])
  (.ret))))))⟩
/-- Live: [1, 2, 7, 8] -/
abbrev A37H0 (t1 t2 t7 t8 : AV) : List AV := [.top, t1, t2, .top, .top, .top, .top, t7, t8, .top, .top, .top, .top, .top, .top, .top, .top, .top, .top, .top, .top, .top, .top, .top, .top, .top, .top, .top, .top, .top, .top, .top, .top, .top, .top, .top, .top, .top, .top, .top, .top, .top, .top, .top]
theorem A37M0_eq (t0 t1 t2 t3 t4 t5 t6 t7 t8 t9 t10 t11 t12 t13 t14 t15 t16 t17 t18 t19 t20 t21 t22 t23 t24 t25 t26 t27 t28 t29 t30 t31 t32 t33 t34 t35 t36 t37 t38 t39 t40 t41 t42 t43 : AV) : mask A37M0 [t0, t1, t2, t3, t4, t5, t6, t7, t8, t9, t10, t11, t12, t13, t14, t15, t16, t17, t18, t19, t20, t21, t22, t23, t24, t25, t26, t27, t28, t29, t30, t31, t32, t33, t34, t35, t36, t37, t38, t39, t40, t41, t42, t43] = [.top, t1, t2, .top, .top, .top, .top, t7, t8, .top, .top, .top, .top, .top, .top, .top, .top, .top, .top, .top, .top, .top, .top, .top, .top, .top, .top, .top, .top, .top, .top, .top, .top, .top, .top, .top, .top, .top, .top, .top, .top, .top, .top, .top] := rfl
theorem A37_is : compFn Try.prog md Try.f37 = some { A37 with code := A37.code.erase } := by kernel_rfl

/-- peristyle/peristyleref11.Changes -/
def A38M0 : List Bool := [false, true, true, true, false, false, false, false, false, true, true, true, false, false, false, false, false, false, false, false, false, false, false, false, false, false, false, false, false, false, false, false, false, false, false, false, false, false, false, false, false, false, false, false, false, false, false, false, false, false, false, false, false, false, false, false, false, false, false, false, false, false, false, false, false, false, false, false, false, false, false, false, false, false, false, false, false, false, false, false, false, false, false, false, false, false, false, false, false, false, false, false, false, false, false, false, false, false, false, false, false, false, false, false, false, false, false, false, false, false, false, false, false, false, false]
def A38L0 : AC :=
  .seq (.seq (.reg 0 [⟨(some 38), .mv (.t 11), none⟩,
      ⟨(some 39), .fa 1 (.t 3), none⟩,
      ⟨(some 40), .load 1 false (.t 39), none⟩,
      ⟨(some 41), .len false (.t 40), none⟩,
      ⟨(some 42), .bin .lss (.t 38) (.t 41), none⟩])
  (.cond (.t 42)
    (.skip)
    (.exit 0)))
  (.seq (.block 1
    (.reg 0 [⟨(some 45), .mv (.t 10), none⟩,
        ⟨(some 46), .fa 1 (.t 3), none⟩,
        ⟨(some 47), .load 1 false (.t 46), none⟩,
        ⟨(some 48), .mv (.t 11), none⟩,
        ⟨(some 49), .ia 4 (.t 47) (.t 48), none⟩,
        ⟨(some 50), .fa 0 (.t 49), none⟩,
        ⟨(some 51), .load 1 false (.t 50), none⟩,
        ⟨(some 52), .call 0 80 [(.t 45), (.t 51)], none⟩,
        ⟨(some 10), .mv (.t 52), none⟩]))
  (.reg 0 [⟨(some 43), .mv (.t 11), none⟩,
      ⟨(some 44), .bin .add (.t 43) (.c (.v (.int .i64 1))), none⟩,
      ⟨(some 11), .mv (.t 44), none⟩]))
def A38M1 : List Bool := [false, true, true, true, false, false, false, false, false, true, false, false, false, false, false, false, false, false, false, false, false, false, false, false, false, false, false, false, false, false, false, false, false, false, false, false, false, false, false, false, false, false, false, false, false, false, false, false, false, false, false, false, false, true, true, true, false, false, false, false, false, false, false, false, false, false, false, false, false, false, false, false, false, false, false, false, false, false, false, false, false, false, false, false, false, false, false, false, false, false, false, false, false, false, false, false, false, false, false, false, false, false, false, false, false, false, false, false, false, false, false, false, false, false, false]
def A38L1 : AC :=
  .seq (.reg 0 [⟨(some 56), .bin .lss (.t 55) (.t 54), none⟩])
  (.seq (.cond (.t 56)
    (.skip)
    (.exit 2))
  (.seq (.block 3
    (.seq (.reg 0 [⟨(some 57), .ia 1 (.t 53) (.t 55), none⟩,
        ⟨(some 58), .load 1 false (.t 57), none⟩,
        ⟨(some 13), .mv (.t 58), none⟩])
    (.seq (.reg 1 [⟨(some 60), .load 7 true (.t 3), none⟩,
        ⟨(some 61), .mv (.t 13), none⟩,
        ⟨(some 62), .mv (.t 1), none⟩,
        ⟨(some 63), .call 0 81 [(.t 60), (.t 61), (.t 62)], none⟩,
        ⟨(some 59), .mv (.t 63), none⟩,
        ⟨(some 64), .ext 0 (.t 59), none⟩,
        ⟨(some 65), .ext 1 (.t 59), none⟩,
        ⟨(some 14), .alloc 0 [(.v (.int .i64 0)), (.v (.int .i64 0)), (.v (.int .i64 0)), .nils], none⟩,
        ⟨none, .store 4 (.t 14) (.t 64), none⟩,
        ⟨(some 15), .mv (.t 65), none⟩])
    (.seq (.reg 1 [⟨(some 67), .load 7 true (.t 3), none⟩,
        ⟨(some 68), .mv (.t 13), none⟩,
        ⟨(some 69), .mv (.t 2), none⟩,
        ⟨(some 70), .call 0 81 [(.t 67), (.t 68), (.t 69)], none⟩,
        ⟨(some 66), .mv (.t 70), none⟩,
        ⟨(some 71), .ext 0 (.t 66), none⟩,
        ⟨(some 72), .ext 1 (.t 66), none⟩,
        ⟨(some 16), .alloc 0 [(.v (.int .i64 0)), (.v (.int .i64 0)), (.v (.int .i64 0)), .nils], none⟩,
        ⟨none, .store 4 (.t 16) (.t 71), none⟩,
        ⟨(some 17), .mv (.t 72), none⟩])
    (.block 4
      (.seq (.reg 0 [⟨(some 74), .mv (.t 15), none⟩,
          ⟨(some 75), .un .not (.t 74), none⟩,
          ⟨(some 76), .mv (.t 75), none⟩,
          ⟨(some 77), .mv (.t 17), (some (76, true))⟩,
          ⟨(some 78), .pick (.t 76) (.t 77) (.c (.v (.bool false))), none⟩,
          ⟨(some 73), .mv (.t 78), none⟩])
      (.cond (.t 73)
        (.reg 0 [⟨(some 79), .mv (.t 9), none⟩,
            ⟨(some 80), .mv (.t 13), none⟩,
            ⟨(some 81), .fa 3 (.t 16), none⟩,
            ⟨(some 82), .load 1 false (.t 81), none⟩,
            ⟨(some 83), .build [(.v (.int .i64 0)), (.v (.int .i64 0)), .nils] [(0, 1, (.c (.v (.int .i64 1)))), (1, 1, (.t 80)), (2, 1, (.t 82))], none⟩,
            ⟨(some 84), .bsl 3 1 [(.v (.int .i64 0)), (.v (.int .i64 0)), .nils] [(0, (.t 83))], none⟩,
            ⟨(some 85), .app 3 40 (.t 79) (.t 84), none⟩,
            ⟨(some 9), .mv (.t 85), none⟩])
        (.seq (.reg 0 [⟨(some 87), .mv (.t 15), none⟩,
            ⟨(some 88), .mv (.t 87), none⟩,
            ⟨(some 89), .mv (.t 17), (some (88, true))⟩,
            ⟨(some 90), .un .not (.t 89), (some (88, true))⟩,
            ⟨(some 91), .pick (.t 88) (.t 90) (.c (.v (.bool false))), none⟩,
            ⟨(some 86), .mv (.t 91), none⟩])
        (.cond (.t 86)
          (.reg 0 [⟨(some 92), .mv (.t 9), none⟩,
              ⟨(some 93), .mv (.t 13), none⟩,
              ⟨(some 94), .build [(.v (.int .i64 0)), (.v (.int .i64 0)), .nils] [(0, 1, (.c (.v (.int .i64 2)))), (1, 1, (.t 93))], none⟩,
              ⟨(some 95), .bsl 3 1 [(.v (.int .i64 0)), (.v (.int .i64 0)), .nils] [(0, (.t 94))], none⟩,
              ⟨(some 96), .app 3 40 (.t 92) (.t 95), none⟩,
              ⟨(some 9), .mv (.t 96), none⟩])
          (.seq (.reg 0 [⟨(some 98), .mv (.t 15), none⟩,
              ⟨(some 99), .mv (.t 98), none⟩,
              ⟨(some 100), .fa 1 (.t 14), (some (99, true))⟩,
              ⟨(some 101), .load 1 false (.t 100), (some (99, true))⟩,
              ⟨(some 102), .fa 1 (.t 16), (some (99, true))⟩,
              ⟨(some 103), .load 1 false (.t 102), (some (99, true))⟩,
              ⟨(some 104), .bin .neq (.t 101) (.t 103), (some (99, true))⟩,
              ⟨(some 105), .pick (.t 99) (.t 104) (.c (.v (.bool false))), none⟩,
              ⟨(some 97), .mv (.t 105), none⟩])
          (.cond (.t 97)
            (.reg 0 [⟨(some 106), .mv (.t 9), none⟩,
                ⟨(some 107), .mv (.t 13), none⟩,
                ⟨(some 108), .fa 3 (.t 16), none⟩,
                ⟨(some 109), .load 1 false (.t 108), none⟩,
                ⟨(some 110), .build [(.v (.int .i64 0)), (.v (.int .i64 0)), .nils] [(0, 1, (.c (.v (.int .i64 3)))), (1, 1, (.t 107)), (2, 1, (.t 109))], none⟩,
                ⟨(some 111), .bsl 3 1 [(.v (.int .i64 0)), (.v (.int .i64 0)), .nils] [(0, (.t 110))], none⟩,
                ⟨(some 112), .app 3 40 (.t 106) (.t 111), none⟩,
                ⟨(some 9), .mv (.t 112), none⟩])
            (.skip))))))))))))
  (.reg 0 [⟨(some 113), .bin .add (.t 55) (.c (.v (.int .i64 1))), none⟩,
      ⟨(some 55), .mv (.t 113), none⟩])))
def A38 : AFn := ⟨115, [.tmp 6, .tmp 7],
  .seq (.reg 1 [⟨(some 3), .box 0 (.t 0), none⟩,
      ⟨(some 6), .mv (.c .nils), none⟩,
      ⟨(some 7), .mv (.c (.v (.int .i64 0))), none⟩])
  (.seq (.seq (.reg 0 [⟨(some 18), .load 7 true (.t 3), none⟩,
      ⟨(some 19), .call 0 12 [(.t 18)], none⟩,
      ⟨(some 8), .mv (.t 19), none⟩])
  (.seq (.reg 0 [⟨(some 20), .mv (.t 8), none⟩,
      ⟨(some 21), .bin .neq (.t 20) (.c (.v (.int .i64 0))), none⟩])
  (.cond (.t 21)
    (.seq (.reg 0 [⟨(some 22), .mv (.t 8), none⟩,
        ⟨(some 6), .mv (.c .nils), none⟩,
        ⟨(some 7), .mv (.t 22), none⟩])
    (.ret))
    (.skip))))
  (.seq (.seq (.reg 0 [⟨(some 23), .mv (.t 1), none⟩,
      ⟨(some 24), .fa 5 (.t 3), none⟩,
      ⟨(some 25), .load 1 false (.t 24), none⟩,
      ⟨(some 26), .fa 2 (.t 3), none⟩,
      ⟨(some 27), .load 1 false (.t 26), none⟩,
      ⟨(some 28), .call 0 47 [(.t 23), (.t 25), (.t 27)], none⟩,
      ⟨(some 29), .un .not (.t 28), none⟩,
      ⟨(some 30), .mv (.t 29), none⟩,
      ⟨(some 31), .mv (.t 2), (some (30, false))⟩,
      ⟨(some 32), .mv (.t 1), (some (30, false))⟩,
      ⟨(some 33), .fa 2 (.t 3), (some (30, false))⟩,
      ⟨(some 34), .load 1 false (.t 33), (some (30, false))⟩,
      ⟨(some 35), .call 0 47 [(.t 31), (.t 32), (.t 34)], (some (30, false))⟩,
      ⟨(some 36), .un .not (.t 35), (some (30, false))⟩,
      ⟨(some 37), .pick (.t 30) (.c (.v (.bool true))) (.t 36), none⟩])
  (.cond (.t 37)
    (.seq (.reg 0 [⟨(some 6), .mv (.c .nils), none⟩,
        ⟨(some 7), .mv (.c (.v (.int .i64 1))), none⟩])
    (.ret))
    (.skip)))
  (.seq (.reg 0 [⟨(some 9), .mv (.c .nils), none⟩])
  (.seq (.reg 0 [⟨(some 10), .mv (.c .nils), none⟩])
  (.seq (.seq (.reg 0 [⟨(some 11), .mv (.c (.v (.int .i64 0))), none⟩])
  (.block 0
    (.loop A38M0 A38L0)))
  (.seq (.seq (.reg 0 [⟨(some 53), .mv (.t 10), none⟩,
      ⟨(some 54), .len false (.t 53), none⟩,
      ⟨(some 55), .mv (.c (.v (.int .i64 0))), none⟩])
  (.block 2
    (.loop A38M1 A38L1)))
  (.seq (.reg 0 [⟨(some 114), .mv (.t 9), none⟩,
      ⟨(some 6), .mv (.t 114), none⟩,
      ⟨(some 7), .mv (.c (.v (.int .i64 0))), none⟩])
  (.ret))))))))⟩
/-- Live: [1, 2, 3, 9, 10, 11] -/
abbrev A38H0 (t1 t2 t3 t9 t10 t11 : AV) : List AV := [.top, t1, t2, t3, .top, .top, .top, .top, .top, t9, t10, t11, .top, .top, .top, .top, .top, .top, .top, .top, .top, .top, .top, .top, .top, .top, .top, .top, .top, .top, .top, .top, .top, .top, .top, .top, .top, .top, .top, .top, .top, .top, .top, .top, .top, .top, .top, .top, .top, .top, .top, .top, .top, .top, .top, .top, .top, .top, .top, .top, .top, .top, .top, .top, .top, .top, .top, .top, .top, .top, .top, .top, .top, .top, .top, .top, .top, .top, .top, .top, .top, .top, .top, .top, .top, .top, .top, .top, .top, .top, .top, .top, .top, .top, .top, .top, .top, .top, .top, .top, .top, .top, .top, .top, .top, .top, .top, .top, .top, .top, .top, .top, .top, .top, .top]
theorem A38M0_eq (t0 t1 t2 t3 t4 t5 t6 t7 t8 t9 t10 t11 t12 t13 t14 t15 t16 t17 t18 t19 t20 t21 t22 t23 t24 t25 t26 t27 t28 t29 t30 t31 t32 t33 t34 t35 t36 t37 t38 t39 t40 t41 t42 t43 t44 t45 t46 t47 t48 t49 t50 t51 t52 t53 t54 t55 t56 t57 t58 t59 t60 t61 t62 t63 t64 t65 t66 t67 t68 t69 t70 t71 t72 t73 t74 t75 t76 t77 t78 t79 t80 t81 t82 t83 t84 t85 t86 t87 t88 t89 t90 t91 t92 t93 t94 t95 t96 t97 t98 t99 t100 t101 t102 t103 t104 t105 t106 t107 t108 t109 t110 t111 t112 t113 t114 : AV) : mask A38M0 [t0, t1, t2, t3, t4, t5, t6, t7, t8, t9, t10, t11, t12, t13, t14, t15, t16, t17, t18, t19, t20, t21, t22, t23, t24, t25, t26, t27, t28, t29, t30, t31, t32, t33, t34, t35, t36, t37, t38, t39, t40, t41, t42, t43, t44, t45, t46, t47, t48, t49, t50, t51, t52, t53, t54, t55, t56, t57, t58, t59, t60, t61, t62, t63, t64, t65, t66, t67, t68, t69, t70, t71, t72, t73, t74, t75, t76, t77, t78, t79, t80, t81, t82, t83, t84, t85, t86, t87, t88, t89, t90, t91, t92, t93, t94, t95, t96, t97, t98, t99, t100, t101, t102, t103, t104, t105, t106, t107, t108, t109, t110, t111, t112, t113, t114] = [.top, t1, t2, t3, .top, .top, .top, .top, .top, t9, t10, t11, .top, .top, .top, .top, .top, .top, .top, .top, .top, .top, .top, .top, .top, .top, .top, .top, .top, .top, .top, .top, .top, .top, .top, .top, .top, .top, .top, .top, .top, .top, .top, .top, .top, .top, .top, .top, .top, .top, .top, .top, .top, .top, .top, .top, .top, .top, .top, .top, .top, .top, .top, .top, .top, .top, .top, .top, .top, .top, .top, .top, .top, .top, .top, .top, .top, .top, .top, .top, .top, .top, .top, .top, .top, .top, .top, .top, .top, .top, .top, .top, .top, .top, .top, .top, .top, .top, .top, .top, .top, .top, .top, .top, .top, .top, .top, .top, .top, .top, .top, .top, .top, .top, .top] := rfl
/-- Live: [1, 2, 3, 9, 53, 54, 55] -/
abbrev A38H1 (t1 t2 t3 t9 t53 t54 t55 : AV) : List AV := [.top, t1, t2, t3, .top, .top, .top, .top, .top, t9, .top, .top, .top, .top, .top, .top, .top, .top, .top, .top, .top, .top, .top, .top, .top, .top, .top, .top, .top, .top, .top, .top, .top, .top, .top, .top, .top, .top, .top, .top, .top, .top, .top, .top, .top, .top, .top, .top, .top, .top, .top, .top, .top, t53, t54, t55, .top, .top, .top, .top, .top, .top, .top, .top, .top, .top, .top, .top, .top, .top, .top, .top, .top, .top, .top, .top, .top, .top, .top, .top, .top, .top, .top, .top, .top, .top, .top, .top, .top, .top, .top, .top, .top, .top, .top, .top, .top, .top, .top, .top, .top, .top, .top, .top, .top, .top, .top, .top, .top, .top, .top, .top, .top, .top, .top]
theorem A38M1_eq (t0 t1 t2 t3 t4 t5 t6 t7 t8 t9 t10 t11 t12 t13 t14 t15 t16 t17 t18 t19 t20 t21 t22 t23 t24 t25 t26 t27 t28 t29 t30 t31 t32 t33 t34 t35 t36 t37 t38 t39 t40 t41 t42 t43 t44 t45 t46 t47 t48 t49 t50 t51 t52 t53 t54 t55 t56 t57 t58 t59 t60 t61 t62 t63 t64 t65 t66 t67 t68 t69 t70 t71 t72 t73 t74 t75 t76 t77 t78 t79 t80 t81 t82 t83 t84 t85 t86 t87 t88 t89 t90 t91 t92 t93 t94 t95 t96 t97 t98 t99 t100 t101 t102 t103 t104 t105 t106 t107 t108 t109 t110 t111 t112 t113 t114 : AV) : mask A38M1 [t0, t1, t2, t3, t4, t5, t6, t7, t8, t9, t10, t11, t12, t13, t14, t15, t16, t17, t18, t19, t20, t21, t22, t23, t24, t25, t26, t27, t28, t29, t30, t31, t32, t33, t34, t35, t36, t37, t38, t39, t40, t41, t42, t43, t44, t45, t46, t47, t48, t49, t50, t51, t52, t53, t54, t55, t56, t57, t58, t59, t60, t61, t62, t63, t64, t65, t66, t67, t68, t69, t70, t71, t72, t73, t74, t75, t76, t77, t78, t79, t80, t81, t82, t83, t84, t85, t86, t87, t88, t89, t90, t91, t92, t93, t94, t95, t96, t97, t98, t99, t100, t101, t102, t103, t104, t105, t106, t107, t108, t109, t110, t111, t112, t113, t114] = [.top, t1, t2, t3, .top, .top, .top, .top, .top, t9, .top, .top, .top, .top, .top, .top, .top, .top, .top, .top, .top, .top, .top, .top, .top, .top, .top, .top, .top, .top, .top, .top, .top, .top, .top, .top, .top, .top, .top, .top, .top, .top, .top, .top, .top, .top, .top, .top, .top, .top, .top, .top, .top, t53, t54, t55, .top, .top, .top, .top, .top, .top, .top, .top, .top, .top, .top, .top, .top, .top, .top, .top, .top, .top, .top, .top, .top, .top, .top, .top, .top, .top, .top, .top, .top, .top, .top, .top, .top, .top, .top, .top, .top, .top, .top, .top, .top, .top, .top, .top, .top, .top, .top, .top, .top, .top, .top, .top, .top, .top, .top, .top, .top, .top, .top] := rfl
theorem A38_is : compFn Try.prog md Try.f38 = some { A38 with code := A38.code.erase } := by kernel_rfl

/-- peristyle/peristyleref11.SameVersions -/
def A39M0 : List Bool := [true, true, false, false, false, true, false, false, false, false, false, false, false, false, false, false, false, false, false, false, false, false, false, false, false, false, false, false, false, false, false, false, false, false, false, false, false, false, false, false, false, false, false, false, false, false, false, false, false, false, false, false, false, false, false, false, false, false, false, false, false, false, false, false, false, false, false, false]
def A39L0 : AC :=
  .seq (.seq (.reg 0 [⟨(some 11), .mv (.t 5), none⟩,
      ⟨(some 12), .mv (.t 0), none⟩,
      ⟨(some 13), .len false (.t 12), none⟩,
      ⟨(some 14), .bin .lss (.t 11) (.t 13), none⟩])
  (.cond (.t 14)
    (.skip)
    (.exit 0)))
  (.seq (.block 1
    (.seq (.dreg 0 [⟨(some 17), .mv (.t 0), none⟩,
        ⟨(some 18), .mv (.t 5), none⟩,
        ⟨(some 19), .ia 4 (.t 17) (.t 18), none⟩,
        ⟨(some 20), .fa 0 (.t 19), none⟩,
        ⟨(some 21), .load 1 false (.t 20), none⟩,
        ⟨(some 22), .mv (.t 1), none⟩,
        ⟨(some 23), .mv (.t 5), none⟩,
        ⟨(some 24), .ia 4 (.t 22) (.t 23), none⟩,
        ⟨(some 25), .fa 0 (.t 24), none⟩,
        ⟨(some 26), .load 1 false (.t 25), none⟩,
        ⟨(some 27), .bin .neq (.t 21) (.t 26), none⟩,
        ⟨(some 28), .mv (.t 27), none⟩,
        ⟨(some 29), .mv (.t 0), (some (28, false))⟩,
        ⟨(some 30), .mv (.t 5), (some (28, false))⟩,
        ⟨(some 31), .ia 4 (.t 29) (.t 30), (some (28, false))⟩,
        ⟨(some 32), .fa 1 (.t 31), (some (28, false))⟩,
        ⟨(some 33), .load 1 false (.t 32), (some (28, false))⟩,
        ⟨(some 34), .mv (.t 1), (some (28, false))⟩,
        ⟨(some 35), .mv (.t 5), (some (28, false))⟩,
        ⟨(some 36), .ia 4 (.t 34) (.t 35), (some (28, false))⟩,
        ⟨(some 37), .fa 1 (.t 36), (some (28, false))⟩,
        ⟨(some 38), .load 1 false (.t 37), (some (28, false))⟩,
        ⟨(some 39), .bin .neq (.t 33) (.t 38), (some (28, false))⟩,
        ⟨(some 40), .pick (.t 28) (.c (.v (.bool true))) (.t 39), none⟩,
        ⟨(some 41), .mv (.t 40), none⟩,
        ⟨(some 42), .mv (.t 0), (some (41, false))⟩,
        ⟨(some 43), .mv (.t 5), (some (41, false))⟩,
        ⟨(some 44), .ia 4 (.t 42) (.t 43), (some (41, false))⟩,
        ⟨(some 45), .fa 2 (.t 44), (some (41, false))⟩,
        ⟨(some 46), .load 1 false (.t 45), (some (41, false))⟩,
        ⟨(some 47), .mv (.t 1), (some (41, false))⟩,
        ⟨(some 48), .mv (.t 5), (some (41, false))⟩,
        ⟨(some 49), .ia 4 (.t 47) (.t 48), (some (41, false))⟩,
        ⟨(some 50), .fa 2 (.t 49), (some (41, false))⟩,
        ⟨(some 51), .load 1 false (.t 50), (some (41, false))⟩,
        ⟨(some 52), .bin .neq (.t 46) (.t 51), (some (41, false))⟩,
        ⟨(some 53), .pick (.t 41) (.c (.v (.bool true))) (.t 52), none⟩,
        ⟨(some 54), .mv (.t 53), none⟩,
        ⟨(some 55), .mv (.t 0), (some (54, false))⟩,
        ⟨(some 56), .mv (.t 5), (some (54, false))⟩,
        ⟨(some 57), .ia 4 (.t 55) (.t 56), (some (54, false))⟩,
        ⟨(some 58), .fa 3 (.t 57), (some (54, false))⟩,
        ⟨(some 59), .load 1 false (.t 58), (some (54, false))⟩,
        ⟨(some 60), .mv (.t 1), (some (54, false))⟩,
        ⟨(some 61), .mv (.t 5), (some (54, false))⟩,
        ⟨(some 62), .ia 4 (.t 60) (.t 61), (some (54, false))⟩,
        ⟨(some 63), .fa 3 (.t 62), (some (54, false))⟩,
        ⟨(some 64), .load 1 false (.t 63), (some (54, false))⟩,
        ⟨(some 65), .call 0 82 [(.t 59), (.t 64)], (some (54, false))⟩,
        ⟨(some 66), .un .not (.t 65), (some (54, false))⟩,
        ⟨(some 67), .pick (.t 54) (.c (.v (.bool true))) (.t 66), none⟩] [(2, 7), (4, 7), (2, 9), (4, 9), (14, 19), (16, 19), (14, 21), (16, 21), (27, 32), (29, 32), (27, 34), (29, 34), (40, 45), (42, 45), (40, 47), (42, 47)])
    (.cond (.t 67)
      (.seq (.reg 0 [⟨(some 4), .mv (.c (.v (.bool false))), none⟩])
      (.ret))
      (.skip))))
  (.reg 0 [⟨(some 15), .mv (.t 5), none⟩,
      ⟨(some 16), .bin .add (.t 15) (.c (.v (.int .i64 1))), none⟩,
      ⟨(some 5), .mv (.t 16), none⟩]))
def A39 : AFn := ⟨68, [.tmp 4],
  .seq (.reg 0 [⟨(some 4), .mv (.c (.v (.bool false))), none⟩])
  (.seq (.seq (.reg 0 [⟨(some 6), .mv (.t 0), none⟩,
      ⟨(some 7), .len false (.t 6), none⟩,
      ⟨(some 8), .mv (.t 1), none⟩,
      ⟨(some 9), .len false (.t 8), none⟩,
      ⟨(some 10), .bin .neq (.t 7) (.t 9), none⟩])
  (.cond (.t 10)
    (.seq (.reg 0 [⟨(some 4), .mv (.c (.v (.bool false))), none⟩])
    (.ret))
    (.skip)))
  (.seq (.seq (.reg 0 [⟨(some 5), .mv (.c (.v (.int .i64 0))), none⟩])
  (.block 0
    (.loop A39M0 A39L0)))
  (.seq (.reg 0 [⟨(some 4), .mv (.c (.v (.bool true))), none⟩])
  (.ret))))⟩
/-- Live: [0, 1, 5] -/
abbrev A39H0 (t0 t1 t5 : AV) : List AV := [t0, t1, .top, .top, .top, t5, .top, .top, .top, .top, .top, .top, .top, .top, .top, .top, .top, .top, .top, .top, .top, .top, .top, .top, .top, .top, .top, .top, .top, .top, .top, .top, .top, .top, .top, .top, .top, .top, .top, .top, .top, .top, .top, .top, .top, .top, .top, .top, .top, .top, .top, .top, .top, .top, .top, .top, .top, .top, .top, .top, .top, .top, .top, .top, .top, .top, .top, .top]
theorem A39M0_eq (t0 t1 t2 t3 t4 t5 t6 t7 t8 t9 t10 t11 t12 t13 t14 t15 t16 t17 t18 t19 t20 t21 t22 t23 t24 t25 t26 t27 t28 t29 t30 t31 t32 t33 t34 t35 t36 t37 t38 t39 t40 t41 t42 t43 t44 t45 t46 t47 t48 t49 t50 t51 t52 t53 t54 t55 t56 t57 t58 t59 t60 t61 t62 t63 t64 t65 t66 t67 : AV) : mask A39M0 [t0, t1, t2, t3, t4, t5, t6, t7, t8, t9, t10, t11, t12, t13, t14, t15, t16, t17, t18, t19, t20, t21, t22, t23, t24, t25, t26, t27, t28, t29, t30, t31, t32, t33, t34, t35, t36, t37, t38, t39, t40, t41, t42, t43, t44, t45, t46, t47, t48, t49, t50, t51, t52, t53, t54, t55, t56, t57, t58, t59, t60, t61, t62, t63, t64, t65, t66, t67] = [t0, t1, .top, .top, .top, t5, .top, .top, .top, .top, .top, .top, .top, .top, .top, .top, .top, .top, .top, .top, .top, .top, .top, .top, .top, .top, .top, .top, .top, .top, .top, .top, .top, .top, .top, .top, .top, .top, .top, .top, .top, .top, .top, .top, .top, .top, .top, .top, .top, .top, .top, .top, .top, .top, .top, .top, .top, .top, .top, .top, .top, .top, .top, .top, .top, .top, .top, .top] := rfl
theorem A39_is : compFn Try.prog md Try.f39 = some { A39 with code := A39.code.erase } := by kernel_rfl

/-- peristyle/peristyleref11.SameWrites -/
def A40M0 : List Bool := [true, true, false, false, false, true, false, false, false, false, false, false, false, false, false, false, false, false, false, false, false, false, false, false, false, false, false, false, false, false, false, false, false, false, false, false, false, false, false, false, false, false, false, false, false, false, false, false, false, false, false, false, false, false, false]
def A40L0 : AC :=
  .seq (.seq (.reg 0 [⟨(some 11), .mv (.t 5), none⟩,
      ⟨(some 12), .mv (.t 0), none⟩,
      ⟨(some 13), .len false (.t 12), none⟩,
      ⟨(some 14), .bin .lss (.t 11) (.t 13), none⟩])
  (.cond (.t 14)
    (.skip)
    (.exit 0)))
  (.seq (.block 1
    (.seq (.dreg 0 [⟨(some 17), .mv (.t 0), none⟩,
        ⟨(some 18), .mv (.t 5), none⟩,
        ⟨(some 19), .ia 3 (.t 17) (.t 18), none⟩,
        ⟨(some 20), .fa 0 (.t 19), none⟩,
        ⟨(some 21), .load 1 false (.t 20), none⟩,
        ⟨(some 22), .mv (.t 1), none⟩,
        ⟨(some 23), .mv (.t 5), none⟩,
        ⟨(some 24), .ia 3 (.t 22) (.t 23), none⟩,
        ⟨(some 25), .fa 0 (.t 24), none⟩,
        ⟨(some 26), .load 1 false (.t 25), none⟩,
        ⟨(some 27), .bin .neq (.t 21) (.t 26), none⟩,
        ⟨(some 28), .mv (.t 27), none⟩,
        ⟨(some 29), .mv (.t 0), (some (28, false))⟩,
        ⟨(some 30), .mv (.t 5), (some (28, false))⟩,
        ⟨(some 31), .ia 3 (.t 29) (.t 30), (some (28, false))⟩,
        ⟨(some 32), .fa 1 (.t 31), (some (28, false))⟩,
        ⟨(some 33), .load 1 false (.t 32), (some (28, false))⟩,
        ⟨(some 34), .mv (.t 1), (some (28, false))⟩,
        ⟨(some 35), .mv (.t 5), (some (28, false))⟩,
        ⟨(some 36), .ia 3 (.t 34) (.t 35), (some (28, false))⟩,
        ⟨(some 37), .fa 1 (.t 36), (some (28, false))⟩,
        ⟨(some 38), .load 1 false (.t 37), (some (28, false))⟩,
        ⟨(some 39), .bin .neq (.t 33) (.t 38), (some (28, false))⟩,
        ⟨(some 40), .pick (.t 28) (.c (.v (.bool true))) (.t 39), none⟩,
        ⟨(some 41), .mv (.t 40), none⟩,
        ⟨(some 42), .mv (.t 0), (some (41, false))⟩,
        ⟨(some 43), .mv (.t 5), (some (41, false))⟩,
        ⟨(some 44), .ia 3 (.t 42) (.t 43), (some (41, false))⟩,
        ⟨(some 45), .fa 2 (.t 44), (some (41, false))⟩,
        ⟨(some 46), .load 1 false (.t 45), (some (41, false))⟩,
        ⟨(some 47), .mv (.t 1), (some (41, false))⟩,
        ⟨(some 48), .mv (.t 5), (some (41, false))⟩,
        ⟨(some 49), .ia 3 (.t 47) (.t 48), (some (41, false))⟩,
        ⟨(some 50), .fa 2 (.t 49), (some (41, false))⟩,
        ⟨(some 51), .load 1 false (.t 50), (some (41, false))⟩,
        ⟨(some 52), .call 0 82 [(.t 46), (.t 51)], (some (41, false))⟩,
        ⟨(some 53), .un .not (.t 52), (some (41, false))⟩,
        ⟨(some 54), .pick (.t 41) (.c (.v (.bool true))) (.t 53), none⟩] [(2, 7), (4, 7), (2, 9), (4, 9), (14, 19), (16, 19), (14, 21), (16, 21), (27, 32), (29, 32), (27, 34), (29, 34)])
    (.cond (.t 54)
      (.seq (.reg 0 [⟨(some 4), .mv (.c (.v (.bool false))), none⟩])
      (.ret))
      (.skip))))
  (.reg 0 [⟨(some 15), .mv (.t 5), none⟩,
      ⟨(some 16), .bin .add (.t 15) (.c (.v (.int .i64 1))), none⟩,
      ⟨(some 5), .mv (.t 16), none⟩]))
def A40 : AFn := ⟨55, [.tmp 4],
  .seq (.reg 0 [⟨(some 4), .mv (.c (.v (.bool false))), none⟩])
  (.seq (.seq (.reg 0 [⟨(some 6), .mv (.t 0), none⟩,
      ⟨(some 7), .len false (.t 6), none⟩,
      ⟨(some 8), .mv (.t 1), none⟩,
      ⟨(some 9), .len false (.t 8), none⟩,
      ⟨(some 10), .bin .neq (.t 7) (.t 9), none⟩])
  (.cond (.t 10)
    (.seq (.reg 0 [⟨(some 4), .mv (.c (.v (.bool false))), none⟩])
    (.ret))
    (.skip)))
  (.seq (.seq (.reg 0 [⟨(some 5), .mv (.c (.v (.int .i64 0))), none⟩])
  (.block 0
    (.loop A40M0 A40L0)))
  (.seq (.reg 0 [⟨(some 4), .mv (.c (.v (.bool true))), none⟩])
  (.ret))))⟩
/-- Live: [0, 1, 5] -/
abbrev A40H0 (t0 t1 t5 : AV) : List AV := [t0, t1, .top, .top, .top, t5, .top, .top, .top, .top, .top, .top, .top, .top, .top, .top, .top, .top, .top, .top, .top, .top, .top, .top, .top, .top, .top, .top, .top, .top, .top, .top, .top, .top, .top, .top, .top, .top, .top, .top, .top, .top, .top, .top, .top, .top, .top, .top, .top, .top, .top, .top, .top, .top, .top]
theorem A40M0_eq (t0 t1 t2 t3 t4 t5 t6 t7 t8 t9 t10 t11 t12 t13 t14 t15 t16 t17 t18 t19 t20 t21 t22 t23 t24 t25 t26 t27 t28 t29 t30 t31 t32 t33 t34 t35 t36 t37 t38 t39 t40 t41 t42 t43 t44 t45 t46 t47 t48 t49 t50 t51 t52 t53 t54 : AV) : mask A40M0 [t0, t1, t2, t3, t4, t5, t6, t7, t8, t9, t10, t11, t12, t13, t14, t15, t16, t17, t18, t19, t20, t21, t22, t23, t24, t25, t26, t27, t28, t29, t30, t31, t32, t33, t34, t35, t36, t37, t38, t39, t40, t41, t42, t43, t44, t45, t46, t47, t48, t49, t50, t51, t52, t53, t54] = [t0, t1, .top, .top, .top, t5, .top, .top, .top, .top, .top, .top, .top, .top, .top, .top, .top, .top, .top, .top, .top, .top, .top, .top, .top, .top, .top, .top, .top, .top, .top, .top, .top, .top, .top, .top, .top, .top, .top, .top, .top, .top, .top, .top, .top, .top, .top, .top, .top, .top, .top, .top, .top, .top, .top] := rfl
theorem A40_is : compFn Try.prog md Try.f40 = some { A40 with code := A40.code.erase } := by kernel_rfl

/-- slices.Compact[[]int,int] -/
def A77M0 : List Bool := [true, false, false, true, true, true, false, false, false, false, false, false, false, false, false, false, false, false, false, false, false, false, false, false, false, false, false, false, false, false, false, false, false, false, false, false, false, false, false, false, false, false, false, false, false, false, false, false, false, false, false, false, false, false, false, false, false, false, false, false, false]
def A77L0 : AC :=
  .seq (.seq (.reg 0 [⟨(some 29), .mv (.t 5), none⟩,
      ⟨(some 30), .mv (.t 4), none⟩,
      ⟨(some 31), .len false (.t 30), none⟩,
      ⟨(some 32), .bin .lss (.t 29) (.t 31), none⟩])
  (.cond (.t 32)
    (.skip)
    (.exit 2)))
  (.seq (.block 3
    (.seq (.dreg 0 [⟨(some 35), .mv (.t 4), none⟩,
        ⟨(some 36), .mv (.t 5), none⟩,
        ⟨(some 37), .ia 1 (.t 35) (.t 36), none⟩,
        ⟨(some 38), .load 1 false (.t 37), none⟩,
        ⟨(some 39), .mv (.t 4), none⟩,
        ⟨(some 40), .mv (.t 5), none⟩,
        ⟨(some 41), .bin .sub (.t 40) (.c (.v (.int .i64 1))), none⟩,
        ⟨(some 42), .ia 1 (.t 39) (.t 41), none⟩,
        ⟨(some 43), .load 1 false (.t 42), none⟩,
        ⟨(some 44), .bin .neq (.t 38) (.t 43), none⟩] [(2, 7), (3, 7), (2, 8), (3, 8)])
    (.cond (.t 44)
      (.seq (.reg 0 [⟨(some 45), .mv (.t 0), none⟩,
          ⟨(some 46), .mv (.t 3), none⟩,
          ⟨(some 47), .mv (.t 4), none⟩,
          ⟨(some 48), .mv (.t 5), none⟩,
          ⟨(some 49), .ia 1 (.t 47) (.t 48), none⟩,
          ⟨(some 50), .load 1 false (.t 49), none⟩,
          ⟨(some 51), .ia 1 (.t 45) (.t 46), none⟩,
          ⟨none, .store 1 (.t 51) (.t 50), none⟩])
      (.reg 0 [⟨(some 52), .mv (.t 3), none⟩,
          ⟨(some 53), .bin .add (.t 52) (.c (.v (.int .i64 1))), none⟩,
          ⟨(some 3), .mv (.t 53), none⟩]))
      (.skip))))
  (.reg 0 [⟨(some 33), .mv (.t 5), none⟩,
      ⟨(some 34), .bin .add (.t 33) (.c (.v (.int .i64 1))), none⟩,
      ⟨(some 5), .mv (.t 34), none⟩]))
def A77M1 : List Bool := [true, false, false, true, false, false, false, false, false, false, false, false, false, false, false, false, false, false, false, false, false, false, false, false, false, false, false, false, false, false, false, false, false, false, false, false, false, false, false, false, false, false, false, false, false, false, false, false, false, false, false, false, false, false, false, false, false, false, false, false, false]
def A77L1 : AC :=
  .seq (.seq (.reg 0 [⟨(some 10), .mv (.t 3), none⟩,
      ⟨(some 11), .mv (.t 0), none⟩,
      ⟨(some 12), .len false (.t 11), none⟩,
      ⟨(some 13), .bin .lss (.t 10) (.t 12), none⟩])
  (.cond (.t 13)
    (.skip)
    (.exit 0)))
  (.seq (.block 1
    (.seq (.dreg 0 [⟨(some 16), .mv (.t 0), none⟩,
        ⟨(some 17), .mv (.t 3), none⟩,
        ⟨(some 18), .ia 1 (.t 16) (.t 17), none⟩,
        ⟨(some 19), .load 1 false (.t 18), none⟩,
        ⟨(some 20), .mv (.t 0), none⟩,
        ⟨(some 21), .mv (.t 3), none⟩,
        ⟨(some 22), .bin .sub (.t 21) (.c (.v (.int .i64 1))), none⟩,
        ⟨(some 23), .ia 1 (.t 20) (.t 22), none⟩,
        ⟨(some 24), .load 1 false (.t 23), none⟩,
        ⟨(some 25), .bin .eql (.t 19) (.t 24), none⟩] [(2, 7), (3, 7), (2, 8), (3, 8)])
    (.cond (.t 25)
      (.seq (.reg 0 [⟨(some 26), .mv (.t 0), none⟩,
          ⟨(some 27), .mv (.t 3), none⟩,
          ⟨(some 28), .sl 1 (.t 26) (some (.t 27)) none, none⟩,
          ⟨(some 4), .mv (.t 28), none⟩])
      (.seq (.seq (.reg 0 [⟨(some 5), .mv (.c (.v (.int .i64 1))), none⟩])
      (.block 2
        (.loop A77M0 A77L0)))
      (.seq (.reg 0 [⟨(some 54), .mv (.t 0), none⟩,
          ⟨(some 55), .mv (.t 3), none⟩,
          ⟨(some 56), .sl 1 (.t 54) (some (.t 55)) none, none⟩,
          ⟨none, .clr 1 [(.v (.int .i64 0))] (.t 56), none⟩])
      (.seq (.reg 0 [⟨(some 57), .mv (.t 0), none⟩,
          ⟨(some 58), .mv (.t 3), none⟩,
          ⟨(some 59), .sl 1 (.t 57) none (some (.t 58)), none⟩,
          ⟨(some 2), .mv (.t 59), none⟩])
      (.ret)))))
      (.skip))))
  (.reg 0 [⟨(some 14), .mv (.t 3), none⟩,
      ⟨(some 15), .bin .add (.t 14) (.c (.v (.int .i64 1))), none⟩,
      ⟨(some 3), .mv (.t 15), none⟩]))
def A77 : AFn := ⟨61, [.tmp 2],
  .seq (.reg 0 [⟨(some 2), .mv (.c .nils), none⟩])
  (.seq (.seq (.reg 0 [⟨(some 6), .mv (.t 0), none⟩,
      ⟨(some 7), .len false (.t 6), none⟩,
      ⟨(some 8), .bin .lss (.t 7) (.c (.v (.int .i64 2))), none⟩])
  (.cond (.t 8)
    (.seq (.reg 0 [⟨(some 9), .mv (.t 0), none⟩,
        ⟨(some 2), .mv (.t 9), none⟩])
    (.ret))
    (.skip)))
  (.seq (.seq (.reg 0 [⟨(some 3), .mv (.c (.v (.int .i64 1))), none⟩])
  (.block 0
    (.loop A77M1 A77L1)))
  (.seq (.reg 0 [⟨(some 60), .mv (.t 0), none⟩,
      ⟨(some 2), .mv (.t 60), none⟩])
  (.ret))))⟩
/-- Live: [0, 3, 4, 5] -/
abbrev A77H0 (t0 t3 t4 t5 : AV) : List AV := [t0, .top, .top, t3, t4, t5, .top, .top, .top, .top, .top, .top, .top, .top, .top, .top, .top, .top, .top, .top, .top, .top, .top, .top, .top, .top, .top, .top, .top, .top, .top, .top, .top, .top, .top, .top, .top, .top, .top, .top, .top, .top, .top, .top, .top, .top, .top, .top, .top, .top, .top, .top, .top, .top, .top, .top, .top, .top, .top, .top, .top]
theorem A77M0_eq (t0 t1 t2 t3 t4 t5 t6 t7 t8 t9 t10 t11 t12 t13 t14 t15 t16 t17 t18 t19 t20 t21 t22 t23 t24 t25 t26 t27 t28 t29 t30 t31 t32 t33 t34 t35 t36 t37 t38 t39 t40 t41 t42 t43 t44 t45 t46 t47 t48 t49 t50 t51 t52 t53 t54 t55 t56 t57 t58 t59 t60 : AV) : mask A77M0 [t0, t1, t2, t3, t4, t5, t6, t7, t8, t9, t10, t11, t12, t13, t14, t15, t16, t17, t18, t19, t20, t21, t22, t23, t24, t25, t26, t27, t28, t29, t30, t31, t32, t33, t34, t35, t36, t37, t38, t39, t40, t41, t42, t43, t44, t45, t46, t47, t48, t49, t50, t51, t52, t53, t54, t55, t56, t57, t58, t59, t60] = [t0, .top, .top, t3, t4, t5, .top, .top, .top, .top, .top, .top, .top, .top, .top, .top, .top, .top, .top, .top, .top, .top, .top, .top, .top, .top, .top, .top, .top, .top, .top, .top, .top, .top, .top, .top, .top, .top, .top, .top, .top, .top, .top, .top, .top, .top, .top, .top, .top, .top, .top, .top, .top, .top, .top, .top, .top, .top, .top, .top, .top] := rfl
/-- Live: [0, 3] -/
abbrev A77H1 (t0 t3 : AV) : List AV := [t0, .top, .top, t3, .top, .top, .top, .top, .top, .top, .top, .top, .top, .top, .top, .top, .top, .top, .top, .top, .top, .top, .top, .top, .top, .top, .top, .top, .top, .top, .top, .top, .top, .top, .top, .top, .top, .top, .top, .top, .top, .top, .top, .top, .top, .top, .top, .top, .top, .top, .top, .top, .top, .top, .top, .top, .top, .top, .top, .top, .top]
theorem A77M1_eq (t0 t1 t2 t3 t4 t5 t6 t7 t8 t9 t10 t11 t12 t13 t14 t15 t16 t17 t18 t19 t20 t21 t22 t23 t24 t25 t26 t27 t28 t29 t30 t31 t32 t33 t34 t35 t36 t37 t38 t39 t40 t41 t42 t43 t44 t45 t46 t47 t48 t49 t50 t51 t52 t53 t54 t55 t56 t57 t58 t59 t60 : AV) : mask A77M1 [t0, t1, t2, t3, t4, t5, t6, t7, t8, t9, t10, t11, t12, t13, t14, t15, t16, t17, t18, t19, t20, t21, t22, t23, t24, t25, t26, t27, t28, t29, t30, t31, t32, t33, t34, t35, t36, t37, t38, t39, t40, t41, t42, t43, t44, t45, t46, t47, t48, t49, t50, t51, t52, t53, t54, t55, t56, t57, t58, t59, t60] = [t0, .top, .top, t3, .top, .top, .top, .top, .top, .top, .top, .top, .top, .top, .top, .top, .top, .top, .top, .top, .top, .top, .top, .top, .top, .top, .top, .top, .top, .top, .top, .top, .top, .top, .top, .top, .top, .top, .top, .top, .top, .top, .top, .top, .top, .top, .top, .top, .top, .top, .top, .top, .top, .top, .top, .top, .top, .top, .top, .top, .top] := rfl
theorem A77_is : compFn Try.prog md Try.f77 = some { A77 with code := A77.code.erase } := by kernel_rfl

/-- peristyle/peristyleref11.tableOf -/
def A78M0 : List Bool := [false, true, false, false, false, true, false, true, true, true, false, false, false, false, false, false, false, false, false, false, false, false, false, false, false, false, false, false, false, false, false, false, false, false, false, false, false, false, false, false, false, false, false, false]
def A78L0 : AC :=
  .seq (.seq (.reg 0 [⟨(some 17), .mv (.t 9), none⟩,
      ⟨(some 18), .mv (.t 1), none⟩,
      ⟨(some 19), .len false (.t 18), none⟩,
      ⟨(some 20), .bin .lss (.t 17) (.t 19), none⟩])
  (.cond (.t 20)
    (.skip)
    (.exit 0)))
  (.seq (.block 1
    (.seq (.reg 0 [⟨(some 23), .mv (.t 7), none⟩,
        ⟨(some 24), .mv (.t 1), none⟩,
        ⟨(some 25), .mv (.t 9), none⟩,
        ⟨(some 26), .ia 2 (.t 24) (.t 25), none⟩,
        ⟨(some 27), .fa 0 (.t 26), none⟩,
        ⟨(some 28), .load 1 false (.t 27), none⟩,
        ⟨(some 29), .bsl 1 1 [(.v (.int .i64 0))] [(0, (.t 28))], none⟩,
        ⟨(some 30), .app 1 8 (.t 23) (.t 29), none⟩,
        ⟨(some 7), .mv (.t 30), none⟩])
    (.dreg 0 [⟨(some 31), .fa 1 (.t 8), none⟩,
        ⟨(some 32), .load 1 false (.t 31), none⟩,
        ⟨(some 33), .mv (.t 1), none⟩,
        ⟨(some 34), .mv (.t 9), none⟩,
        ⟨(some 35), .ia 2 (.t 33) (.t 34), none⟩,
        ⟨(some 36), .fa 1 (.t 35), none⟩,
        ⟨(some 37), .load 1 false (.t 36), none⟩,
        ⟨(some 38), .build [.nils] [(0, 1, (.t 37))], none⟩,
        ⟨(some 39), .bsl 1 1 [.nils] [(0, (.t 38))], none⟩,
        ⟨(some 40), .app 1 24 (.t 32) (.t 39), none⟩,
        ⟨(some 41), .fa 1 (.t 8), none⟩,
        ⟨none, .store 1 (.t 41) (.t 40), none⟩] [(1, 4), (1, 6), (1, 8)])))
  (.reg 0 [⟨(some 21), .mv (.t 9), none⟩,
      ⟨(some 22), .bin .add (.t 21) (.c (.v (.int .i64 1))), none⟩,
      ⟨(some 9), .mv (.t 22), none⟩]))
def A78 : AFn := ⟨44, [.tmp 4, .cell 5 2 true, .tmp 6],
  .seq (.reg 2 [⟨(some 2), .box 0 (.t 0), none⟩,
      ⟨(some 4), .mv (.c .nils), none⟩,
      ⟨(some 5), .alloc 1 [.nils, .nils], none⟩,
      ⟨(some 6), .mv (.c (.v (.int .i64 0))), none⟩])
  (.seq (.seq (.reg 0 [⟨(some 10), .mv (.t 1), none⟩,
      ⟨(some 11), .len false (.t 10), none⟩,
      ⟨(some 12), .bin .gtr (.t 11) (.c (.v (.int .i64 2000))), none⟩])
  (.cond (.t 12)
    (.seq (.reg 0 [⟨(some 13), .build [.nils, .nils] [], none⟩,
        ⟨(some 4), .mv (.c .nils), none⟩,
        ⟨none, .store 2 (.t 5) (.t 13), none⟩,
        ⟨(some 6), .mv (.c (.v (.int .i64 2))), none⟩])
    (.ret))
    (.skip)))
  (.seq (.reg 0 [⟨(some 7), .mv (.c .nils), none⟩])
  (.seq (.reg 1 [⟨(some 14), .fa 0 (.t 2), none⟩,
      ⟨(some 15), .load 1 false (.t 14), none⟩,
      ⟨(some 16), .build [.nils, .nils] [(0, 1, (.t 15))], none⟩,
      ⟨(some 8), .alloc 0 [.nils, .nils], none⟩,
      ⟨none, .store 2 (.t 8) (.t 16), none⟩])
  (.seq (.seq (.reg 0 [⟨(some 9), .mv (.c (.v (.int .i64 0))), none⟩])
  (.block 0
    (.loop A78M0 A78L0)))
  (.seq (.dreg 0 [⟨(some 42), .mv (.t 7), none⟩,
      ⟨(some 43), .load 2 true (.t 8), none⟩,
      ⟨(some 4), .mv (.t 42), none⟩,
      ⟨none, .store 2 (.t 5) (.t 43), none⟩,
      ⟨(some 6), .mv (.c (.v (.int .i64 0))), none⟩] [])
  (.ret))))))⟩
/-- Live: [1, 5, 7, 8, 9] -/
abbrev A78H0 (t1 t5 t7 t8 t9 : AV) : List AV := [.top, t1, .top, .top, .top, t5, .top, t7, t8, t9, .top, .top, .top, .top, .top, .top, .top, .top, .top, .top, .top, .top, .top, .top, .top, .top, .top, .top, .top, .top, .top, .top, .top, .top, .top, .top, .top, .top, .top, .top, .top, .top, .top, .top]
theorem A78M0_eq (t0 t1 t2 t3 t4 t5 t6 t7 t8 t9 t10 t11 t12 t13 t14 t15 t16 t17 t18 t19 t20 t21 t22 t23 t24 t25 t26 t27 t28 t29 t30 t31 t32 t33 t34 t35 t36 t37 t38 t39 t40 t41 t42 t43 : AV) : mask A78M0 [t0, t1, t2, t3, t4, t5, t6, t7, t8, t9, t10, t11, t12, t13, t14, t15, t16, t17, t18, t19, t20, t21, t22, t23, t24, t25, t26, t27, t28, t29, t30, t31, t32, t33, t34, t35, t36, t37, t38, t39, t40, t41, t42, t43] = [.top, t1, .top, .top, .top, t5, .top, t7, t8, t9, .top, .top, .top, .top, .top, .top, .top, .top, .top, .top, .top, .top, .top, .top, .top, .top, .top, .top, .top, .top, .top, .top, .top, .top, .top, .top, .top, .top, .top, .top, .top, .top, .top, .top] := rfl
theorem A78_is : compFn Try.prog md Try.f78 = some { A78 with code := A78.code.erase } := by kernel_rfl

end Go.Pv
namespace Go.Pv
open Go Go.Proofs
set_option maxRecDepth 100000

def code : Nat → Option AFn
  | 3 => some A3
  | 4 => some A4
  | 5 => some A5
  | 6 => some A6
  | 7 => some A7
  | 8 => some A8
  | 9 => some A9
  | 10 => some A10
  | 11 => some A11
  | 12 => some A12
  | 13 => some A13
  | 14 => some A14
  | 15 => some A15
  | 16 => some A16
  | 17 => some A17
  | 18 => some A18
  | 19 => some A19
  | 20 => some A20
  | 21 => some A21
  | 22 => some A22
  | 23 => some A23
  | 24 => some A24
  | 25 => some A25
  | 26 => some A26
  | 27 => some A27
  | 28 => some A28
  | 29 => some A29
  | 30 => some A30
  | 31 => some A31
  | 32 => some A32
  | 33 => some A33
  | 34 => some A34
  | 35 => some A35
  | 36 => some A36
  | 37 => some A37
  | 38 => some A38
  | 39 => some A39
  | 40 => some A40
  | 41 => some A41
  | 42 => some A42
  | 43 => some A43
  | 44 => some A44
  | 45 => some A45
  | 46 => some A46
  | 47 => some A47
  | 48 => some A48
  | 49 => some A49
  | 50 => some A50
  | 51 => some A51
  | 52 => some A52
  | 53 => some A53
  | 54 => some A54
  | 55 => some A55
  | 56 => some A56
  | 57 => some A57
  | 58 => some A58
  | 59 => some A59
  | 60 => some A60
  | 61 => some A61
  | 62 => some A62
  | 63 => some A63
  | 64 => some A64
  | 65 => some A65
  | 66 => some A66
  | 67 => some A67
  | 68 => some A68
  | 69 => some A69
  | 70 => some A70
  | 71 => some A71
  | 72 => some A72
  | 73 => some A73
  | 74 => some A74
  | 75 => some A75
  | 77 => some A77
  | 78 => some A78
  | 79 => some A79
  | 80 => some A80
  | 81 => some A81
  | 82 => some A82
  | 83 => some A83
  | 84 => some A84
  | 85 => some A85
  | 86 => some A86
  | 87 => some A87
  | 88 => some A88
  | 89 => some A89
  | 90 => some A90
  | 91 => some A91
  | 92 => some A92
  | 93 => some A93
  | 94 => some A94
  | 95 => some A95
  | 96 => some A96
  | 97 => some A97
  | 98 => some A98
  | 99 => some A99
  | 100 => some A100
  | 101 => some A101
  | 102 => some A102
  | 103 => some A103
  | 104 => some A104
  | 105 => some A105
  | 106 => some A106
  | 107 => some A107
  | 108 => some A108
  | 109 => some A109
  | 110 => some A110
  | 111 => some A111
  | 112 => some A112
  | 124 => some A124
  | _ => none

theorem c3 : code 3 = some A3 := rfl
theorem c4 : code 4 = some A4 := rfl
theorem c5 : code 5 = some A5 := rfl
theorem c6 : code 6 = some A6 := rfl
theorem c7 : code 7 = some A7 := rfl
theorem c8 : code 8 = some A8 := rfl
theorem c9 : code 9 = some A9 := rfl
theorem c10 : code 10 = some A10 := rfl
theorem c11 : code 11 = some A11 := rfl
theorem c12 : code 12 = some A12 := rfl
theorem c13 : code 13 = some A13 := rfl
theorem c14 : code 14 = some A14 := rfl
theorem c15 : code 15 = some A15 := rfl
theorem c16 : code 16 = some A16 := rfl
theorem c17 : code 17 = some A17 := rfl
theorem c18 : code 18 = some A18 := rfl
theorem c19 : code 19 = some A19 := rfl
theorem c20 : code 20 = some A20 := rfl
theorem c21 : code 21 = some A21 := rfl
theorem c22 : code 22 = some A22 := rfl
theorem c23 : code 23 = some A23 := rfl
theorem c24 : code 24 = some A24 := rfl
theorem c25 : code 25 = some A25 := rfl
theorem c26 : code 26 = some A26 := rfl
theorem c27 : code 27 = some A27 := rfl
theorem c28 : code 28 = some A28 := rfl
theorem c29 : code 29 = some A29 := rfl
theorem c30 : code 30 = some A30 := rfl
theorem c31 : code 31 = some A31 := rfl
theorem c32 : code 32 = some A32 := rfl
theorem c33 : code 33 = some A33 := rfl
theorem c34 : code 34 = some A34 := rfl
theorem c35 : code 35 = some A35 := rfl
theorem c36 : code 36 = some A36 := rfl
theorem c37 : code 37 = some A37 := rfl
theorem c38 : code 38 = some A38 := rfl
theorem c39 : code 39 = some A39 := rfl
theorem c40 : code 40 = some A40 := rfl
theorem c41 : code 41 = some A41 := rfl
theorem c42 : code 42 = some A42 := rfl
theorem c43 : code 43 = some A43 := rfl
theorem c44 : code 44 = some A44 := rfl
theorem c45 : code 45 = some A45 := rfl
theorem c46 : code 46 = some A46 := rfl
theorem c47 : code 47 = some A47 := rfl
theorem c48 : code 48 = some A48 := rfl
theorem c49 : code 49 = some A49 := rfl
theorem c50 : code 50 = some A50 := rfl
theorem c51 : code 51 = some A51 := rfl
theorem c52 : code 52 = some A52 := rfl
theorem c53 : code 53 = some A53 := rfl
theorem c54 : code 54 = some A54 := rfl
theorem c55 : code 55 = some A55 := rfl
theorem c56 : code 56 = some A56 := rfl
theorem c57 : code 57 = some A57 := rfl
theorem c58 : code 58 = some A58 := rfl
theorem c59 : code 59 = some A59 := rfl
theorem c60 : code 60 = some A60 := rfl
theorem c61 : code 61 = some A61 := rfl
theorem c62 : code 62 = some A62 := rfl
theorem c63 : code 63 = some A63 := rfl
theorem c64 : code 64 = some A64 := rfl
theorem c65 : code 65 = some A65 := rfl
theorem c66 : code 66 = some A66 := rfl
theorem c67 : code 67 = some A67 := rfl
theorem c68 : code 68 = some A68 := rfl
theorem c69 : code 69 = some A69 := rfl
theorem c70 : code 70 = some A70 := rfl
theorem c71 : code 71 = some A71 := rfl
theorem c72 : code 72 = some A72 := rfl
theorem c73 : code 73 = some A73 := rfl
theorem c74 : code 74 = some A74 := rfl
theorem c75 : code 75 = some A75 := rfl
theorem c77 : code 77 = some A77 := rfl
theorem c78 : code 78 = some A78 := rfl
theorem c79 : code 79 = some A79 := rfl
theorem c80 : code 80 = some A80 := rfl
theorem c81 : code 81 = some A81 := rfl
theorem c82 : code 82 = some A82 := rfl
theorem c83 : code 83 = some A83 := rfl
theorem c84 : code 84 = some A84 := rfl
theorem c85 : code 85 = some A85 := rfl
theorem c86 : code 86 = some A86 := rfl
theorem c87 : code 87 = some A87 := rfl
theorem c88 : code 88 = some A88 := rfl
theorem c89 : code 89 = some A89 := rfl
theorem c90 : code 90 = some A90 := rfl
theorem c91 : code 91 = some A91 := rfl
theorem c92 : code 92 = some A92 := rfl
theorem c93 : code 93 = some A93 := rfl
theorem c94 : code 94 = some A94 := rfl
theorem c95 : code 95 = some A95 := rfl
theorem c96 : code 96 = some A96 := rfl
theorem c97 : code 97 = some A97 := rfl
theorem c98 : code 98 = some A98 := rfl
theorem c99 : code 99 = some A99 := rfl
theorem c100 : code 100 = some A100 := rfl
theorem c101 : code 101 = some A101 := rfl
theorem c102 : code 102 = some A102 := rfl
theorem c103 : code 103 = some A103 := rfl
theorem c104 : code 104 = some A104 := rfl
theorem c105 : code 105 = some A105 := rfl
theorem c106 : code 106 = some A106 := rfl
theorem c107 : code 107 = some A107 := rfl
theorem c108 : code 108 = some A108 := rfl
theorem c109 : code 109 = some A109 := rfl
theorem c110 : code 110 = some A110 := rfl
theorem c111 : code 111 = some A111 := rfl
theorem c112 : code 112 = some A112 := rfl
theorem c124 : code 124 = some A124 := rfl
theorem at3 : Try.prog.funcs[3]? = some Try.f3 := by kernel_rfl
theorem at4 : Try.prog.funcs[4]? = some Try.f4 := by kernel_rfl
theorem at5 : Try.prog.funcs[5]? = some Try.f5 := by kernel_rfl
theorem at6 : Try.prog.funcs[6]? = some Try.f6 := by kernel_rfl
theorem at7 : Try.prog.funcs[7]? = some Try.f7 := by kernel_rfl
theorem at8 : Try.prog.funcs[8]? = some Try.f8 := by kernel_rfl
theorem at9 : Try.prog.funcs[9]? = some Try.f9 := by kernel_rfl
theorem at10 : Try.prog.funcs[10]? = some Try.f10 := by kernel_rfl
theorem at11 : Try.prog.funcs[11]? = some Try.f11 := by kernel_rfl
theorem at12 : Try.prog.funcs[12]? = some Try.f12 := by kernel_rfl
theorem at13 : Try.prog.funcs[13]? = some Try.f13 := by kernel_rfl
theorem at14 : Try.prog.funcs[14]? = some Try.f14 := by kernel_rfl
theorem at15 : Try.prog.funcs[15]? = some Try.f15 := by kernel_rfl
theorem at16 : Try.prog.funcs[16]? = some Try.f16 := by kernel_rfl
theorem at17 : Try.prog.funcs[17]? = some Try.f17 := by kernel_rfl
theorem at18 : Try.prog.funcs[18]? = some Try.f18 := by kernel_rfl
theorem at19 : Try.prog.funcs[19]? = some Try.f19 := by kernel_rfl
theorem at20 : Try.prog.funcs[20]? = some Try.f20 := by kernel_rfl
theorem at21 : Try.prog.funcs[21]? = some Try.f21 := by kernel_rfl
theorem at22 : Try.prog.funcs[22]? = some Try.f22 := by kernel_rfl
theorem at23 : Try.prog.funcs[23]? = some Try.f23 := by kernel_rfl
theorem at24 : Try.prog.funcs[24]? = some Try.f24 := by kernel_rfl
theorem at25 : Try.prog.funcs[25]? = some Try.f25 := by kernel_rfl
theorem at26 : Try.prog.funcs[26]? = some Try.f26 := by kernel_rfl
theorem at27 : Try.prog.funcs[27]? = some Try.f27 := by kernel_rfl
theorem at28 : Try.prog.funcs[28]? = some Try.f28 := by kernel_rfl
theorem at29 : Try.prog.funcs[29]? = some Try.f29 := by kernel_rfl
theorem at30 : Try.prog.funcs[30]? = some Try.f30 := by kernel_rfl
theorem at31 : Try.prog.funcs[31]? = some Try.f31 := by kernel_rfl
theorem at32 : Try.prog.funcs[32]? = some Try.f32 := by kernel_rfl
theorem at33 : Try.prog.funcs[33]? = some Try.f33 := by kernel_rfl
theorem at34 : Try.prog.funcs[34]? = some Try.f34 := by kernel_rfl
theorem at35 : Try.prog.funcs[35]? = some Try.f35 := by kernel_rfl
theorem at36 : Try.prog.funcs[36]? = some Try.f36 := by kernel_rfl
theorem at37 : Try.prog.funcs[37]? = some Try.f37 := by kernel_rfl
theorem at38 : Try.prog.funcs[38]? = some Try.f38 := by kernel_rfl
theorem at39 : Try.prog.funcs[39]? = some Try.f39 := by kernel_rfl
theorem at40 : Try.prog.funcs[40]? = some Try.f40 := by kernel_rfl
theorem at41 : Try.prog.funcs[41]? = some Try.f41 := by kernel_rfl
theorem at42 : Try.prog.funcs[42]? = some Try.f42 := by kernel_rfl
theorem at43 : Try.prog.funcs[43]? = some Try.f43 := by kernel_rfl
theorem at44 : Try.prog.funcs[44]? = some Try.f44 := by kernel_rfl
theorem at45 : Try.prog.funcs[45]? = some Try.f45 := by kernel_rfl
theorem at46 : Try.prog.funcs[46]? = some Try.f46 := by kernel_rfl
theorem at47 : Try.prog.funcs[47]? = some Try.f47 := by kernel_rfl
theorem at48 : Try.prog.funcs[48]? = some Try.f48 := by kernel_rfl
theorem at49 : Try.prog.funcs[49]? = some Try.f49 := by kernel_rfl
theorem at50 : Try.prog.funcs[50]? = some Try.f50 := by kernel_rfl
theorem at51 : Try.prog.funcs[51]? = some Try.f51 := by kernel_rfl
theorem at52 : Try.prog.funcs[52]? = some Try.f52 := by kernel_rfl
theorem at53 : Try.prog.funcs[53]? = some Try.f53 := by kernel_rfl
theorem at54 : Try.prog.funcs[54]? = some Try.f54 := by kernel_rfl
theorem at55 : Try.prog.funcs[55]? = some Try.f55 := by kernel_rfl
theorem at56 : Try.prog.funcs[56]? = some Try.f56 := by kernel_rfl
theorem at57 : Try.prog.funcs[57]? = some Try.f57 := by kernel_rfl
theorem at58 : Try.prog.funcs[58]? = some Try.f58 := by kernel_rfl
theorem at59 : Try.prog.funcs[59]? = some Try.f59 := by kernel_rfl
theorem at60 : Try.prog.funcs[60]? = some Try.f60 := by kernel_rfl
theorem at61 : Try.prog.funcs[61]? = some Try.f61 := by kernel_rfl
theorem at62 : Try.prog.funcs[62]? = some Try.f62 := by kernel_rfl
theorem at63 : Try.prog.funcs[63]? = some Try.f63 := by kernel_rfl
theorem at64 : Try.prog.funcs[64]? = some Try.f64 := by kernel_rfl
theorem at65 : Try.prog.funcs[65]? = some Try.f65 := by kernel_rfl
theorem at66 : Try.prog.funcs[66]? = some Try.f66 := by kernel_rfl
theorem at67 : Try.prog.funcs[67]? = some Try.f67 := by kernel_rfl
theorem at68 : Try.prog.funcs[68]? = some Try.f68 := by kernel_rfl
theorem at69 : Try.prog.funcs[69]? = some Try.f69 := by kernel_rfl
theorem at70 : Try.prog.funcs[70]? = some Try.f70 := by kernel_rfl
theorem at71 : Try.prog.funcs[71]? = some Try.f71 := by kernel_rfl
theorem at72 : Try.prog.funcs[72]? = some Try.f72 := by kernel_rfl
theorem at73 : Try.prog.funcs[73]? = some Try.f73 := by kernel_rfl
theorem at74 : Try.prog.funcs[74]? = some Try.f74 := by kernel_rfl
theorem at75 : Try.prog.funcs[75]? = some Try.f75 := by kernel_rfl
theorem at77 : Try.prog.funcs[77]? = some Try.f77 := by kernel_rfl
theorem at78 : Try.prog.funcs[78]? = some Try.f78 := by kernel_rfl
theorem at79 : Try.prog.funcs[79]? = some Try.f79 := by kernel_rfl
theorem at80 : Try.prog.funcs[80]? = some Try.f80 := by kernel_rfl
theorem at81 : Try.prog.funcs[81]? = some Try.f81 := by kernel_rfl
theorem at82 : Try.prog.funcs[82]? = some Try.f82 := by kernel_rfl
theorem at83 : Try.prog.funcs[83]? = some Try.f83 := by kernel_rfl
theorem at84 : Try.prog.funcs[84]? = some Try.f84 := by kernel_rfl
theorem at85 : Try.prog.funcs[85]? = some Try.f85 := by kernel_rfl
theorem at86 : Try.prog.funcs[86]? = some Try.f86 := by kernel_rfl
theorem at87 : Try.prog.funcs[87]? = some Try.f87 := by kernel_rfl
theorem at88 : Try.prog.funcs[88]? = some Try.f88 := by kernel_rfl
theorem at89 : Try.prog.funcs[89]? = some Try.f89 := by kernel_rfl
theorem at90 : Try.prog.funcs[90]? = some Try.f90 := by kernel_rfl
theorem at91 : Try.prog.funcs[91]? = some Try.f91 := by kernel_rfl
theorem at92 : Try.prog.funcs[92]? = some Try.f92 := by kernel_rfl
theorem at93 : Try.prog.funcs[93]? = some Try.f93 := by kernel_rfl
theorem at94 : Try.prog.funcs[94]? = some Try.f94 := by kernel_rfl
theorem at95 : Try.prog.funcs[95]? = some Try.f95 := by kernel_rfl
theorem at96 : Try.prog.funcs[96]? = some Try.f96 := by kernel_rfl
theorem at97 : Try.prog.funcs[97]? = some Try.f97 := by kernel_rfl
theorem at98 : Try.prog.funcs[98]? = some Try.f98 := by kernel_rfl
theorem at99 : Try.prog.funcs[99]? = some Try.f99 := by kernel_rfl
theorem at100 : Try.prog.funcs[100]? = some Try.f100 := by kernel_rfl
theorem at101 : Try.prog.funcs[101]? = some Try.f101 := by kernel_rfl
theorem at102 : Try.prog.funcs[102]? = some Try.f102 := by kernel_rfl
theorem at103 : Try.prog.funcs[103]? = some Try.f103 := by kernel_rfl
theorem at104 : Try.prog.funcs[104]? = some Try.f104 := by kernel_rfl
theorem at105 : Try.prog.funcs[105]? = some Try.f105 := by kernel_rfl
theorem at106 : Try.prog.funcs[106]? = some Try.f106 := by kernel_rfl
theorem at107 : Try.prog.funcs[107]? = some Try.f107 := by kernel_rfl
theorem at108 : Try.prog.funcs[108]? = some Try.f108 := by kernel_rfl
theorem at109 : Try.prog.funcs[109]? = some Try.f109 := by kernel_rfl
theorem at110 : Try.prog.funcs[110]? = some Try.f110 := by kernel_rfl
theorem at111 : Try.prog.funcs[111]? = some Try.f111 := by kernel_rfl
theorem at112 : Try.prog.funcs[112]? = some Try.f112 := by kernel_rfl
theorem at124 : Try.prog.funcs[124]? = some Try.f124 := by kernel_rfl
/-- slices.Clone. -/
def ext : Nat → Option (List AV → Hp → Option (AV × Hp))
  | 42 => some (cloneE 2 24 [(.v (.string ⟨#[]⟩)), (.v (.int .i64 0))] 42)
  | 91 => some (cloneE 4 48 [(.v (.int .i64 0)), (.v (.int .i64 0)), (.v (.int .i64 0)), .nils] 91)
  | 92 => some (cloneE 3 40 [(.v (.int .i64 0)), (.v (.int .i64 0)), .nils] 92)
  | 93 => some (cloneE 3 40 [(.v (.int .i64 0)), (.v (.int .i64 0)), .nils] 93)
  | _ => none

theorem x3 : ext 3 = none := rfl
theorem x4 : ext 4 = none := rfl
theorem x5 : ext 5 = none := rfl
theorem x6 : ext 6 = none := rfl
theorem x7 : ext 7 = none := rfl
theorem x8 : ext 8 = none := rfl
theorem x9 : ext 9 = none := rfl
theorem x10 : ext 10 = none := rfl
theorem x11 : ext 11 = none := rfl
theorem x12 : ext 12 = none := rfl
theorem x13 : ext 13 = none := rfl
theorem x14 : ext 14 = none := rfl
theorem x15 : ext 15 = none := rfl
theorem x16 : ext 16 = none := rfl
theorem x17 : ext 17 = none := rfl
theorem x18 : ext 18 = none := rfl
theorem x19 : ext 19 = none := rfl
theorem x20 : ext 20 = none := rfl
theorem x21 : ext 21 = none := rfl
theorem x22 : ext 22 = none := rfl
theorem x23 : ext 23 = none := rfl
theorem x24 : ext 24 = none := rfl
theorem x25 : ext 25 = none := rfl
theorem x26 : ext 26 = none := rfl
theorem x27 : ext 27 = none := rfl
theorem x28 : ext 28 = none := rfl
theorem x29 : ext 29 = none := rfl
theorem x30 : ext 30 = none := rfl
theorem x31 : ext 31 = none := rfl
theorem x32 : ext 32 = none := rfl
theorem x33 : ext 33 = none := rfl
theorem x34 : ext 34 = none := rfl
theorem x35 : ext 35 = none := rfl
theorem x36 : ext 36 = none := rfl
theorem x37 : ext 37 = none := rfl
theorem x38 : ext 38 = none := rfl
theorem x39 : ext 39 = none := rfl
theorem x40 : ext 40 = none := rfl
theorem x41 : ext 41 = none := rfl
theorem x43 : ext 43 = none := rfl
theorem x44 : ext 44 = none := rfl
theorem x45 : ext 45 = none := rfl
theorem x46 : ext 46 = none := rfl
theorem x47 : ext 47 = none := rfl
theorem x48 : ext 48 = none := rfl
theorem x49 : ext 49 = none := rfl
theorem x50 : ext 50 = none := rfl
theorem x51 : ext 51 = none := rfl
theorem x52 : ext 52 = none := rfl
theorem x53 : ext 53 = none := rfl
theorem x54 : ext 54 = none := rfl
theorem x55 : ext 55 = none := rfl
theorem x56 : ext 56 = none := rfl
theorem x57 : ext 57 = none := rfl
theorem x58 : ext 58 = none := rfl
theorem x59 : ext 59 = none := rfl
theorem x60 : ext 60 = none := rfl
theorem x61 : ext 61 = none := rfl
theorem x62 : ext 62 = none := rfl
theorem x63 : ext 63 = none := rfl
theorem x64 : ext 64 = none := rfl
theorem x65 : ext 65 = none := rfl
theorem x66 : ext 66 = none := rfl
theorem x67 : ext 67 = none := rfl
theorem x68 : ext 68 = none := rfl
theorem x69 : ext 69 = none := rfl
theorem x70 : ext 70 = none := rfl
theorem x71 : ext 71 = none := rfl
theorem x72 : ext 72 = none := rfl
theorem x73 : ext 73 = none := rfl
theorem x74 : ext 74 = none := rfl
theorem x75 : ext 75 = none := rfl
theorem x77 : ext 77 = none := rfl
theorem x78 : ext 78 = none := rfl
theorem x79 : ext 79 = none := rfl
theorem x80 : ext 80 = none := rfl
theorem x81 : ext 81 = none := rfl
theorem x82 : ext 82 = none := rfl
theorem x83 : ext 83 = none := rfl
theorem x84 : ext 84 = none := rfl
theorem x85 : ext 85 = none := rfl
theorem x86 : ext 86 = none := rfl
theorem x87 : ext 87 = none := rfl
theorem x88 : ext 88 = none := rfl
theorem x89 : ext 89 = none := rfl
theorem x90 : ext 90 = none := rfl
theorem x94 : ext 94 = none := rfl
theorem x95 : ext 95 = none := rfl
theorem x96 : ext 96 = none := rfl
theorem x97 : ext 97 = none := rfl
theorem x98 : ext 98 = none := rfl
theorem x99 : ext 99 = none := rfl
theorem x100 : ext 100 = none := rfl
theorem x101 : ext 101 = none := rfl
theorem x102 : ext 102 = none := rfl
theorem x103 : ext 103 = none := rfl
theorem x104 : ext 104 = none := rfl
theorem x105 : ext 105 = none := rfl
theorem x106 : ext 106 = none := rfl
theorem x107 : ext 107 = none := rfl
theorem x108 : ext 108 = none := rfl
theorem x109 : ext 109 = none := rfl
theorem x110 : ext 110 = none := rfl
theorem x111 : ext 111 = none := rfl
theorem x112 : ext 112 = none := rfl
theorem x124 : ext 124 = none := rfl
theorem mixed : Try.prog.follows .mixedOrders = true := by kernel_rfl
theorem ext_ok : ExtOK Try.prog ext := by
  intro f e h
  unfold ext at h
  split at h
  · cases h; exact clone_sound mixed at42 A42_is
  · cases h; exact clone_sound mixed at91 A91_is
  · cases h; exact clone_sound mixed at92 A92_is
  · cases h; exact clone_sound mixed at93 A93_is
  · cases h
theorem code_ok : CodeOK Try.prog md code := by
  intro f A h
  unfold code at h
  split at h
  · cases h; exact ⟨_, at3, A3_is⟩
  · cases h; exact ⟨_, at4, A4_is⟩
  · cases h; exact ⟨_, at5, A5_is⟩
  · cases h; exact ⟨_, at6, A6_is⟩
  · cases h; exact ⟨_, at7, A7_is⟩
  · cases h; exact ⟨_, at8, A8_is⟩
  · cases h; exact ⟨_, at9, A9_is⟩
  · cases h; exact ⟨_, at10, A10_is⟩
  · cases h; exact ⟨_, at11, A11_is⟩
  · cases h; exact ⟨_, at12, A12_is⟩
  · cases h; exact ⟨_, at13, A13_is⟩
  · cases h; exact ⟨_, at14, A14_is⟩
  · cases h; exact ⟨_, at15, A15_is⟩
  · cases h; exact ⟨_, at16, A16_is⟩
  · cases h; exact ⟨_, at17, A17_is⟩
  · cases h; exact ⟨_, at18, A18_is⟩
  · cases h; exact ⟨_, at19, A19_is⟩
  · cases h; exact ⟨_, at20, A20_is⟩
  · cases h; exact ⟨_, at21, A21_is⟩
  · cases h; exact ⟨_, at22, A22_is⟩
  · cases h; exact ⟨_, at23, A23_is⟩
  · cases h; exact ⟨_, at24, A24_is⟩
  · cases h; exact ⟨_, at25, A25_is⟩
  · cases h; exact ⟨_, at26, A26_is⟩
  · cases h; exact ⟨_, at27, A27_is⟩
  · cases h; exact ⟨_, at28, A28_is⟩
  · cases h; exact ⟨_, at29, A29_is⟩
  · cases h; exact ⟨_, at30, A30_is⟩
  · cases h; exact ⟨_, at31, A31_is⟩
  · cases h; exact ⟨_, at32, A32_is⟩
  · cases h; exact ⟨_, at33, A33_is⟩
  · cases h; exact ⟨_, at34, A34_is⟩
  · cases h; exact ⟨_, at35, A35_is⟩
  · cases h; exact ⟨_, at36, A36_is⟩
  · cases h; exact ⟨_, at37, A37_is⟩
  · cases h; exact ⟨_, at38, A38_is⟩
  · cases h; exact ⟨_, at39, A39_is⟩
  · cases h; exact ⟨_, at40, A40_is⟩
  · cases h; exact ⟨_, at41, A41_is⟩
  · cases h; exact ⟨_, at42, A42_is⟩
  · cases h; exact ⟨_, at43, A43_is⟩
  · cases h; exact ⟨_, at44, A44_is⟩
  · cases h; exact ⟨_, at45, A45_is⟩
  · cases h; exact ⟨_, at46, A46_is⟩
  · cases h; exact ⟨_, at47, A47_is⟩
  · cases h; exact ⟨_, at48, A48_is⟩
  · cases h; exact ⟨_, at49, A49_is⟩
  · cases h; exact ⟨_, at50, A50_is⟩
  · cases h; exact ⟨_, at51, A51_is⟩
  · cases h; exact ⟨_, at52, A52_is⟩
  · cases h; exact ⟨_, at53, A53_is⟩
  · cases h; exact ⟨_, at54, A54_is⟩
  · cases h; exact ⟨_, at55, A55_is⟩
  · cases h; exact ⟨_, at56, A56_is⟩
  · cases h; exact ⟨_, at57, A57_is⟩
  · cases h; exact ⟨_, at58, A58_is⟩
  · cases h; exact ⟨_, at59, A59_is⟩
  · cases h; exact ⟨_, at60, A60_is⟩
  · cases h; exact ⟨_, at61, A61_is⟩
  · cases h; exact ⟨_, at62, A62_is⟩
  · cases h; exact ⟨_, at63, A63_is⟩
  · cases h; exact ⟨_, at64, A64_is⟩
  · cases h; exact ⟨_, at65, A65_is⟩
  · cases h; exact ⟨_, at66, A66_is⟩
  · cases h; exact ⟨_, at67, A67_is⟩
  · cases h; exact ⟨_, at68, A68_is⟩
  · cases h; exact ⟨_, at69, A69_is⟩
  · cases h; exact ⟨_, at70, A70_is⟩
  · cases h; exact ⟨_, at71, A71_is⟩
  · cases h; exact ⟨_, at72, A72_is⟩
  · cases h; exact ⟨_, at73, A73_is⟩
  · cases h; exact ⟨_, at74, A74_is⟩
  · cases h; exact ⟨_, at75, A75_is⟩
  · cases h; exact ⟨_, at77, A77_is⟩
  · cases h; exact ⟨_, at78, A78_is⟩
  · cases h; exact ⟨_, at79, A79_is⟩
  · cases h; exact ⟨_, at80, A80_is⟩
  · cases h; exact ⟨_, at81, A81_is⟩
  · cases h; exact ⟨_, at82, A82_is⟩
  · cases h; exact ⟨_, at83, A83_is⟩
  · cases h; exact ⟨_, at84, A84_is⟩
  · cases h; exact ⟨_, at85, A85_is⟩
  · cases h; exact ⟨_, at86, A86_is⟩
  · cases h; exact ⟨_, at87, A87_is⟩
  · cases h; exact ⟨_, at88, A88_is⟩
  · cases h; exact ⟨_, at89, A89_is⟩
  · cases h; exact ⟨_, at90, A90_is⟩
  · cases h; exact ⟨_, at91, A91_is⟩
  · cases h; exact ⟨_, at92, A92_is⟩
  · cases h; exact ⟨_, at93, A93_is⟩
  · cases h; exact ⟨_, at94, A94_is⟩
  · cases h; exact ⟨_, at95, A95_is⟩
  · cases h; exact ⟨_, at96, A96_is⟩
  · cases h; exact ⟨_, at97, A97_is⟩
  · cases h; exact ⟨_, at98, A98_is⟩
  · cases h; exact ⟨_, at99, A99_is⟩
  · cases h; exact ⟨_, at100, A100_is⟩
  · cases h; exact ⟨_, at101, A101_is⟩
  · cases h; exact ⟨_, at102, A102_is⟩
  · cases h; exact ⟨_, at103, A103_is⟩
  · cases h; exact ⟨_, at104, A104_is⟩
  · cases h; exact ⟨_, at105, A105_is⟩
  · cases h; exact ⟨_, at106, A106_is⟩
  · cases h; exact ⟨_, at107, A107_is⟩
  · cases h; exact ⟨_, at108, A108_is⟩
  · cases h; exact ⟨_, at109, A109_is⟩
  · cases h; exact ⟨_, at110, A110_is⟩
  · cases h; exact ⟨_, at111, A111_is⟩
  · cases h; exact ⟨_, at112, A112_is⟩
  · cases h; exact ⟨_, at124, A124_is⟩
  · cases h
end Go.Pv
