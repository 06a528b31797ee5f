/- The functions that the laws reach, in the compact code, held against the program. -/
import Derived.Test.YtpcakgdagmcopaaFwFresh
import Derived.Test.YtpcakgdagmcopaaRows
namespace Go.Proofs.Ytpcakgdagmcopaa
open Go Go.Fw
theorem hmix : Try.prog.follows .mixedOrders = true := by kernel_rfl

def d3 : DCode :=
  (.seq (.ops [
    ⟨(some 2), none, .mv (.c (.raw (.bool false)))⟩])
  (.seq (.seq (.ops [
    ⟨(some 8), none, .mv (.t 0)⟩,
    ⟨(some 9), none, .len (.t 8)⟩,
    ⟨(some 10), none, .bin .gtr false (.t 9) (.c (.raw (.int .i64 (1048576))))⟩])
  (.cond (.t 10)
   (.seq (.ops [
     ⟨(some 2), none, .mv (.c (.raw (.bool true)))⟩])
   .ret)
   .skip))
  (.seq (.ops [
    ⟨(some 12), none, .mv (.t 0)⟩,
    ⟨(some 13), none, .call 8 [(.t 12)]⟩,
    ⟨(some 14), none, .call 7 [(.t 13)]⟩,
    ⟨(some 11), none, .mv (.t 14)⟩,
    ⟨(some 15), none, .ext (.t 11) 0⟩,
    ⟨(some 16), none, .ext (.t 11) 1⟩,
    ⟨(some 3), none, .mv (.t 15)⟩,
    ⟨(some 4), none, .mv (.t 16)⟩])
  (.seq (.ops [
    ⟨(some 17), none, .mv (.t 0)⟩,
    ⟨(some 18), none, .call 8 [(.t 17)]⟩,
    ⟨(some 5), none, .mv (.t 18)⟩])
  (.seq (.ops [
    ⟨(some 20), none, .mv (.t 5)⟩,
    ⟨(some 21), none, .call 9 [(.t 20)]⟩,
    ⟨(some 19), none, .mv (.t 21)⟩,
    ⟨(some 22), none, .ext (.t 19) 0⟩,
    ⟨(some 23), none, .ext (.t 19) 1⟩,
    ⟨(some 6), none, .mv (.t 22)⟩,
    ⟨(some 7), none, .mv (.t 23)⟩])
  (.seq (.seq (.ops [
    ⟨(some 24), none, .mv (.t 6)⟩,
    ⟨(some 25), none, .mv (.t 3)⟩,
    ⟨(some 26), none, .bin .neq true (.t 24) (.t 25)⟩,
    ⟨(some 27), none, .mv (.t 26)⟩,
    ⟨(some 28), (some (27, false)), .mv (.t 7)⟩,
    ⟨(some 29), (some (27, false)), .mv (.t 4)⟩,
    ⟨(some 30), (some (27, false)), .bin .neq false (.t 28) (.t 29)⟩,
    ⟨(some 31), none, .pick (.t 27) (.c (.raw (.bool true))) (.t 30)⟩])
  (.cond (.t 31)
   (.seq (.ops [
     ⟨(some 2), none, .mv (.c (.raw (.bool false)))⟩])
   .ret)
   .skip))
  (.seq (.seq (.ops [
    ⟨(some 32), none, .mv (.t 5)⟩,
    ⟨(some 33), none, .mv (.t 0)⟩,
    ⟨(some 34), none, .call 8 [(.t 33)]⟩,
    ⟨(some 35), none, .call 10 [(.t 32), (.t 34)]⟩,
    ⟨(some 36), none, .un .not (.t 35)⟩])
  (.cond (.t 36)
   (.seq (.ops [
     ⟨(some 2), none, .mv (.c (.raw (.bool false)))⟩])
   .ret)
   .skip))
  (.seq (.ops [
    ⟨(some 2), none, .mv (.c (.raw (.bool true)))⟩])
  .ret))))))))
def f3 : DFn := ⟨d3, [.tmp 2], 37⟩
theorem h3 : decFn Try.prog 3 = some f3 := by kernel_rfl

def d4 : DCode :=
  (.seq (.ops [
    ⟨(some 2), none, .mv (.c (.raw (.bool false)))⟩])
  (.seq (.ops [
    ⟨(some 12), none, .mv (.t 0)⟩,
    ⟨(some 13), none, .call 11 [(.t 12)]⟩,
    ⟨(some 11), none, .mv (.t 13)⟩,
    ⟨(some 14), none, .ext (.t 11) 0⟩,
    ⟨(some 15), none, .ext (.t 11) 1⟩,
    ⟨(some 3), none, .mv (.t 14)⟩,
    ⟨(some 4), none, .mv (.t 15)⟩])
  (.seq (.ops [
    ⟨(some 17), none, .mv (.t 0)⟩,
    ⟨(some 18), none, .call 12 [(.t 17)]⟩,
    ⟨(some 16), none, .mv (.t 18)⟩,
    ⟨(some 19), none, .ext (.t 16) 0⟩,
    ⟨(some 20), none, .ext (.t 16) 1⟩,
    ⟨(some 5), none, .mv (.t 19)⟩,
    ⟨(some 6), none, .mv (.t 20)⟩])
  (.seq (.seq (.ops [
    ⟨(some 21), none, .mv (.t 5)⟩,
    ⟨(some 22), none, .mv (.t 3)⟩,
    ⟨(some 23), none, .call 10 [(.t 21), (.t 22)]⟩,
    ⟨(some 24), none, .un .not (.t 23)⟩,
    ⟨(some 25), none, .mv (.t 24)⟩,
    ⟨(some 26), (some (25, false)), .mv (.t 6)⟩,
    ⟨(some 27), (some (25, false)), .mv (.t 4)⟩,
    ⟨(some 28), (some (25, false)), .bin .neq false (.t 26) (.t 27)⟩,
    ⟨(some 29), none, .pick (.t 25) (.c (.raw (.bool true))) (.t 28)⟩])
  (.cond (.t 29)
   (.seq (.ops [
     ⟨(some 2), none, .mv (.c (.raw (.bool false)))⟩])
   .ret)
   .skip))
  (.seq (.ops [
    ⟨(some 7), none, .mv (.c (.raw (.int .i64 (1))))⟩])
  (.seq (.ops [
    ⟨(some 30), none, .mv (.t 5)⟩,
    ⟨(some 31), none, .mv (.t 7)⟩,
    ⟨(some 32), none, .call 13 [(.t 30), (.t 31)]⟩,
    ⟨(some 7), none, .mv (.t 32)⟩])
  (.seq (.ops [
    ⟨(some 8), none, .mv (.c (.raw (.int .i64 (1))))⟩])
  (.seq (.ops [
    ⟨(some 33), none, .mv (.t 5)⟩,
    ⟨(some 34), none, .mv (.t 8)⟩,
    ⟨(some 35), none, .call 14 [(.t 33), (.t 34)]⟩,
    ⟨(some 8), none, .mv (.t 35)⟩])
  (.seq (.seq (.ops [
    ⟨(some 36), none, .mv (.t 8)⟩,
    ⟨(some 37), none, .bin .lss false (.t 36) (.c (.raw (.int .i64 (0))))⟩])
  (.cond (.t 37)
   (.seq (.ops [
     ⟨(some 2), none, .mv (.c (.raw (.bool false)))⟩])
   .ret)
   .skip))
  (.seq (.seq (.ops [
    ⟨(some 38), none, .mv (.t 8)⟩,
    ⟨(some 39), none, .mv (.t 7)⟩,
    ⟨(some 40), none, .bin .neq false (.t 38) (.t 39)⟩])
  (.cond (.t 40)
   (.seq (.ops [
     ⟨(some 2), none, .mv (.c (.raw (.bool false)))⟩])
   .ret)
   .skip))
  (.seq (.ops [
    ⟨(some 42), none, .mv (.t 0)⟩,
    ⟨(some 43), none, .call 12 [(.t 42)]⟩,
    ⟨(some 41), none, .mv (.t 43)⟩,
    ⟨(some 44), none, .ext (.t 41) 0⟩,
    ⟨(some 45), none, .ext (.t 41) 1⟩,
    ⟨(some 9), none, .mv (.t 44)⟩,
    ⟨(some 10), none, .mv (.t 45)⟩])
  (.seq (.seq (.ops [
    ⟨(some 46), none, .mv (.t 9)⟩,
    ⟨(some 47), none, .mv (.t 3)⟩,
    ⟨(some 48), none, .call 10 [(.t 46), (.t 47)]⟩,
    ⟨(some 49), none, .un .not (.t 48)⟩,
    ⟨(some 50), none, .mv (.t 49)⟩,
    ⟨(some 51), (some (50, false)), .mv (.t 10)⟩,
    ⟨(some 52), (some (50, false)), .mv (.t 4)⟩,
    ⟨(some 53), (some (50, false)), .bin .neq false (.t 51) (.t 52)⟩,
    ⟨(some 54), none, .pick (.t 50) (.c (.raw (.bool true))) (.t 53)⟩])
  (.cond (.t 54)
   (.seq (.ops [
     ⟨(some 2), none, .mv (.c (.raw (.bool false)))⟩])
   .ret)
   .skip))
  (.seq (.ops [
    ⟨(some 8), none, .mv (.c (.raw (.int .i64 (1))))⟩])
  (.seq (.ops [
    ⟨(some 55), none, .mv (.t 5)⟩,
    ⟨(some 56), none, .mv (.t 8)⟩,
    ⟨(some 57), none, .call 14 [(.t 55), (.t 56)]⟩,
    ⟨(some 8), none, .mv (.t 57)⟩])
  (.seq (.seq (.ops [
    ⟨(some 58), none, .mv (.t 8)⟩,
    ⟨(some 59), none, .bin .lss false (.t 58) (.c (.raw (.int .i64 (0))))⟩])
  (.cond (.t 59)
   (.seq (.ops [
     ⟨(some 2), none, .mv (.c (.raw (.bool false)))⟩])
   .ret)
   .skip))
  (.seq (.seq (.ops [
    ⟨(some 60), none, .mv (.t 8)⟩,
    ⟨(some 61), none, .mv (.t 7)⟩,
    ⟨(some 62), none, .bin .neq false (.t 60) (.t 61)⟩])
  (.cond (.t 62)
   (.seq (.ops [
     ⟨(some 2), none, .mv (.c (.raw (.bool false)))⟩])
   .ret)
   .skip))
  (.seq (.ops [
    ⟨(some 2), none, .mv (.c (.raw (.bool true)))⟩])
  .ret)))))))))))))))))
def f4 : DFn := ⟨d4, [.tmp 2], 63⟩
theorem h4 : decFn Try.prog 4 = some f4 := by kernel_rfl

def d5 : DCode :=
  (.seq (.ops [
    ⟨(some 4), none, .mv (.c (.raw (.bool false)))⟩])
  (.seq (.ops [
    ⟨(some 14), none, .mv (.t 0)⟩,
    ⟨(some 15), none, .mv (.t 1)⟩,
    ⟨(some 16), none, .call 15 [(.t 14), (.t 15)]⟩,
    ⟨(some 13), none, .mv (.t 16)⟩,
    ⟨(some 17), none, .ext (.t 13) 0⟩,
    ⟨(some 18), none, .ext (.t 13) 1⟩,
    ⟨(some 5), none, .mv (.t 17)⟩,
    ⟨(some 6), none, .mv (.t 18)⟩])
  (.seq (.ops [
    ⟨(some 20), none, .mv (.t 0)⟩,
    ⟨(some 21), none, .mv (.t 1)⟩,
    ⟨(some 22), none, .call 16 [(.t 20), (.t 21)]⟩,
    ⟨(some 19), none, .mv (.t 22)⟩,
    ⟨(some 23), none, .ext (.t 19) 0⟩,
    ⟨(some 24), none, .ext (.t 19) 1⟩,
    ⟨(some 7), none, .mv (.t 23)⟩,
    ⟨(some 8), none, .mv (.t 24)⟩])
  (.seq (.seq (.ops [
    ⟨(some 25), none, .mv (.t 7)⟩,
    ⟨(some 26), none, .mv (.t 5)⟩,
    ⟨(some 27), none, .call 10 [(.t 25), (.t 26)]⟩,
    ⟨(some 28), none, .un .not (.t 27)⟩,
    ⟨(some 29), none, .mv (.t 28)⟩,
    ⟨(some 30), (some (29, false)), .mv (.t 8)⟩,
    ⟨(some 31), (some (29, false)), .mv (.t 6)⟩,
    ⟨(some 32), (some (29, false)), .bin .neq false (.t 30) (.t 31)⟩,
    ⟨(some 33), none, .pick (.t 29) (.c (.raw (.bool true))) (.t 32)⟩])
  (.cond (.t 33)
   (.seq (.ops [
     ⟨(some 4), none, .mv (.c (.raw (.bool false)))⟩])
   .ret)
   .skip))
  (.seq (.ops [
    ⟨(some 9), none, .mv (.c (.raw (.int .i64 (1))))⟩])
  (.seq (.ops [
    ⟨(some 34), none, .mv (.t 7)⟩,
    ⟨(some 35), none, .mv (.t 9)⟩,
    ⟨(some 36), none, .call 13 [(.t 34), (.t 35)]⟩,
    ⟨(some 9), none, .mv (.t 36)⟩])
  (.seq (.ops [
    ⟨(some 10), none, .mv (.c (.raw (.int .i64 (1))))⟩])
  (.seq (.ops [
    ⟨(some 37), none, .mv (.t 7)⟩,
    ⟨(some 38), none, .mv (.t 10)⟩,
    ⟨(some 39), none, .call 14 [(.t 37), (.t 38)]⟩,
    ⟨(some 10), none, .mv (.t 39)⟩])
  (.seq (.seq (.ops [
    ⟨(some 40), none, .mv (.t 10)⟩,
    ⟨(some 41), none, .bin .lss false (.t 40) (.c (.raw (.int .i64 (0))))⟩])
  (.cond (.t 41)
   (.seq (.ops [
     ⟨(some 4), none, .mv (.c (.raw (.bool false)))⟩])
   .ret)
   .skip))
  (.seq (.seq (.ops [
    ⟨(some 42), none, .mv (.t 10)⟩,
    ⟨(some 43), none, .mv (.t 9)⟩,
    ⟨(some 44), none, .bin .neq false (.t 42) (.t 43)⟩])
  (.cond (.t 44)
   (.seq (.ops [
     ⟨(some 4), none, .mv (.c (.raw (.bool false)))⟩])
   .ret)
   .skip))
  (.seq (.ops [
    ⟨(some 46), none, .mv (.t 0)⟩,
    ⟨(some 47), none, .mv (.t 1)⟩,
    ⟨(some 48), none, .call 16 [(.t 46), (.t 47)]⟩,
    ⟨(some 45), none, .mv (.t 48)⟩,
    ⟨(some 49), none, .ext (.t 45) 0⟩,
    ⟨(some 50), none, .ext (.t 45) 1⟩,
    ⟨(some 11), none, .mv (.t 49)⟩,
    ⟨(some 12), none, .mv (.t 50)⟩])
  (.seq (.seq (.ops [
    ⟨(some 51), none, .mv (.t 11)⟩,
    ⟨(some 52), none, .mv (.t 5)⟩,
    ⟨(some 53), none, .call 10 [(.t 51), (.t 52)]⟩,
    ⟨(some 54), none, .un .not (.t 53)⟩,
    ⟨(some 55), none, .mv (.t 54)⟩,
    ⟨(some 56), (some (55, false)), .mv (.t 12)⟩,
    ⟨(some 57), (some (55, false)), .mv (.t 6)⟩,
    ⟨(some 58), (some (55, false)), .bin .neq false (.t 56) (.t 57)⟩,
    ⟨(some 59), none, .pick (.t 55) (.c (.raw (.bool true))) (.t 58)⟩])
  (.cond (.t 59)
   (.seq (.ops [
     ⟨(some 4), none, .mv (.c (.raw (.bool false)))⟩])
   .ret)
   .skip))
  (.seq (.ops [
    ⟨(some 10), none, .mv (.c (.raw (.int .i64 (1))))⟩])
  (.seq (.ops [
    ⟨(some 60), none, .mv (.t 7)⟩,
    ⟨(some 61), none, .mv (.t 10)⟩,
    ⟨(some 62), none, .call 14 [(.t 60), (.t 61)]⟩,
    ⟨(some 10), none, .mv (.t 62)⟩])
  (.seq (.seq (.ops [
    ⟨(some 63), none, .mv (.t 10)⟩,
    ⟨(some 64), none, .bin .lss false (.t 63) (.c (.raw (.int .i64 (0))))⟩])
  (.cond (.t 64)
   (.seq (.ops [
     ⟨(some 4), none, .mv (.c (.raw (.bool false)))⟩])
   .ret)
   .skip))
  (.seq (.seq (.ops [
    ⟨(some 65), none, .mv (.t 10)⟩,
    ⟨(some 66), none, .mv (.t 9)⟩,
    ⟨(some 67), none, .bin .neq false (.t 65) (.t 66)⟩])
  (.cond (.t 67)
   (.seq (.ops [
     ⟨(some 4), none, .mv (.c (.raw (.bool false)))⟩])
   .ret)
   .skip))
  (.seq (.ops [
    ⟨(some 4), none, .mv (.c (.raw (.bool true)))⟩])
  .ret)))))))))))))))))
def f5 : DFn := ⟨d5, [.tmp 4], 68⟩
theorem h5 : decFn Try.prog 5 = some f5 := by kernel_rfl

def d6 : DCode :=
  (.seq (.ops [
    ⟨(some 2), none, .mv (.c (.raw (.bool false)))⟩])
  (.seq (.seq (.ops [
    ⟨(some 13), none, .mv (.t 0)⟩,
    ⟨(some 14), none, .len (.t 13)⟩,
    ⟨(some 15), none, .bin .gtr false (.t 14) (.c (.raw (.int .i64 (1048576))))⟩])
  (.cond (.t 15)
   (.seq (.ops [
     ⟨(some 2), none, .mv (.c (.raw (.bool true)))⟩])
   .ret)
   .skip))
  (.seq (.ops [
    ⟨(some 17), none, .mv (.t 0)⟩,
    ⟨(some 18), none, .call 8 [(.t 17)]⟩,
    ⟨(some 19), none, .call 17 [(.t 18)]⟩,
    ⟨(some 16), none, .mv (.t 19)⟩,
    ⟨(some 20), none, .ext (.t 16) 0⟩,
    ⟨(some 21), none, .ext (.t 16) 1⟩,
    ⟨(some 3), none, .mv (.t 20)⟩,
    ⟨(some 4), none, .mv (.t 21)⟩])
  (.seq (.ops [
    ⟨(some 22), none, .mv (.t 0)⟩,
    ⟨(some 23), none, .call 8 [(.t 22)]⟩,
    ⟨(some 5), none, .mv (.t 23)⟩])
  (.seq (.ops [
    ⟨(some 25), none, .mv (.t 5)⟩,
    ⟨(some 26), none, .call 18 [(.t 25)]⟩,
    ⟨(some 24), none, .mv (.t 26)⟩,
    ⟨(some 27), none, .ext (.t 24) 0⟩,
    ⟨(some 28), none, .ext (.t 24) 1⟩,
    ⟨(some 6), none, .mv (.t 27)⟩,
    ⟨(some 7), none, .mv (.t 28)⟩])
  (.seq (.seq (.ops [
    ⟨(some 29), none, .mv (.t 6)⟩,
    ⟨(some 30), none, .mv (.t 3)⟩,
    ⟨(some 31), none, .call 10 [(.t 29), (.t 30)]⟩,
    ⟨(some 32), none, .un .not (.t 31)⟩,
    ⟨(some 33), none, .mv (.t 32)⟩,
    ⟨(some 34), (some (33, false)), .mv (.t 7)⟩,
    ⟨(some 35), (some (33, false)), .mv (.t 4)⟩,
    ⟨(some 36), (some (33, false)), .bin .neq false (.t 34) (.t 35)⟩,
    ⟨(some 37), none, .pick (.t 33) (.c (.raw (.bool true))) (.t 36)⟩])
  (.cond (.t 37)
   (.seq (.ops [
     ⟨(some 2), none, .mv (.c (.raw (.bool false)))⟩])
   .ret)
   .skip))
  (.seq (.seq (.ops [
    ⟨(some 38), none, .mv (.t 5)⟩,
    ⟨(some 39), none, .mv (.t 0)⟩,
    ⟨(some 40), none, .call 8 [(.t 39)]⟩,
    ⟨(some 41), none, .call 10 [(.t 38), (.t 40)]⟩,
    ⟨(some 42), none, .un .not (.t 41)⟩])
  (.cond (.t 42)
   (.seq (.ops [
     ⟨(some 2), none, .mv (.c (.raw (.bool false)))⟩])
   .ret)
   .skip))
  (.seq (.ops [
    ⟨(some 8), none, .mv (.c (.raw (.int .i64 (1))))⟩])
  (.seq (.ops [
    ⟨(some 43), none, .mv (.t 5)⟩,
    ⟨(some 44), none, .mv (.t 8)⟩,
    ⟨(some 45), none, .call 13 [(.t 43), (.t 44)]⟩,
    ⟨(some 8), none, .mv (.t 45)⟩])
  (.seq (.seq (.ops [
    ⟨(some 46), none, .mv (.t 8)⟩,
    ⟨(some 47), none, .bin .lss false (.t 46) (.c (.raw (.int .i64 (0))))⟩,
    ⟨(some 48), none, .mv (.t 47)⟩,
    ⟨(some 49), (some (48, false)), .mv (.t 6)⟩,
    ⟨(some 50), (some (48, false)), .mv (.t 3)⟩,
    ⟨(some 51), (some (48, false)), .call 10 [(.t 49), (.t 50)]⟩,
    ⟨(some 52), (some (48, false)), .un .not (.t 51)⟩,
    ⟨(some 53), none, .pick (.t 48) (.c (.raw (.bool true))) (.t 52)⟩,
    ⟨(some 54), none, .mv (.t 53)⟩,
    ⟨(some 55), (some (54, false)), .mv (.t 7)⟩,
    ⟨(some 56), (some (54, false)), .mv (.t 4)⟩,
    ⟨(some 57), (some (54, false)), .bin .neq false (.t 55) (.t 56)⟩,
    ⟨(some 58), none, .pick (.t 54) (.c (.raw (.bool true))) (.t 57)⟩])
  (.cond (.t 58)
   (.seq (.ops [
     ⟨(some 2), none, .mv (.c (.raw (.bool false)))⟩])
   .ret)
   .skip))
  (.seq (.ops [
    ⟨(some 9), none, .mv (.c (.raw (.int .i64 (1))))⟩])
  (.seq (.ops [
    ⟨(some 59), none, .mv (.t 6)⟩,
    ⟨(some 60), none, .mv (.t 9)⟩,
    ⟨(some 61), none, .call 13 [(.t 59), (.t 60)]⟩,
    ⟨(some 9), none, .mv (.t 61)⟩])
  (.seq (.ops [
    ⟨(some 10), none, .mv (.c (.raw (.int .i64 (1))))⟩])
  (.seq (.ops [
    ⟨(some 62), none, .mv (.t 6)⟩,
    ⟨(some 63), none, .mv (.t 10)⟩,
    ⟨(some 64), none, .call 14 [(.t 62), (.t 63)]⟩,
    ⟨(some 10), none, .mv (.t 64)⟩])
  (.seq (.seq (.ops [
    ⟨(some 65), none, .mv (.t 10)⟩,
    ⟨(some 66), none, .bin .lss false (.t 65) (.c (.raw (.int .i64 (0))))⟩])
  (.cond (.t 66)
   (.seq (.ops [
     ⟨(some 2), none, .mv (.c (.raw (.bool false)))⟩])
   .ret)
   .skip))
  (.seq (.seq (.ops [
    ⟨(some 67), none, .mv (.t 10)⟩,
    ⟨(some 68), none, .mv (.t 9)⟩,
    ⟨(some 69), none, .bin .neq false (.t 67) (.t 68)⟩])
  (.cond (.t 69)
   (.seq (.ops [
     ⟨(some 2), none, .mv (.c (.raw (.bool false)))⟩])
   .ret)
   .skip))
  (.seq (.ops [
    ⟨(some 71), none, .mv (.t 0)⟩,
    ⟨(some 72), none, .call 8 [(.t 71)]⟩,
    ⟨(some 73), none, .call 18 [(.t 72)]⟩,
    ⟨(some 70), none, .mv (.t 73)⟩,
    ⟨(some 74), none, .ext (.t 70) 0⟩,
    ⟨(some 75), none, .ext (.t 70) 1⟩,
    ⟨(some 11), none, .mv (.t 74)⟩,
    ⟨(some 12), none, .mv (.t 75)⟩])
  (.seq (.seq (.ops [
    ⟨(some 76), none, .mv (.t 11)⟩,
    ⟨(some 77), none, .mv (.t 3)⟩,
    ⟨(some 78), none, .call 10 [(.t 76), (.t 77)]⟩,
    ⟨(some 79), none, .un .not (.t 78)⟩,
    ⟨(some 80), none, .mv (.t 79)⟩,
    ⟨(some 81), (some (80, false)), .mv (.t 12)⟩,
    ⟨(some 82), (some (80, false)), .mv (.t 4)⟩,
    ⟨(some 83), (some (80, false)), .bin .neq false (.t 81) (.t 82)⟩,
    ⟨(some 84), none, .pick (.t 80) (.c (.raw (.bool true))) (.t 83)⟩])
  (.cond (.t 84)
   (.seq (.ops [
     ⟨(some 2), none, .mv (.c (.raw (.bool false)))⟩])
   .ret)
   .skip))
  (.seq (.ops [
    ⟨(some 10), none, .mv (.c (.raw (.int .i64 (1))))⟩])
  (.seq (.ops [
    ⟨(some 85), none, .mv (.t 6)⟩,
    ⟨(some 86), none, .mv (.t 10)⟩,
    ⟨(some 87), none, .call 14 [(.t 85), (.t 86)]⟩,
    ⟨(some 10), none, .mv (.t 87)⟩])
  (.seq (.seq (.ops [
    ⟨(some 88), none, .mv (.t 10)⟩,
    ⟨(some 89), none, .bin .lss false (.t 88) (.c (.raw (.int .i64 (0))))⟩])
  (.cond (.t 89)
   (.seq (.ops [
     ⟨(some 2), none, .mv (.c (.raw (.bool false)))⟩])
   .ret)
   .skip))
  (.seq (.seq (.ops [
    ⟨(some 90), none, .mv (.t 10)⟩,
    ⟨(some 91), none, .mv (.t 9)⟩,
    ⟨(some 92), none, .bin .neq false (.t 90) (.t 91)⟩])
  (.cond (.t 92)
   (.seq (.ops [
     ⟨(some 2), none, .mv (.c (.raw (.bool false)))⟩])
   .ret)
   .skip))
  (.seq (.ops [
    ⟨(some 2), none, .mv (.c (.raw (.bool true)))⟩])
  .ret)))))))))))))))))))))))
def f6 : DFn := ⟨d6, [.tmp 2], 93⟩
theorem h6 : decFn Try.prog 6 = some f6 := by kernel_rfl

def d7 : DCode :=
  (.seq (.ops [
    ⟨(some 2), none, .mv (.c (.raw (.bool false)))⟩,
    ⟨(some 3), none, .mv (.c (.raw (.int .i64 (0))))⟩])
  (.seq (.block 0
   (.seq (.ops [
     ⟨(some 9), none, .mv (.t 0)⟩,
     ⟨(some 10), none, .call 19 [(.t 9)]⟩,
     ⟨(some 11), none, .un .not (.t 10)⟩,
     ⟨(some 8), none, .mv (.t 11)⟩])
   (.cond (.t 8)
    (.seq (.ops [
      ⟨(some 2), none, .mv (.c (.raw (.bool false)))⟩,
      ⟨(some 3), none, .mv (.c (.raw (.int .i64 (1))))⟩])
    .ret)
    (.seq (.ops [
      ⟨(some 13), none, .mv (.t 0)⟩,
      ⟨(some 14), none, .len (.t 13)⟩,
      ⟨(some 15), none, .call 20 [(.t 14), (.c (.raw (.int .i64 (1)))), (.c (.raw (.int .i64 (64))))]⟩,
      ⟨(some 16), none, .un .not (.t 15)⟩,
      ⟨(some 12), none, .mv (.t 16)⟩])
    (.cond (.t 12)
     (.seq (.ops [
       ⟨(some 2), none, .mv (.c (.raw (.bool false)))⟩,
       ⟨(some 3), none, .mv (.c (.raw (.int .i64 (2))))⟩])
     .ret)
     .skip)))))
  (.seq (.seq (.ops [
    ⟨(some 4), none, .mv (.c (.raw (.int .i64 (0))))⟩])
  (.block 1
   (.loop
    (.seq (.seq (.ops [
      ⟨(some 17), none, .mv (.t 4)⟩,
      ⟨(some 18), none, .mv (.t 0)⟩,
      ⟨(some 19), none, .len (.t 18)⟩,
      ⟨(some 20), none, .bin .lss false (.t 17) (.t 19)⟩])
    (.cond (.t 20)
     .skip
     (.exit 1)))
    (.seq (.block 2
     (.seq (.ops [
       ⟨(some 23), none, .mv (.t 0)⟩,
       ⟨(some 24), none, .mv (.t 4)⟩,
       ⟨(some 25), none, .ias 1 (.t 23) (.t 24)⟩,
       ⟨(some 26), none, .load false 1 (.t 25)⟩,
       ⟨(some 27), none, .bin .neq false (.t 26) (.c (.flt .f32 1065353216))⟩,
       ⟨(some 28), none, .mv (.t 27)⟩,
       ⟨(some 29), (some (28, true)), .mv (.t 0)⟩,
       ⟨(some 30), (some (28, true)), .mv (.t 4)⟩,
       ⟨(some 31), (some (28, true)), .ias 1 (.t 29) (.t 30)⟩,
       ⟨(some 32), (some (28, true)), .load false 1 (.t 31)⟩,
       ⟨(some 33), (some (28, true)), .bin .neq false (.t 32) (.c (.flt .f32 3212836864))⟩,
       ⟨(some 34), none, .pick (.t 28) (.t 33) (.c (.raw (.bool false)))⟩])
     (.cond (.t 34)
      (.seq (.ops [
        ⟨(some 2), none, .mv (.c (.raw (.bool false)))⟩,
        ⟨(some 3), none, .mv (.c (.raw (.int .i64 (0))))⟩])
      .ret)
      .skip)))
    (.ops [
      ⟨(some 21), none, .mv (.t 4)⟩,
      ⟨(some 22), none, .bin .add false (.t 21) (.c (.raw (.int .i64 (1))))⟩,
      ⟨(some 4), none, .mv (.t 22)⟩]))))))
  (.seq (.ops [
    ⟨(some 36), none, .mv (.t 0)⟩,
    ⟨(some 37), none, .mv (.t 0)⟩,
    ⟨(some 38), none, .call 21 [(.t 36), (.t 37)]⟩,
    ⟨(some 35), none, .mv (.t 38)⟩,
    ⟨(some 39), none, .ext (.t 35) 0⟩,
    ⟨(some 40), none, .ext (.t 35) 1⟩,
    ⟨(some 5), none, .mv (.t 39)⟩,
    ⟨(some 6), none, .mv (.t 40)⟩])
  (.seq (.seq (.ops [
    ⟨(some 7), none, .mv (.c (.raw (.int .i64 (2))))⟩])
  (.block 3
   (.loop
    (.seq (.seq (.ops [
      ⟨(some 41), none, .mv (.t 7)⟩,
      ⟨(some 42), none, .mv (.t 5)⟩,
      ⟨(some 43), none, .len (.t 42)⟩,
      ⟨(some 44), none, .bin .lss false (.t 41) (.t 43)⟩])
    (.cond (.t 44)
     .skip
     (.exit 3)))
    (.seq (.block 4
     (.seq (.drw [
       ⟨(some 47), none, .mv (.t 5)⟩,
       ⟨(some 48), none, .mv (.t 7)⟩,
       ⟨(some 49), none, .ias 1 (.t 47) (.t 48)⟩,
       ⟨(some 50), none, .load false 1 (.t 49)⟩,
       ⟨(some 51), none, .mv (.t 5)⟩,
       ⟨(some 52), none, .ias 1 (.t 51) (.c (.raw (.int .i64 (1))))⟩,
       ⟨(some 53), none, .load false 1 (.t 52)⟩,
       ⟨(some 54), none, .bin .neq false (.t 50) (.t 53)⟩] [
       ])
     (.cond (.t 54)
      (.seq (.ops [
        ⟨(some 55), none, .mv (.t 6)⟩,
        ⟨(some 2), none, .mv (.c (.raw (.bool false)))⟩,
        ⟨(some 3), none, .mv (.t 55)⟩])
      .ret)
      .skip)))
    (.ops [
      ⟨(some 45), none, .mv (.t 7)⟩,
      ⟨(some 46), none, .bin .add false (.t 45) (.c (.raw (.int .i64 (1))))⟩,
      ⟨(some 7), none, .mv (.t 46)⟩]))))))
  (.seq (.ops [
    ⟨(some 56), none, .mv (.t 6)⟩,
    ⟨(some 2), none, .mv (.c (.raw (.bool true)))⟩,
    ⟨(some 3), none, .mv (.t 56)⟩])
  .ret))))))
def f7 : DFn := ⟨d7, [.tmp 2, .tmp 3], 57⟩
theorem h7 : decFn Try.prog 7 = some f7 := by kernel_rfl

def d8 : DCode :=
  (.seq (.ops [
    ⟨(some 2), none, .mv (.c (nilS 1))⟩])
  (.seq (.ops [
    ⟨(some 5), none, .mv (.t 0)⟩,
    ⟨(some 6), none, .len (.t 5)⟩,
    ⟨(some 7), none, .mks .f (.t 6) (.t 6)⟩,
    ⟨(some 3), none, .mv (.t 7)⟩])
  (.seq (.seq (.ops [
    ⟨(some 4), none, .mv (.c (.raw (.int .i64 (0))))⟩])
  (.block 0
   (.loop
    (.seq (.seq (.ops [
      ⟨(some 8), none, .mv (.t 4)⟩,
      ⟨(some 9), none, .mv (.t 0)⟩,
      ⟨(some 10), none, .len (.t 9)⟩,
      ⟨(some 11), none, .bin .lss false (.t 8) (.t 10)⟩])
    (.cond (.t 11)
     .skip
     (.exit 0)))
    (.seq (.block 1
     (.ops [
       ⟨(some 14), none, .mv (.t 3)⟩,
       ⟨(some 15), none, .mv (.t 4)⟩,
       ⟨(some 16), none, .mv (.t 0)⟩,
       ⟨(some 17), none, .mv (.t 4)⟩,
       ⟨(some 18), none, .ias 1 (.t 16) (.t 17)⟩,
       ⟨(some 19), none, .load false 1 (.t 18)⟩,
       ⟨(some 20), none, .ias 1 (.t 14) (.t 15)⟩,
       ⟨none, none, .store 1 (.t 20) (.t 19)⟩]))
    (.ops [
      ⟨(some 12), none, .mv (.t 4)⟩,
      ⟨(some 13), none, .bin .add false (.t 12) (.c (.raw (.int .i64 (1))))⟩,
      ⟨(some 4), none, .mv (.t 13)⟩]))))))
  (.seq (.ops [
    ⟨(some 21), none, .mv (.t 3)⟩,
    ⟨(some 2), none, .mv (.t 21)⟩])
  .ret))))
def f8 : DFn := ⟨d8, [.tmp 2], 22⟩
theorem h8 : decFn Try.prog 8 = some f8 := by kernel_rfl

def d9 : DCode :=
  (.seq (.ops [
    ⟨(some 2), none, .mv (.c (.raw (.bool false)))⟩,
    ⟨(some 3), none, .mv (.c (.raw (.int .i64 (0))))⟩])
  (.seq (.seq (.ops [
    ⟨(some 6), none, .mv (.t 0)⟩,
    ⟨(some 7), none, .call 22 [(.t 6), (.c (.fn 23 []))]⟩,
    ⟨(some 4), none, .mv (.t 7)⟩])
  (.seq (.ops [
    ⟨(some 8), none, .mv (.t 4)⟩,
    ⟨(some 9), none, .bin .neq false (.t 8) (.c (.raw (.int .i64 (0))))⟩])
  (.cond (.t 9)
   (.seq (.ops [
     ⟨(some 10), none, .mv (.t 4)⟩,
     ⟨(some 2), none, .mv (.c (.raw (.bool false)))⟩,
     ⟨(some 3), none, .mv (.t 10)⟩])
   .ret)
   .skip)))
  (.seq (.seq (.ops [
    ⟨(some 11), none, .mv (.t 0)⟩,
    ⟨(some 12), none, .call 24 [(.t 11), (.c (.fn 25 []))]⟩])
  (.cond (.t 12)
   (.seq (.ops [
     ⟨(some 2), none, .mv (.c (.raw (.bool false)))⟩,
     ⟨(some 3), none, .mv (.c (.raw (.int .i64 (0))))⟩])
   .ret)
   .skip))
  (.seq (.ops [
    ⟨(some 13), none, .mv (.t 0)⟩,
    ⟨(some 14), none, .mv (.t 0)⟩,
    ⟨(some 15), none, .call 26 [(.t 13), (.t 14)]⟩,
    ⟨(some 16), none, .slc 1 (.t 15) (some (.c (.raw (.int .i64 (1))))) none none⟩,
    ⟨(some 5), none, .alloc (nilS 1)⟩,
    ⟨none, none, .store 1 (.t 5) (.t 16)⟩])
  (.seq (.ops [
    ⟨(some 17), none, .load false 1 (.t 5)⟩,
    ⟨(some 18), none, .mkf 27 [(.t 5)]⟩,
    ⟨(some 19), none, .call 24 [(.t 17), (.t 18)]⟩,
    ⟨(some 20), none, .un .not (.t 19)⟩,
    ⟨(some 2), none, .mv (.t 20)⟩,
    ⟨(some 3), none, .mv (.c (.raw (.int .i64 (0))))⟩])
  .ret)))))
def f9 : DFn := ⟨d9, [.tmp 2, .tmp 3], 21⟩
theorem h9 : decFn Try.prog 9 = some f9 := by kernel_rfl

def d10 : DCode :=
  (.seq (.ops [
    ⟨(some 4), none, .mv (.c (.raw (.bool false)))⟩])
  (.seq (.seq (.ops [
    ⟨(some 6), none, .mv (.t 0)⟩,
    ⟨(some 7), none, .len (.t 6)⟩,
    ⟨(some 8), none, .mv (.t 1)⟩,
    ⟨(some 9), none, .len (.t 8)⟩,
    ⟨(some 10), none, .bin .neq false (.t 7) (.t 9)⟩])
  (.cond (.t 10)
   (.seq (.ops [
     ⟨(some 4), none, .mv (.c (.raw (.bool false)))⟩])
   .ret)
   .skip))
  (.seq (.seq (.ops [
    ⟨(some 5), none, .mv (.c (.raw (.int .i64 (0))))⟩])
  (.block 0
   (.loop
    (.seq (.seq (.ops [
      ⟨(some 11), none, .mv (.t 5)⟩,
      ⟨(some 12), none, .mv (.t 0)⟩,
      ⟨(some 13), none, .len (.t 12)⟩,
      ⟨(some 14), none, .bin .lss false (.t 11) (.t 13)⟩])
    (.cond (.t 14)
     .skip
     (.exit 0)))
    (.seq (.block 1
     (.seq (.drw [
       ⟨(some 17), none, .mv (.t 0)⟩,
       ⟨(some 18), none, .mv (.t 5)⟩,
       ⟨(some 19), none, .ias 1 (.t 17) (.t 18)⟩,
       ⟨(some 20), none, .load false 1 (.t 19)⟩,
       ⟨(some 21), none, .cvF .f64 (.t 20)⟩,
       ⟨(some 22), none, .mv (.t 1)⟩,
       ⟨(some 23), none, .mv (.t 5)⟩,
       ⟨(some 24), none, .ias 1 (.t 22) (.t 23)⟩,
       ⟨(some 25), none, .load false 1 (.t 24)⟩,
       ⟨(some 26), none, .cvF .f64 (.t 25)⟩,
       ⟨(some 27), none, .call 28 [(.t 21), (.t 26)]⟩,
       ⟨(some 28), none, .un .not (.t 27)⟩] [
       ])
     (.cond (.t 28)
      (.seq (.ops [
        ⟨(some 4), none, .mv (.c (.raw (.bool false)))⟩])
      .ret)
      .skip)))
    (.ops [
      ⟨(some 15), none, .mv (.t 5)⟩,
      ⟨(some 16), none, .bin .add false (.t 15) (.c (.raw (.int .i64 (1))))⟩,
      ⟨(some 5), none, .mv (.t 16)⟩]))))))
  (.seq (.ops [
    ⟨(some 4), none, .mv (.c (.raw (.bool true)))⟩])
  .ret))))
def f10 : DFn := ⟨d10, [.tmp 4], 29⟩
theorem h10 : decFn Try.prog 10 = some f10 := by kernel_rfl

def d11 : DCode :=
  (.seq (.ops [
    ⟨(some 2), none, .mv (.c (nilS 1))⟩,
    ⟨(some 3), none, .mv (.c (.raw (.int .i64 (0))))⟩])
  (.seq (.ops [
    ⟨(some 7), none, .mv (.t 0)⟩,
    ⟨(some 8), none, .call 29 [(.t 7)]⟩,
    ⟨(some 6), none, .mv (.t 8)⟩,
    ⟨(some 9), none, .ext (.t 6) 0⟩,
    ⟨(some 10), none, .ext (.t 6) 1⟩,
    ⟨(some 4), none, .mv (.t 9)⟩,
    ⟨(some 5), none, .mv (.t 10)⟩])
  (.seq (.ops [
    ⟨(some 11), none, .mv (.t 4)⟩,
    ⟨(some 12), none, .call 30 [(.t 11)]⟩,
    ⟨(some 13), none, .mv (.t 5)⟩,
    ⟨(some 2), none, .mv (.t 12)⟩,
    ⟨(some 3), none, .mv (.t 13)⟩])
  .ret)))
def f11 : DFn := ⟨d11, [.tmp 2, .tmp 3], 14⟩
theorem h11 : decFn Try.prog 11 = some f11 := by kernel_rfl

def d12 : DCode :=
  (.seq (.ops [
    ⟨(some 2), none, .mv (.c (nilS 1))⟩,
    ⟨(some 3), none, .mv (.c (.raw (.int .i64 (0))))⟩])
  (.seq (.ops [
    ⟨(some 7), none, .mv (.t 0)⟩,
    ⟨(some 8), none, .call 31 [(.t 7)]⟩,
    ⟨(some 6), none, .mv (.t 8)⟩,
    ⟨(some 9), none, .ext (.t 6) 0⟩,
    ⟨(some 10), none, .ext (.t 6) 1⟩,
    ⟨(some 4), none, .mv (.t 9)⟩,
    ⟨(some 5), none, .mv (.t 10)⟩])
  (.seq (.ops [
    ⟨(some 11), none, .mv (.t 4)⟩,
    ⟨(some 12), none, .call 32 [(.t 11)]⟩,
    ⟨(some 13), none, .mv (.t 5)⟩,
    ⟨(some 2), none, .mv (.t 12)⟩,
    ⟨(some 3), none, .mv (.t 13)⟩])
  .ret)))
def f12 : DFn := ⟨d12, [.tmp 2, .tmp 3], 14⟩
theorem h12 : decFn Try.prog 12 = some f12 := by kernel_rfl

def d13 : DCode :=
  (.seq (.ops [
    ⟨(some 4), none, .mv (.c (.raw (.int .i64 (0))))⟩])
  (.seq (.seq (.ops [
    ⟨(some 5), none, .mv (.c (.raw (.int .i64 (0))))⟩])
  (.block 0
   (.loop
    (.seq (.seq (.ops [
      ⟨(some 6), none, .mv (.t 5)⟩,
      ⟨(some 7), none, .mv (.t 0)⟩,
      ⟨(some 8), none, .len (.t 7)⟩,
      ⟨(some 9), none, .bin .lss false (.t 6) (.t 8)⟩])
    (.cond (.t 9)
     .skip
     (.exit 0)))
    (.seq (.block 1
     (.seq (.ops [
       ⟨(some 12), none, .mv (.t 0)⟩,
       ⟨(some 13), none, .mv (.t 5)⟩,
       ⟨(some 14), none, .mv (.t 1)⟩,
       ⟨(some 15), none, .cvF .f32 (.t 14)⟩,
       ⟨(some 16), none, .ias 1 (.t 12) (.t 13)⟩,
       ⟨none, none, .store 1 (.t 16) (.t 15)⟩])
     (.ops [
       ⟨(some 17), none, .mv (.t 1)⟩,
       ⟨(some 18), none, .bin .add false (.t 17) (.c (.raw (.int .i64 (1))))⟩,
       ⟨(some 1), none, .mv (.t 18)⟩])))
    (.ops [
      ⟨(some 10), none, .mv (.t 5)⟩,
      ⟨(some 11), none, .bin .add false (.t 10) (.c (.raw (.int .i64 (1))))⟩,
      ⟨(some 5), none, .mv (.t 11)⟩]))))))
  (.seq (.ops [
    ⟨(some 19), none, .mv (.t 1)⟩,
    ⟨(some 4), none, .mv (.t 19)⟩])
  .ret)))
def f13 : DFn := ⟨d13, [.tmp 4], 20⟩
theorem h13 : decFn Try.prog 13 = some f13 := by kernel_rfl

def d14 : DCode :=
  (.seq (.ops [
    ⟨(some 4), none, .mv (.c (.raw (.int .i64 (0))))⟩])
  (.seq (.seq (.ops [
    ⟨(some 5), none, .mv (.c (.raw (.int .i64 (0))))⟩])
  (.block 0
   (.loop
    (.seq (.seq (.ops [
      ⟨(some 6), none, .mv (.t 5)⟩,
      ⟨(some 7), none, .mv (.t 0)⟩,
      ⟨(some 8), none, .len (.t 7)⟩,
      ⟨(some 9), none, .bin .lss false (.t 6) (.t 8)⟩])
    (.cond (.t 9)
     .skip
     (.exit 0)))
    (.seq (.block 1
     (.seq (.seq (.ops [
       ⟨(some 12), none, .mv (.t 0)⟩,
       ⟨(some 13), none, .mv (.t 5)⟩,
       ⟨(some 14), none, .ias 1 (.t 12) (.t 13)⟩,
       ⟨(some 15), none, .load false 1 (.t 14)⟩,
       ⟨(some 16), none, .mv (.t 1)⟩,
       ⟨(some 17), none, .cvF .f32 (.t 16)⟩,
       ⟨(some 18), none, .bin .neq false (.t 15) (.t 17)⟩])
     (.cond (.t 18)
      (.seq (.ops [
        ⟨(some 4), none, .mv (.c (.raw (.int .i64 (-1))))⟩])
      .ret)
      .skip))
     (.ops [
       ⟨(some 19), none, .mv (.t 1)⟩,
       ⟨(some 20), none, .bin .add false (.t 19) (.c (.raw (.int .i64 (1))))⟩,
       ⟨(some 1), none, .mv (.t 20)⟩])))
    (.ops [
      ⟨(some 10), none, .mv (.t 5)⟩,
      ⟨(some 11), none, .bin .add false (.t 10) (.c (.raw (.int .i64 (1))))⟩,
      ⟨(some 5), none, .mv (.t 11)⟩]))))))
  (.seq (.ops [
    ⟨(some 21), none, .mv (.t 1)⟩,
    ⟨(some 4), none, .mv (.t 21)⟩])
  .ret)))
def f14 : DFn := ⟨d14, [.tmp 4], 22⟩
theorem h14 : decFn Try.prog 14 = some f14 := by kernel_rfl

def d15 : DCode :=
  (.seq (.ops [
    ⟨(some 4), none, .mv (.c (nilS 1))⟩,
    ⟨(some 5), none, .mv (.c (.raw (.int .i64 (0))))⟩])
  (.seq (.ops [
    ⟨(some 9), none, .mv (.t 0)⟩,
    ⟨(some 10), none, .mv (.t 1)⟩,
    ⟨(some 11), none, .call 33 [(.t 9), (.t 10)]⟩,
    ⟨(some 8), none, .mv (.t 11)⟩,
    ⟨(some 12), none, .ext (.t 8) 0⟩,
    ⟨(some 13), none, .ext (.t 8) 1⟩,
    ⟨(some 6), none, .mv (.t 12)⟩,
    ⟨(some 7), none, .mv (.t 13)⟩])
  (.seq (.ops [
    ⟨(some 14), none, .mv (.t 6)⟩,
    ⟨(some 15), none, .call 30 [(.t 14)]⟩,
    ⟨(some 16), none, .mv (.t 7)⟩,
    ⟨(some 4), none, .mv (.t 15)⟩,
    ⟨(some 5), none, .mv (.t 16)⟩])
  .ret)))
def f15 : DFn := ⟨d15, [.tmp 4, .tmp 5], 17⟩
theorem h15 : decFn Try.prog 15 = some f15 := by kernel_rfl

def d16 : DCode :=
  (.seq (.ops [
    ⟨(some 4), none, .mv (.c (nilS 1))⟩,
    ⟨(some 5), none, .mv (.c (.raw (.int .i64 (0))))⟩])
  (.seq (.ops [
    ⟨(some 9), none, .mv (.t 0)⟩,
    ⟨(some 10), none, .mv (.t 1)⟩,
    ⟨(some 11), none, .call 34 [(.t 9), (.t 10)]⟩,
    ⟨(some 8), none, .mv (.t 11)⟩,
    ⟨(some 12), none, .ext (.t 8) 0⟩,
    ⟨(some 13), none, .ext (.t 8) 1⟩,
    ⟨(some 6), none, .mv (.t 12)⟩,
    ⟨(some 7), none, .mv (.t 13)⟩])
  (.seq (.ops [
    ⟨(some 14), none, .mv (.t 6)⟩,
    ⟨(some 15), none, .call 32 [(.t 14)]⟩,
    ⟨(some 16), none, .mv (.t 7)⟩,
    ⟨(some 4), none, .mv (.t 15)⟩,
    ⟨(some 5), none, .mv (.t 16)⟩])
  .ret)))
def f16 : DFn := ⟨d16, [.tmp 4, .tmp 5], 17⟩
theorem h16 : decFn Try.prog 16 = some f16 := by kernel_rfl

def d17 : DCode :=
  (.seq (.ops [
    ⟨(some 2), none, .mv (.c (nilS 1))⟩,
    ⟨(some 3), none, .mv (.c (.raw (.int .i64 (0))))⟩])
  (.seq (.ops [
    ⟨(some 7), none, .mv (.t 0)⟩,
    ⟨(some 8), none, .call 35 [(.t 7)]⟩,
    ⟨(some 6), none, .mv (.t 8)⟩,
    ⟨(some 9), none, .ext (.t 6) 0⟩,
    ⟨(some 10), none, .ext (.t 6) 1⟩,
    ⟨(some 4), none, .mv (.t 9)⟩,
    ⟨(some 5), none, .mv (.t 10)⟩])
  (.seq (.ops [
    ⟨(some 11), none, .mv (.t 4)⟩,
    ⟨(some 12), none, .call 30 [(.t 11)]⟩,
    ⟨(some 13), none, .mv (.t 5)⟩,
    ⟨(some 2), none, .mv (.t 12)⟩,
    ⟨(some 3), none, .mv (.t 13)⟩])
  .ret)))
def f17 : DFn := ⟨d17, [.tmp 2, .tmp 3], 14⟩
theorem h17 : decFn Try.prog 17 = some f17 := by kernel_rfl

def d18 : DCode :=
  (.seq (.ops [
    ⟨(some 2), none, .mv (.c (nilS 1))⟩,
    ⟨(some 3), none, .mv (.c (.raw (.int .i64 (0))))⟩])
  (.seq (.ops [
    ⟨(some 7), none, .mv (.t 0)⟩,
    ⟨(some 8), none, .call 36 [(.t 7)]⟩,
    ⟨(some 6), none, .mv (.t 8)⟩,
    ⟨(some 9), none, .ext (.t 6) 0⟩,
    ⟨(some 10), none, .ext (.t 6) 1⟩,
    ⟨(some 4), none, .mv (.t 9)⟩,
    ⟨(some 5), none, .mv (.t 10)⟩])
  (.seq (.ops [
    ⟨(some 11), none, .mv (.t 4)⟩,
    ⟨(some 12), none, .call 32 [(.t 11)]⟩,
    ⟨(some 13), none, .mv (.t 5)⟩,
    ⟨(some 2), none, .mv (.t 12)⟩,
    ⟨(some 3), none, .mv (.t 13)⟩])
  .ret)))
def f18 : DFn := ⟨d18, [.tmp 2, .tmp 3], 14⟩
theorem h18 : decFn Try.prog 18 = some f18 := by kernel_rfl

def d19 : DCode :=
  (.seq (.ops [
    ⟨(some 2), none, .mv (.c (.raw (.bool false)))⟩])
  (.seq (.seq (.ops [
    ⟨(some 3), none, .mv (.c (.raw (.int .i64 (0))))⟩])
  (.block 0
   (.loop
    (.seq (.seq (.ops [
      ⟨(some 4), none, .mv (.t 3)⟩,
      ⟨(some 5), none, .mv (.t 0)⟩,
      ⟨(some 6), none, .len (.t 5)⟩,
      ⟨(some 7), none, .bin .lss false (.t 4) (.t 6)⟩])
    (.cond (.t 7)
     .skip
     (.exit 0)))
    (.seq (.block 1
     (.seq (.ops [
       ⟨(some 10), none, .mv (.t 0)⟩,
       ⟨(some 11), none, .mv (.t 3)⟩,
       ⟨(some 12), none, .ias 1 (.t 10) (.t 11)⟩,
       ⟨(some 13), none, .load false 1 (.t 12)⟩,
       ⟨(some 14), none, .call 37 [(.t 13)]⟩,
       ⟨(some 15), none, .un .not (.t 14)⟩])
     (.cond (.t 15)
      (.seq (.ops [
        ⟨(some 2), none, .mv (.c (.raw (.bool false)))⟩])
      .ret)
      .skip)))
    (.ops [
      ⟨(some 8), none, .mv (.t 3)⟩,
      ⟨(some 9), none, .bin .add false (.t 8) (.c (.raw (.int .i64 (1))))⟩,
      ⟨(some 3), none, .mv (.t 9)⟩]))))))
  (.seq (.ops [
    ⟨(some 2), none, .mv (.c (.raw (.bool true)))⟩])
  .ret)))
def f19 : DFn := ⟨d19, [.tmp 2], 16⟩
theorem h19 : decFn Try.prog 19 = some f19 := by kernel_rfl

def d20 : DCode :=
  (.seq (.ops [
    ⟨(some 6), none, .mv (.c (.raw (.bool false)))⟩])
  (.seq (.ops [
    ⟨(some 7), none, .mv (.t 0)⟩,
    ⟨(some 8), none, .mv (.t 1)⟩,
    ⟨(some 9), none, .bin .geq false (.t 7) (.t 8)⟩,
    ⟨(some 10), none, .mv (.t 9)⟩,
    ⟨(some 11), (some (10, true)), .mv (.t 0)⟩,
    ⟨(some 12), (some (10, true)), .mv (.t 2)⟩,
    ⟨(some 13), (some (10, true)), .bin .leq false (.t 11) (.t 12)⟩,
    ⟨(some 14), none, .pick (.t 10) (.t 13) (.c (.raw (.bool false)))⟩,
    ⟨(some 6), none, .mv (.t 14)⟩])
  .ret))
def f20 : DFn := ⟨d20, [.tmp 6], 15⟩
theorem h20 : decFn Try.prog 20 = some f20 := by kernel_rfl

def d21 : DCode :=
  (.seq (.ops [
    ⟨(some 4), none, .mv (.c (nilS 1))⟩,
    ⟨(some 5), none, .mv (.c (.raw (.int .i64 (0))))⟩])
  (.seq (.ops [
    ⟨(some 10), none, .bsl .f 0 []⟩,
    ⟨(some 6), none, .mv (.t 10)⟩])
  (.seq (.seq (.ops [
    ⟨(some 7), none, .mv (.c (.raw (.int .i64 (0))))⟩])
  (.block 0
   (.loop
    (.seq (.seq (.ops [
      ⟨(some 11), none, .mv (.t 7)⟩,
      ⟨(some 12), none, .mv (.t 0)⟩,
      ⟨(some 13), none, .len (.t 12)⟩,
      ⟨(some 14), none, .bin .lss false (.t 11) (.t 13)⟩])
    (.cond (.t 14)
     .skip
     (.exit 0)))
    (.seq (.block 1
     (.seq (.ops [
       ⟨(some 8), none, .mv (.c (.flt .f32 0))⟩])
     (.seq (.seq (.ops [
       ⟨(some 9), none, .mv (.c (.raw (.int .i64 (0))))⟩])
     (.block 2
      (.loop
       (.seq (.seq (.ops [
         ⟨(some 17), none, .mv (.t 9)⟩,
         ⟨(some 18), none, .mv (.t 0)⟩,
         ⟨(some 19), none, .len (.t 18)⟩,
         ⟨(some 20), none, .bin .lss false (.t 17) (.t 19)⟩])
       (.cond (.t 20)
        .skip
        (.exit 2)))
       (.seq (.block 3
        (.seq (.drw [
          ⟨(some 23), none, .mv (.t 8)⟩,
          ⟨(some 24), none, .mv (.t 0)⟩,
          ⟨(some 25), none, .mv (.t 9)⟩,
          ⟨(some 26), none, .ias 1 (.t 24) (.t 25)⟩,
          ⟨(some 27), none, .load false 1 (.t 26)⟩,
          ⟨(some 28), none, .mv (.t 1)⟩,
          ⟨(some 29), none, .mv (.t 9)⟩,
          ⟨(some 30), none, .mv (.t 7)⟩,
          ⟨(some 31), none, .bin .add false (.t 29) (.t 30)⟩,
          ⟨(some 32), none, .mv (.t 1)⟩,
          ⟨(some 33), none, .len (.t 32)⟩,
          ⟨(some 34), none, .bin .rem false (.t 31) (.t 33)⟩,
          ⟨(some 35), none, .ias 1 (.t 28) (.t 34)⟩,
          ⟨(some 36), none, .load false 1 (.t 35)⟩,
          ⟨(some 37), none, .bin .mul false (.t 27) (.t 36)⟩,
          ⟨(some 38), none, .bin .add false (.t 23) (.t 37)⟩,
          ⟨(some 8), none, .mv (.t 38)⟩] [
          ])
        (.seq (.ops [
          ⟨(some 39), none, .mv (.t 8)⟩,
          ⟨(some 40), none, .call 37 [(.t 39)]⟩,
          ⟨(some 41), none, .un .not (.t 40)⟩])
        (.cond (.t 41)
         (.seq (.ops [
           ⟨(some 4), none, .mv (.c (nilS 1))⟩,
           ⟨(some 5), none, .mv (.c (.raw (.int .i64 (3))))⟩])
         .ret)
         .skip))))
       (.ops [
         ⟨(some 21), none, .mv (.t 9)⟩,
         ⟨(some 22), none, .bin .add false (.t 21) (.c (.raw (.int .i64 (1))))⟩,
         ⟨(some 9), none, .mv (.t 22)⟩]))))))
     (.ops [
       ⟨(some 42), none, .mv (.t 6)⟩,
       ⟨(some 43), none, .mv (.t 8)⟩,
       ⟨(some 44), none, .bsl .f 1 [(0, (.t 43))]⟩,
       ⟨(some 45), none, .app .f (.t 42) (.t 44)⟩,
       ⟨(some 6), none, .mv (.t 45)⟩]))))
    (.ops [
      ⟨(some 15), none, .mv (.t 7)⟩,
      ⟨(some 16), none, .bin .add false (.t 15) (.c (.raw (.int .i64 (1))))⟩,
      ⟨(some 7), none, .mv (.t 16)⟩]))))))
  (.seq (.ops [
    ⟨(some 46), none, .mv (.t 6)⟩,
    ⟨(some 4), none, .mv (.t 46)⟩,
    ⟨(some 5), none, .mv (.c (.raw (.int .i64 (0))))⟩])
  .ret))))
def f21 : DFn := ⟨d21, [.tmp 4, .tmp 5], 47⟩
theorem h21 : decFn Try.prog 21 = some f21 := by kernel_rfl

def d22 : DCode :=
  (.seq (.ops [
    ⟨(some 4), none, .mv (.c (.raw (.int .i64 (0))))⟩])
  (.seq (.block 0
   (.seq (.ops [
     ⟨(some 6), none, .mv (.t 0)⟩,
     ⟨(some 7), none, .call 38 [(.t 6)]⟩,
     ⟨(some 8), none, .un .not (.t 7)⟩,
     ⟨(some 5), none, .mv (.t 8)⟩])
   (.cond (.t 5)
    (.seq (.ops [
      ⟨(some 4), none, .mv (.c (.raw (.int .i64 (1))))⟩])
    .ret)
    (.seq (.ops [
      ⟨(some 10), none, .mv (.t 1)⟩,
      ⟨(some 11), none, .mv (.t 0)⟩,
      ⟨(some 12), none, .len (.t 11)⟩,
      ⟨(some 13), none, .callv (.t 10) [(.t 12)]⟩,
      ⟨(some 14), none, .un .not (.t 13)⟩,
      ⟨(some 9), none, .mv (.t 14)⟩])
    (.cond (.t 9)
     (.seq (.ops [
       ⟨(some 4), none, .mv (.c (.raw (.int .i64 (2))))⟩])
     .ret)
     .skip)))))
  (.seq (.ops [
    ⟨(some 4), none, .mv (.c (.raw (.int .i64 (0))))⟩])
  .ret)))
def f22 : DFn := ⟨d22, [.tmp 4], 15⟩
theorem h22 : decFn Try.prog 22 = some f22 := by kernel_rfl

def d23 : DCode :=
  (.seq (.ops [
    ⟨(some 2), none, .mv (.c (.raw (.bool false)))⟩])
  (.seq (.ops [
    ⟨(some 3), none, .mv (.t 0)⟩,
    ⟨(some 4), none, .call 39 [(.t 3), (.c (.raw (.int .i64 (1)))), (.c (.raw (.int .i64 (64))))]⟩,
    ⟨(some 2), none, .mv (.t 4)⟩])
  .ret))
def f23 : DFn := ⟨d23, [.tmp 2], 5⟩
theorem h23 : decFn Try.prog 23 = some f23 := by kernel_rfl

def d24 : DCode :=
  (.seq (.ops [
    ⟨(some 4), none, .mv (.c (.raw (.bool false)))⟩])
  (.seq (.ops [
    ⟨(some 5), none, .mv (.t 0)⟩,
    ⟨(some 6), none, .mv (.t 1)⟩,
    ⟨(some 7), none, .call 40 [(.t 5), (.t 6)]⟩,
    ⟨(some 8), none, .bin .geq false (.t 7) (.c (.raw (.int .i64 (0))))⟩,
    ⟨(some 4), none, .mv (.t 8)⟩])
  .ret))
def f24 : DFn := ⟨d24, [.tmp 4], 9⟩
theorem h24 : decFn Try.prog 24 = some f24 := by kernel_rfl

def d25 : DCode :=
  (.seq (.ops [
    ⟨(some 2), none, .mv (.c (.raw (.bool false)))⟩])
  (.seq (.ops [
    ⟨(some 3), none, .mv (.t 0)⟩,
    ⟨(some 4), none, .bin .neq false (.t 3) (.c (.flt .f32 1065353216))⟩,
    ⟨(some 5), none, .mv (.t 4)⟩,
    ⟨(some 6), (some (5, true)), .mv (.t 0)⟩,
    ⟨(some 7), (some (5, true)), .bin .neq false (.t 6) (.c (.flt .f32 3212836864))⟩,
    ⟨(some 8), none, .pick (.t 5) (.t 7) (.c (.raw (.bool false)))⟩,
    ⟨(some 2), none, .mv (.t 8)⟩])
  .ret))
def f25 : DFn := ⟨d25, [.tmp 2], 9⟩
theorem h25 : decFn Try.prog 25 = some f25 := by kernel_rfl

def d26 : DCode :=
  (.seq (.ops [
    ⟨(some 3), none, .box (.t 1)⟩,
    ⟨(some 4), none, .mv (.c (nilS 1))⟩])
  (.seq (.ops [
    ⟨(some 5), none, .mv (.t 0)⟩,
    ⟨(some 6), none, .mkf 42 [(.t 3)]⟩,
    ⟨(some 7), none, .call 41 [(.t 5), (.t 6)]⟩,
    ⟨(some 4), none, .mv (.t 7)⟩])
  .ret))
def f26 : DFn := ⟨d26, [.tmp 4], 8⟩
theorem h26 : decFn Try.prog 26 = some f26 := by kernel_rfl

def d27 : DCode :=
  (.seq (.ops [
    ⟨(some 3), none, .mv (.c (.raw (.bool false)))⟩])
  (.seq (.ops [
    ⟨(some 4), none, .mv (.t 0)⟩,
    ⟨(some 5), none, .load false 1 (.t 1)⟩,
    ⟨(some 6), none, .ias 1 (.t 5) (.c (.raw (.int .i64 (0))))⟩,
    ⟨(some 7), none, .load false 1 (.t 6)⟩,
    ⟨(some 8), none, .bin .neq false (.t 4) (.t 7)⟩,
    ⟨(some 3), none, .mv (.t 8)⟩])
  .ret))
def f27 : DFn := ⟨d27, [.tmp 3], 9⟩
theorem h27 : decFn Try.prog 27 = some f27 := by kernel_rfl

def d28 : DCode :=
  (.seq (.ops [
    ⟨(some 4), none, .mv (.c (.raw (.bool false)))⟩])
  (.seq (.seq (.ops [
    ⟨(some 5), none, .mv (.t 0)⟩,
    ⟨(some 6), none, .mv (.t 0)⟩,
    ⟨(some 7), none, .bin .neq false (.t 5) (.t 6)⟩,
    ⟨(some 8), none, .mv (.t 7)⟩,
    ⟨(some 9), (some (8, false)), .mv (.t 1)⟩,
    ⟨(some 10), (some (8, false)), .mv (.t 1)⟩,
    ⟨(some 11), (some (8, false)), .bin .neq false (.t 9) (.t 10)⟩,
    ⟨(some 12), none, .pick (.t 8) (.c (.raw (.bool true))) (.t 11)⟩])
  (.cond (.t 12)
   (.seq (.ops [
     ⟨(some 13), none, .mv (.t 0)⟩,
     ⟨(some 14), none, .mv (.t 0)⟩,
     ⟨(some 15), none, .bin .neq false (.t 13) (.t 14)⟩,
     ⟨(some 16), none, .mv (.t 15)⟩,
     ⟨(some 17), (some (16, true)), .mv (.t 1)⟩,
     ⟨(some 18), (some (16, true)), .mv (.t 1)⟩,
     ⟨(some 19), (some (16, true)), .bin .neq false (.t 17) (.t 18)⟩,
     ⟨(some 20), none, .pick (.t 16) (.t 19) (.c (.raw (.bool false)))⟩,
     ⟨(some 4), none, .mv (.t 20)⟩])
   .ret)
   .skip))
  (.seq (.seq (.ops [
    ⟨(some 21), none, .mv (.t 0)⟩,
    ⟨(some 22), none, .bin .eql false (.t 21) (.c (.flt .f64 0))⟩,
    ⟨(some 23), none, .mv (.t 22)⟩,
    ⟨(some 24), (some (23, true)), .mv (.t 1)⟩,
    ⟨(some 25), (some (23, true)), .bin .eql false (.t 24) (.c (.flt .f64 0))⟩,
    ⟨(some 26), none, .pick (.t 23) (.t 25) (.c (.raw (.bool false)))⟩])
  (.cond (.t 26)
   (.seq (.ops [
     ⟨(some 27), none, .mv (.t 0)⟩,
     ⟨(some 28), none, .bin .quo false (.c (.flt .f64 4607182418800017408)) (.t 27)⟩,
     ⟨(some 29), none, .bin .gtr false (.t 28) (.c (.flt .f64 0))⟩,
     ⟨(some 30), none, .mv (.t 1)⟩,
     ⟨(some 31), none, .bin .quo false (.c (.flt .f64 4607182418800017408)) (.t 30)⟩,
     ⟨(some 32), none, .bin .gtr false (.t 31) (.c (.flt .f64 0))⟩,
     ⟨(some 33), none, .bin .eql true (.t 29) (.t 32)⟩,
     ⟨(some 4), none, .mv (.t 33)⟩])
   .ret)
   .skip))
  (.seq (.ops [
    ⟨(some 34), none, .mv (.t 0)⟩,
    ⟨(some 35), none, .mv (.t 1)⟩,
    ⟨(some 36), none, .bin .eql false (.t 34) (.t 35)⟩,
    ⟨(some 4), none, .mv (.t 36)⟩])
  .ret))))
def f28 : DFn := ⟨d28, [.tmp 4], 37⟩
theorem h28 : decFn Try.prog 28 = some f28 := by kernel_rfl

def d29 : DCode :=
  (.seq (.ops [
    ⟨(some 2), none, .mv (.c (nilS 1))⟩,
    ⟨(some 3), none, .mv (.c (.raw (.int .i64 (0))))⟩])
  (.seq (.seq (.ops [
    ⟨(some 4), none, .mv (.t 0)⟩,
    ⟨(some 5), none, .call 43 [(.t 4)]⟩,
    ⟨(some 6), none, .un .not (.t 5)⟩])
  (.cond (.t 6)
   (.seq (.ops [
     ⟨(some 2), none, .mv (.c (nilS 1))⟩,
     ⟨(some 3), none, .mv (.c (.raw (.int .i64 (2))))⟩])
   .ret)
   .skip))
  (.seq (.ops [
    ⟨(some 7), none, .mv (.t 0)⟩,
    ⟨(some 8), none, .call 44 [(.t 7)]⟩,
    ⟨(some 2), none, .mv (.t 8)⟩,
    ⟨(some 3), none, .mv (.c (.raw (.int .i64 (0))))⟩])
  .ret)))
def f29 : DFn := ⟨d29, [.tmp 2, .tmp 3], 9⟩
theorem h29 : decFn Try.prog 29 = some f29 := by kernel_rfl

def d30 : DCode :=
  (.seq (.ops [
    ⟨(some 2), none, .mv (.c (nilS 1))⟩])
  (.seq (.ops [
    ⟨(some 5), none, .bsl .f 0 []⟩,
    ⟨(some 3), none, .mv (.t 5)⟩])
  (.seq (.seq (.ops [
    ⟨(some 4), none, .mv (.c (.raw (.int .i64 (0))))⟩])
  (.block 0
   (.loop
    (.seq (.seq (.ops [
      ⟨(some 6), none, .mv (.t 4)⟩,
      ⟨(some 7), none, .mv (.t 0)⟩,
      ⟨(some 8), none, .len (.t 7)⟩,
      ⟨(some 9), none, .bin .lss false (.t 6) (.t 8)⟩])
    (.cond (.t 9)
     .skip
     (.exit 0)))
    (.seq (.block 1
     (.ops [
       ⟨(some 12), none, .mv (.t 3)⟩,
       ⟨(some 13), none, .mv (.t 0)⟩,
       ⟨(some 14), none, .mv (.t 4)⟩,
       ⟨(some 15), none, .ias 1 (.t 13) (.t 14)⟩,
       ⟨(some 16), none, .load false 1 (.t 15)⟩,
       ⟨(some 17), none, .call 45 [(.t 16)]⟩,
       ⟨(some 18), none, .bsl .f 1 [(0, (.t 17))]⟩,
       ⟨(some 19), none, .app .f (.t 12) (.t 18)⟩,
       ⟨(some 3), none, .mv (.t 19)⟩]))
    (.ops [
      ⟨(some 10), none, .mv (.t 4)⟩,
      ⟨(some 11), none, .bin .add false (.t 10) (.c (.raw (.int .i64 (1))))⟩,
      ⟨(some 4), none, .mv (.t 11)⟩]))))))
  (.seq (.ops [
    ⟨(some 20), none, .mv (.t 3)⟩,
    ⟨(some 2), none, .mv (.t 20)⟩])
  .ret))))
def f30 : DFn := ⟨d30, [.tmp 2], 21⟩
theorem h30 : decFn Try.prog 30 = some f30 := by kernel_rfl

def d31 : DCode :=
  (.seq (.ops [
    ⟨(some 2), none, .mv (.c (nilS 1))⟩,
    ⟨(some 3), none, .mv (.c (.raw (.int .i64 (0))))⟩])
  (.seq (.seq (.ops [
    ⟨(some 4), none, .mv (.t 0)⟩,
    ⟨(some 5), none, .call 46 [(.t 4)]⟩,
    ⟨(some 6), none, .un .not (.t 5)⟩])
  (.cond (.t 6)
   (.seq (.ops [
     ⟨(some 2), none, .mv (.c (nilS 1))⟩,
     ⟨(some 3), none, .mv (.c (.raw (.int .i64 (2))))⟩])
   .ret)
   .skip))
  (.seq (.ops [
    ⟨(some 7), none, .mv (.t 0)⟩,
    ⟨(some 8), none, .call 47 [(.t 7)]⟩,
    ⟨(some 2), none, .mv (.t 8)⟩,
    ⟨(some 3), none, .mv (.c (.raw (.int .i64 (0))))⟩])
  .ret)))
def f31 : DFn := ⟨d31, [.tmp 2, .tmp 3], 9⟩
theorem h31 : decFn Try.prog 31 = some f31 := by kernel_rfl

def d32 : DCode :=
  (.seq (.ops [
    ⟨(some 1), none, .box (.t 0)⟩,
    ⟨(some 2), none, .mv (.c (nilS 1))⟩])
  (.seq (.seq (.ops [
    ⟨(some 17), none, .mki 50 (.t 1)⟩])
  (.block 0
   (.seq (.ops [
     ⟨(some 18), none, .tas (.t 17) 51 (.raw (.pointer none))⟩,
     ⟨(some 19), none, .ext (.t 18) 1⟩,
     ⟨(some 20), none, .ext (.t 18) 0⟩])
   (.cond (.t 19)
    (.seq (.ops [
      ⟨(some 3), none, .mv (.t 20)⟩])
    (.ops [
      ⟨(some 21), none, .mv (.t 3)⟩,
      ⟨(some 22), none, .mv (.t 3)⟩,
      ⟨(some 23), none, .nck (.t 22)⟩,
      ⟨(some 24), none, .load false 1 (.t 23)⟩,
      ⟨(some 25), none, .call 48 [(.t 24)]⟩,
      ⟨(some 26), none, .nck (.t 21)⟩,
      ⟨none, none, .store 1 (.t 26) (.t 25)⟩]))
    (.seq (.ops [
      ⟨(some 27), none, .tas (.t 17) 52 (.raw (.pointer none))⟩,
      ⟨(some 28), none, .ext (.t 27) 1⟩,
      ⟨(some 29), none, .ext (.t 27) 0⟩])
    (.cond (.t 28)
     (.seq (.ops [
       ⟨(some 4), none, .mv (.t 29)⟩])
     (.ops [
       ⟨(some 30), none, .mv (.t 4)⟩,
       ⟨(some 31), none, .mv (.t 4)⟩,
       ⟨(some 32), none, .nck (.t 31)⟩,
       ⟨(some 33), none, .load false 1 (.t 32)⟩,
       ⟨(some 34), none, .call 49 [(.t 33)]⟩,
       ⟨(some 35), none, .nck (.t 30)⟩,
       ⟨none, none, .store 1 (.t 35) (.t 34)⟩]))
     (.seq (.ops [
       ⟨(some 36), none, .tas (.t 17) 55 (.raw (.pointer none))⟩,
       ⟨(some 37), none, .ext (.t 36) 1⟩,
       ⟨(some 38), none, .ext (.t 36) 0⟩])
     (.cond (.t 37)
      (.seq (.ops [
        ⟨(some 5), none, .mv (.t 38)⟩])
      (.seq (.ops [
        ⟨(some 39), none, .mv (.t 5)⟩,
        ⟨(some 40), none, .nck (.t 39)⟩,
        ⟨(some 41), none, .fad (.t 40) 1 1⟩,
        ⟨(some 42), none, .load true 64 (.t 41)⟩,
        ⟨(some 43), none, .mv (.c (.raw (.int .i64 (0))))⟩])
      (.block 1
       (.loop
        (.seq (.ops [
          ⟨(some 44), none, .bin .lss false (.t 43) (.c (.raw (.int .i64 (64))))⟩])
        (.seq (.cond (.t 44)
         .skip
         (.exit 1))
        (.seq (.block 2
         (.seq (.ops [
           ⟨(some 45), none, .mv (.t 43)⟩,
           ⟨(some 46), none, .idx 64 (.t 42) (.t 43)⟩,
           ⟨(some 6), none, .mv (.t 45)⟩,
           ⟨(some 7), none, .mv (.t 46)⟩])
         (.drw [
           ⟨(some 47), none, .mv (.t 5)⟩,
           ⟨(some 48), none, .mv (.t 6)⟩,
           ⟨(some 49), none, .mv (.t 7)⟩,
           ⟨(some 50), none, .call 49 [(.t 49)]⟩,
           ⟨(some 51), none, .nck (.t 47)⟩,
           ⟨(some 52), none, .fad (.t 51) 1 1⟩,
           ⟨(some 53), none, .iad 64 1 (.t 52) (.t 48)⟩] [
           ⟨none, none, .store 1 (.t 53) (.t 50)⟩])))
        (.ops [
          ⟨(some 54), none, .bin .add false (.t 43) (.c (.raw (.int .i64 (1))))⟩,
          ⟨(some 43), none, .mv (.t 54)⟩]))))))))
      (.seq (.ops [
        ⟨(some 55), none, .tas (.t 17) 59 (.raw (.pointer none))⟩,
        ⟨(some 56), none, .ext (.t 55) 1⟩,
        ⟨(some 57), none, .ext (.t 55) 0⟩])
      (.cond (.t 56)
       (.seq (.ops [
         ⟨(some 8), none, .mv (.t 57)⟩])
       (.seq (.ops [
         ⟨(some 58), none, .mv (.t 8)⟩,
         ⟨(some 59), none, .nck (.t 58)⟩,
         ⟨(some 60), none, .fad (.t 59) 1 1⟩,
         ⟨(some 61), none, .load true 64 (.t 60)⟩,
         ⟨(some 62), none, .mv (.c (.raw (.int .i64 (0))))⟩])
       (.block 3
        (.loop
         (.seq (.ops [
           ⟨(some 63), none, .bin .lss false (.t 62) (.c (.raw (.int .i64 (64))))⟩])
         (.seq (.cond (.t 63)
          .skip
          (.exit 3))
         (.seq (.block 4
          (.seq (.ops [
            ⟨(some 64), none, .mv (.t 62)⟩,
            ⟨(some 65), none, .idx 64 (.t 61) (.t 62)⟩,
            ⟨(some 9), none, .mv (.t 64)⟩,
            ⟨(some 10), none, .mv (.t 65)⟩])
          (.drw [
            ⟨(some 66), none, .mv (.t 8)⟩,
            ⟨(some 67), none, .mv (.t 9)⟩,
            ⟨(some 68), none, .mv (.t 10)⟩,
            ⟨(some 69), none, .call 48 [(.t 68)]⟩,
            ⟨(some 70), none, .nck (.t 66)⟩,
            ⟨(some 71), none, .fad (.t 70) 1 1⟩,
            ⟨(some 72), none, .iad 64 1 (.t 71) (.t 67)⟩] [
            ⟨none, none, .store 1 (.t 72) (.t 69)⟩])))
         (.ops [
           ⟨(some 73), none, .bin .add false (.t 62) (.c (.raw (.int .i64 (1))))⟩,
           ⟨(some 62), none, .mv (.t 73)⟩]))))))))
       (.seq (.ops [
         ⟨(some 74), none, .tas (.t 17) 50 (.raw (.pointer none))⟩,
         ⟨(some 75), none, .ext (.t 74) 1⟩,
         ⟨(some 76), none, .ext (.t 74) 0⟩])
       (.cond (.t 75)
        (.seq (.ops [
          ⟨(some 11), none, .mv (.t 76)⟩])
        (.ops [
          ⟨(some 77), none, .mv (.t 11)⟩,
          ⟨(some 78), none, .mv (.t 11)⟩,
          ⟨(some 79), none, .nck (.t 78)⟩,
          ⟨(some 80), none, .load false 1 (.t 79)⟩,
          ⟨(some 81), none, .call 50 [(.t 80)]⟩,
          ⟨(some 82), none, .nck (.t 77)⟩,
          ⟨none, none, .store 1 (.t 82) (.t 81)⟩]))
        (.seq (.ops [
          ⟨(some 83), none, .tas (.t 17) 63 (.raw (.pointer none))⟩,
          ⟨(some 84), none, .ext (.t 83) 1⟩,
          ⟨(some 85), none, .ext (.t 83) 0⟩])
        (.cond (.t 84)
         (.seq (.ops [
           ⟨(some 12), none, .mv (.t 85)⟩])
         (.ops [
           ⟨(some 86), none, .mv (.t 12)⟩,
           ⟨(some 87), none, .mv (.t 12)⟩,
           ⟨(some 88), none, .nck (.t 87)⟩,
           ⟨(some 89), none, .load false 1 (.t 88)⟩,
           ⟨(some 90), none, .call 51 [(.t 89)]⟩,
           ⟨(some 91), none, .nck (.t 86)⟩,
           ⟨none, none, .store 1 (.t 91) (.t 90)⟩]))
         (.seq (.ops [
           ⟨(some 92), none, .tas (.t 17) 66 (.raw (.pointer none))⟩,
           ⟨(some 93), none, .ext (.t 92) 1⟩,
           ⟨(some 94), none, .ext (.t 92) 0⟩])
         (.cond (.t 93)
          (.seq (.ops [
            ⟨(some 13), none, .mv (.t 94)⟩])
          (.ops [
            ⟨(some 95), none, .mv (.t 13)⟩,
            ⟨(some 96), none, .mv (.t 13)⟩,
            ⟨(some 97), none, .nck (.t 96)⟩,
            ⟨(some 98), none, .load false 1 (.t 97)⟩,
            ⟨(some 99), none, .call 52 [(.t 98)]⟩,
            ⟨(some 100), none, .nck (.t 95)⟩,
            ⟨none, none, .store 1 (.t 100) (.t 99)⟩]))
          (.seq (.ops [
            ⟨(some 101), none, .tas (.t 17) 69 (.raw (.pointer none))⟩,
            ⟨(some 102), none, .ext (.t 101) 1⟩,
            ⟨(some 103), none, .ext (.t 101) 0⟩])
          (.cond (.t 102)
           (.seq (.ops [
             ⟨(some 14), none, .mv (.t 103)⟩])
           (.ops [
             ⟨(some 104), none, .mv (.t 14)⟩,
             ⟨(some 105), none, .mv (.t 14)⟩,
             ⟨(some 106), none, .nck (.t 105)⟩,
             ⟨(some 107), none, .load false 1 (.t 106)⟩,
             ⟨(some 108), none, .call 53 [(.t 107)]⟩,
             ⟨(some 109), none, .nck (.t 104)⟩,
             ⟨none, none, .store 1 (.t 109) (.t 108)⟩]))
           (.seq (.ops [
             ⟨(some 110), none, .tas (.t 17) 72 (.raw (.pointer none))⟩,
             ⟨(some 111), none, .ext (.t 110) 1⟩,
             ⟨(some 112), none, .ext (.t 110) 0⟩])
           (.cond (.t 111)
            (.seq (.ops [
              ⟨(some 15), none, .mv (.t 112)⟩])
            (.ops [
              ⟨(some 113), none, .mv (.t 15)⟩,
              ⟨(some 114), none, .mv (.t 15)⟩,
              ⟨(some 115), none, .nck (.t 114)⟩,
              ⟨(some 116), none, .load false 1 (.t 115)⟩,
              ⟨(some 117), none, .call 54 [(.t 116)]⟩,
              ⟨(some 118), none, .nck (.t 113)⟩,
              ⟨none, none, .store 1 (.t 118) (.t 117)⟩]))
            (.seq (.ops [
              ⟨(some 119), none, .tai (.t 17) [] (.raw .nilIface)⟩,
              ⟨(some 120), none, .ext (.t 119) 1⟩,
              ⟨(some 121), none, .ext (.t 119) 0⟩])
            (.cond (.t 120)
             (.seq (.ops [
               ⟨(some 16), none, .mv (.t 121)⟩])
             (.ops [
               ⟨(some 122), none, .mv (.t 16)⟩,
               ⟨(some 123), none, .bad⟩]))
             .skip))))))))))))))))))))))
  (.seq (.ops [
    ⟨(some 124), none, .load false 1 (.t 1)⟩,
    ⟨(some 2), none, .mv (.t 124)⟩])
  .ret)))
def f32 : DFn := ⟨d32, [.tmp 2], 125⟩
theorem h32 : decFn Try.prog 32 = some f32 := by kernel_rfl

def d33 : DCode :=
  (.seq (.ops [
    ⟨(some 4), none, .mv (.c (nilS 1))⟩,
    ⟨(some 5), none, .mv (.c (.raw (.int .i64 (0))))⟩])
  (.seq (.seq (.ops [
    ⟨(some 6), none, .mv (.t 0)⟩,
    ⟨(some 7), none, .call 55 [(.t 6)]⟩,
    ⟨(some 8), none, .un .not (.t 7)⟩,
    ⟨(some 9), none, .mv (.t 8)⟩,
    ⟨(some 10), (some (9, false)), .mv (.t 1)⟩,
    ⟨(some 11), (some (9, false)), .mv (.t 0)⟩,
    ⟨(some 12), (some (9, false)), .bin .sub false (.t 11) (.c (.raw (.int .i64 (1))))⟩,
    ⟨(some 13), (some (9, false)), .call 20 [(.t 10), (.c (.raw (.int .i64 (0)))), (.t 12)]⟩,
    ⟨(some 14), (some (9, false)), .un .not (.t 13)⟩,
    ⟨(some 15), none, .pick (.t 9) (.c (.raw (.bool true))) (.t 14)⟩])
  (.cond (.t 15)
   (.seq (.ops [
     ⟨(some 4), none, .mv (.c (nilS 1))⟩,
     ⟨(some 5), none, .mv (.c (.raw (.int .i64 (2))))⟩])
   .ret)
   .skip))
  (.seq (.ops [
    ⟨(some 16), none, .mv (.t 0)⟩,
    ⟨(some 17), none, .mv (.t 1)⟩,
    ⟨(some 18), none, .call 56 [(.t 16), (.t 17)]⟩,
    ⟨(some 4), none, .mv (.t 18)⟩,
    ⟨(some 5), none, .mv (.c (.raw (.int .i64 (0))))⟩])
  .ret)))
def f33 : DFn := ⟨d33, [.tmp 4, .tmp 5], 19⟩
theorem h33 : decFn Try.prog 33 = some f33 := by kernel_rfl

def d34 : DCode :=
  (.seq (.ops [
    ⟨(some 4), none, .mv (.c (nilS 1))⟩,
    ⟨(some 5), none, .mv (.c (.raw (.int .i64 (0))))⟩])
  (.seq (.seq (.ops [
    ⟨(some 8), none, .mv (.t 0)⟩,
    ⟨(some 9), none, .call 57 [(.t 8)]⟩,
    ⟨(some 10), none, .un .not (.t 9)⟩,
    ⟨(some 11), none, .mv (.t 10)⟩,
    ⟨(some 12), (some (11, false)), .mv (.t 1)⟩,
    ⟨(some 13), (some (11, false)), .mv (.t 0)⟩,
    ⟨(some 14), (some (11, false)), .bin .sub false (.t 13) (.c (.raw (.int .i64 (1))))⟩,
    ⟨(some 15), (some (11, false)), .call 39 [(.t 12), (.c (.raw (.int .i64 (0)))), (.t 14)]⟩,
    ⟨(some 16), (some (11, false)), .un .not (.t 15)⟩,
    ⟨(some 17), none, .pick (.t 11) (.c (.raw (.bool true))) (.t 16)⟩])
  (.cond (.t 17)
   (.seq (.ops [
     ⟨(some 4), none, .mv (.c (nilS 1))⟩,
     ⟨(some 5), none, .mv (.c (.raw (.int .i64 (2))))⟩])
   .ret)
   .skip))
  (.seq (.ops [
    ⟨(some 18), none, .bsl .f 0 []⟩,
    ⟨(some 6), none, .mv (.t 18)⟩])
  (.seq (.seq (.ops [
    ⟨(some 19), none, .mv (.t 0)⟩,
    ⟨(some 20), none, .mv (.c (.raw (.int .i64 (0))))⟩])
  (.block 0
   (.loop
    (.seq (.ops [
      ⟨(some 21), none, .bin .lss false (.t 20) (.t 19)⟩])
    (.seq (.cond (.t 21)
     .skip
     (.exit 0))
    (.seq (.block 1
     (.seq (.ops [
       ⟨(some 22), none, .mv (.t 20)⟩,
       ⟨(some 7), none, .mv (.t 22)⟩])
     (.ops [
       ⟨(some 23), none, .mv (.t 6)⟩,
       ⟨(some 24), none, .mv (.t 1)⟩,
       ⟨(some 25), none, .mv (.t 7)⟩,
       ⟨(some 26), none, .call 58 [(.t 24), (.t 25)]⟩,
       ⟨(some 27), none, .bsl .f 1 [(0, (.t 26))]⟩,
       ⟨(some 28), none, .app .f (.t 23) (.t 27)⟩,
       ⟨(some 6), none, .mv (.t 28)⟩])))
    (.ops [
      ⟨(some 29), none, .bin .add false (.t 20) (.c (.raw (.int .i64 (1))))⟩,
      ⟨(some 20), none, .mv (.t 29)⟩])))))))
  (.seq (.ops [
    ⟨(some 30), none, .mv (.t 6)⟩,
    ⟨(some 4), none, .mv (.t 30)⟩,
    ⟨(some 5), none, .mv (.c (.raw (.int .i64 (0))))⟩])
  .ret)))))
def f34 : DFn := ⟨d34, [.tmp 4, .tmp 5], 31⟩
theorem h34 : decFn Try.prog 34 = some f34 := by kernel_rfl

def d35 : DCode :=
  (.seq (.ops [
    ⟨(some 2), none, .mv (.c (nilS 1))⟩,
    ⟨(some 3), none, .mv (.c (.raw (.int .i64 (0))))⟩])
  (.seq (.seq (.ops [
    ⟨(some 4), none, .mv (.c (.raw (.int .i64 (0))))⟩])
  (.block 0
   (.loop
    (.seq (.seq (.ops [
      ⟨(some 9), none, .mv (.t 4)⟩,
      ⟨(some 10), none, .mv (.t 0)⟩,
      ⟨(some 11), none, .len (.t 10)⟩,
      ⟨(some 12), none, .bin .lss false (.t 9) (.t 11)⟩])
    (.cond (.t 12)
     .skip
     (.exit 0)))
    (.seq (.block 1
     (.seq (.ops [
       ⟨(some 15), none, .mv (.t 0)⟩,
       ⟨(some 16), none, .mv (.t 4)⟩,
       ⟨(some 17), none, .ias 1 (.t 15) (.t 16)⟩,
       ⟨(some 18), none, .load false 1 (.t 17)⟩,
       ⟨(some 19), none, .call 37 [(.t 18)]⟩,
       ⟨(some 20), none, .un .not (.t 19)⟩])
     (.cond (.t 20)
      (.seq (.ops [
        ⟨(some 2), none, .mv (.c (nilS 1))⟩,
        ⟨(some 3), none, .mv (.c (.raw (.int .i64 (1))))⟩])
      .ret)
      .skip)))
    (.ops [
      ⟨(some 13), none, .mv (.t 4)⟩,
      ⟨(some 14), none, .bin .add false (.t 13) (.c (.raw (.int .i64 (1))))⟩,
      ⟨(some 4), none, .mv (.t 14)⟩]))))))
  (.seq (.seq (.ops [
    ⟨(some 21), none, .mv (.t 0)⟩,
    ⟨(some 22), none, .len (.t 21)⟩,
    ⟨(some 23), none, .bin .lss false (.t 22) (.c (.raw (.int .i64 (1))))⟩,
    ⟨(some 24), none, .mv (.t 23)⟩,
    ⟨(some 25), (some (24, false)), .mv (.t 0)⟩,
    ⟨(some 26), (some (24, false)), .len (.t 25)⟩,
    ⟨(some 27), (some (24, false)), .bin .gtr false (.t 26) (.c (.raw (.int .i64 (16))))⟩,
    ⟨(some 28), none, .pick (.t 24) (.c (.raw (.bool true))) (.t 27)⟩])
  (.cond (.t 28)
   (.seq (.ops [
     ⟨(some 2), none, .mv (.c (nilS 1))⟩,
     ⟨(some 3), none, .mv (.c (.raw (.int .i64 (2))))⟩])
   .ret)
   .skip))
  (.seq (.ops [
    ⟨(some 5), none, .mv (.c (.flt .f32 0))⟩])
  (.seq (.seq (.ops [
    ⟨(some 6), none, .mv (.c (.raw (.int .i64 (0))))⟩])
  (.block 2
   (.loop
    (.seq (.seq (.ops [
      ⟨(some 29), none, .mv (.t 6)⟩,
      ⟨(some 30), none, .mv (.t 0)⟩,
      ⟨(some 31), none, .len (.t 30)⟩,
      ⟨(some 32), none, .bin .lss false (.t 29) (.t 31)⟩])
    (.cond (.t 32)
     .skip
     (.exit 2)))
    (.seq (.block 3
     (.seq (.seq (.ops [
       ⟨(some 35), none, .mv (.t 0)⟩,
       ⟨(some 36), none, .mv (.t 6)⟩,
       ⟨(some 37), none, .ias 1 (.t 35) (.t 36)⟩,
       ⟨(some 38), none, .load false 1 (.t 37)⟩,
       ⟨(some 39), none, .bin .lss false (.t 38) (.c (.flt .f32 0))⟩])
     (.cond (.t 39)
      (.seq (.ops [
        ⟨(some 2), none, .mv (.c (nilS 1))⟩,
        ⟨(some 3), none, .mv (.c (.raw (.int .i64 (2))))⟩])
      .ret)
      .skip))
     (.ops [
       ⟨(some 40), none, .mv (.t 5)⟩,
       ⟨(some 41), none, .mv (.t 0)⟩,
       ⟨(some 42), none, .mv (.t 6)⟩,
       ⟨(some 43), none, .ias 1 (.t 41) (.t 42)⟩,
       ⟨(some 44), none, .load false 1 (.t 43)⟩,
       ⟨(some 45), none, .bin .add false (.t 40) (.t 44)⟩,
       ⟨(some 5), none, .mv (.t 45)⟩])))
    (.ops [
      ⟨(some 33), none, .mv (.t 6)⟩,
      ⟨(some 34), none, .bin .add false (.t 33) (.c (.raw (.int .i64 (1))))⟩,
      ⟨(some 6), none, .mv (.t 34)⟩]))))))
  (.seq (.block 4
   (.seq (.ops [
     ⟨(some 47), none, .mv (.t 5)⟩,
     ⟨(some 48), none, .call 37 [(.t 47)]⟩,
     ⟨(some 49), none, .un .not (.t 48)⟩,
     ⟨(some 46), none, .mv (.t 49)⟩])
   (.cond (.t 46)
    (.seq (.ops [
      ⟨(some 2), none, .mv (.c (nilS 1))⟩,
      ⟨(some 3), none, .mv (.c (.raw (.int .i64 (3))))⟩])
    .ret)
    (.seq (.ops [
      ⟨(some 51), none, .mv (.t 5)⟩,
      ⟨(some 52), none, .bin .eql false (.t 51) (.c (.flt .f32 0))⟩,
      ⟨(some 50), none, .mv (.t 52)⟩])
    (.cond (.t 50)
     (.seq (.ops [
       ⟨(some 2), none, .mv (.c (nilS 1))⟩,
       ⟨(some 3), none, .mv (.c (.raw (.int .i64 (5))))⟩])
     .ret)
     .skip)))))
  (.seq (.ops [
    ⟨(some 53), none, .bsl .f 0 []⟩,
    ⟨(some 7), none, .mv (.t 53)⟩])
  (.seq (.seq (.ops [
    ⟨(some 8), none, .mv (.c (.raw (.int .i64 (0))))⟩])
  (.block 5
   (.loop
    (.seq (.seq (.ops [
      ⟨(some 54), none, .mv (.t 8)⟩,
      ⟨(some 55), none, .mv (.t 0)⟩,
      ⟨(some 56), none, .len (.t 55)⟩,
      ⟨(some 57), none, .bin .lss false (.t 54) (.t 56)⟩])
    (.cond (.t 57)
     .skip
     (.exit 5)))
    (.seq (.block 6
     (.ops [
       ⟨(some 60), none, .mv (.t 7)⟩,
       ⟨(some 61), none, .mv (.t 0)⟩,
       ⟨(some 62), none, .mv (.t 8)⟩,
       ⟨(some 63), none, .ias 1 (.t 61) (.t 62)⟩,
       ⟨(some 64), none, .load false 1 (.t 63)⟩,
       ⟨(some 65), none, .mv (.t 5)⟩,
       ⟨(some 66), none, .bin .quo false (.t 64) (.t 65)⟩,
       ⟨(some 67), none, .bsl .f 1 [(0, (.t 66))]⟩,
       ⟨(some 68), none, .app .f (.t 60) (.t 67)⟩,
       ⟨(some 7), none, .mv (.t 68)⟩]))
    (.ops [
      ⟨(some 58), none, .mv (.t 8)⟩,
      ⟨(some 59), none, .bin .add false (.t 58) (.c (.raw (.int .i64 (1))))⟩,
      ⟨(some 8), none, .mv (.t 59)⟩]))))))
  (.seq (.ops [
    ⟨(some 69), none, .mv (.t 7)⟩,
    ⟨(some 2), none, .mv (.t 69)⟩,
    ⟨(some 3), none, .mv (.c (.raw (.int .i64 (0))))⟩])
  .ret)))))))))
def f35 : DFn := ⟨d35, [.tmp 2, .tmp 3], 70⟩
theorem h35 : decFn Try.prog 35 = some f35 := by kernel_rfl

def d36 : DCode :=
  (.seq (.ops [
    ⟨(some 2), none, .mv (.c (nilS 1))⟩,
    ⟨(some 3), none, .mv (.c (.raw (.int .i64 (0))))⟩])
  (.seq (.ops [
    ⟨(some 8), none, .mv (.t 0)⟩,
    ⟨(some 9), none, .call 59 [(.t 8)]⟩,
    ⟨(some 4), none, .mv (.t 9)⟩])
  (.seq (.block 0
   (.seq (.ops [
     ⟨(some 11), none, .mv (.t 0)⟩,
     ⟨(some 12), none, .call 38 [(.t 11)]⟩,
     ⟨(some 13), none, .un .not (.t 12)⟩,
     ⟨(some 10), none, .mv (.t 13)⟩])
   (.cond (.t 10)
    (.seq (.ops [
      ⟨(some 2), none, .mv (.c (nilS 1))⟩,
      ⟨(some 3), none, .mv (.c (.raw (.int .i64 (1))))⟩])
    .ret)
    (.seq (.ops [
      ⟨(some 15), none, .mv (.t 0)⟩,
      ⟨(some 16), none, .len (.t 15)⟩,
      ⟨(some 17), none, .call 39 [(.t 16), (.c (.raw (.int .i64 (1)))), (.c (.raw (.int .i64 (16))))]⟩,
      ⟨(some 18), none, .un .not (.t 17)⟩,
      ⟨(some 19), none, .mv (.t 18)⟩,
      ⟨(some 20), (some (19, false)), .mv (.t 0)⟩,
      ⟨(some 21), (some (19, false)), .call 60 [(.t 20)]⟩,
      ⟨(some 22), none, .pick (.t 19) (.c (.raw (.bool true))) (.t 21)⟩,
      ⟨(some 14), none, .mv (.t 22)⟩])
    (.cond (.t 14)
     (.seq (.ops [
       ⟨(some 2), none, .mv (.c (nilS 1))⟩,
       ⟨(some 3), none, .mv (.c (.raw (.int .i64 (2))))⟩])
     .ret)
     (.seq (.ops [
       ⟨(some 24), none, .mv (.t 4)⟩,
       ⟨(some 25), none, .bin .eql false (.t 24) (.c (.flt .f32 0))⟩,
       ⟨(some 23), none, .mv (.t 25)⟩])
     (.cond (.t 23)
      (.seq (.ops [
        ⟨(some 2), none, .mv (.c (nilS 1))⟩,
        ⟨(some 3), none, .mv (.c (.raw (.int .i64 (5))))⟩])
      .ret)
      (.seq (.ops [
        ⟨(some 27), none, .mv (.t 4)⟩,
        ⟨(some 28), none, .call 61 [(.t 27)]⟩,
        ⟨(some 29), none, .un .not (.t 28)⟩,
        ⟨(some 26), none, .mv (.t 29)⟩])
      (.cond (.t 26)
       (.seq (.ops [
         ⟨(some 2), none, .mv (.c (nilS 1))⟩,
         ⟨(some 3), none, .mv (.c (.raw (.int .i64 (3))))⟩])
       .ret)
       .skip)))))))))
  (.seq (.ops [
    ⟨(some 30), none, .bsl .f 0 []⟩,
    ⟨(some 5), none, .mv (.t 30)⟩])
  (.seq (.seq (.ops [
    ⟨(some 31), none, .mv (.t 0)⟩,
    ⟨(some 32), none, .len (.t 31)⟩,
    ⟨(some 33), none, .mv (.c (.raw (.int .i64 (0))))⟩])
  (.block 1
   (.loop
    (.seq (.ops [
      ⟨(some 34), none, .bin .lss false (.t 33) (.t 32)⟩])
    (.seq (.cond (.t 34)
     .skip
     (.exit 1))
    (.seq (.block 2
     (.seq (.ops [
       ⟨(some 35), none, .ias 1 (.t 31) (.t 33)⟩,
       ⟨(some 36), none, .load false 1 (.t 35)⟩,
       ⟨(some 7), none, .mv (.t 36)⟩])
     (.ops [
       ⟨(some 37), none, .mv (.t 5)⟩,
       ⟨(some 38), none, .mv (.t 7)⟩,
       ⟨(some 39), none, .mv (.t 4)⟩,
       ⟨(some 40), none, .bin .quo false (.t 38) (.t 39)⟩,
       ⟨(some 41), none, .bsl .f 1 [(0, (.t 40))]⟩,
       ⟨(some 42), none, .app .f (.t 37) (.t 41)⟩,
       ⟨(some 5), none, .mv (.t 42)⟩])))
    (.ops [
      ⟨(some 43), none, .bin .add false (.t 33) (.c (.raw (.int .i64 (1))))⟩,
      ⟨(some 33), none, .mv (.t 43)⟩])))))))
  (.seq (.ops [
    ⟨(some 44), none, .mv (.t 5)⟩,
    ⟨(some 2), none, .mv (.t 44)⟩,
    ⟨(some 3), none, .mv (.c (.raw (.int .i64 (0))))⟩])
  .ret))))))
def f36 : DFn := ⟨d36, [.tmp 2, .tmp 3], 45⟩
theorem h36 : decFn Try.prog 36 = some f36 := by kernel_rfl

def d37 : DCode :=
  (.seq (.ops [
    ⟨(some 2), none, .mv (.c (.raw (.bool false)))⟩])
  (.seq (.ops [
    ⟨(some 3), none, .mv (.t 0)⟩,
    ⟨(some 4), none, .mv (.t 0)⟩,
    ⟨(some 5), none, .bin .sub false (.t 3) (.t 4)⟩,
    ⟨(some 6), none, .bin .eql false (.t 5) (.c (.flt .f32 0))⟩,
    ⟨(some 2), none, .mv (.t 6)⟩])
  .ret))
def f37 : DFn := ⟨d37, [.tmp 2], 7⟩
theorem h37 : decFn Try.prog 37 = some f37 := by kernel_rfl

def d38 : DCode :=
  (.seq (.ops [
    ⟨(some 2), none, .mv (.c (.raw (.bool false)))⟩])
  (.seq (.ops [
    ⟨(some 3), none, .mv (.t 0)⟩,
    ⟨(some 4), none, .call 24 [(.t 3), (.c (.fn 62 []))]⟩,
    ⟨(some 5), none, .un .not (.t 4)⟩,
    ⟨(some 2), none, .mv (.t 5)⟩])
  .ret))
def f38 : DFn := ⟨d38, [.tmp 2], 6⟩
theorem h38 : decFn Try.prog 38 = some f38 := by kernel_rfl

def d39 : DCode :=
  (.seq (.ops [
    ⟨(some 6), none, .mv (.c (.raw (.bool false)))⟩])
  (.seq (.ops [
    ⟨(some 7), none, .mv (.t 0)⟩,
    ⟨(some 8), none, .mv (.t 1)⟩,
    ⟨(some 9), none, .bin .geq false (.t 7) (.t 8)⟩,
    ⟨(some 10), none, .mv (.t 9)⟩,
    ⟨(some 11), (some (10, true)), .mv (.t 0)⟩,
    ⟨(some 12), (some (10, true)), .mv (.t 2)⟩,
    ⟨(some 13), (some (10, true)), .bin .leq false (.t 11) (.t 12)⟩,
    ⟨(some 14), none, .pick (.t 10) (.t 13) (.c (.raw (.bool false)))⟩,
    ⟨(some 6), none, .mv (.t 14)⟩])
  .ret))
def f39 : DFn := ⟨d39, [.tmp 6], 15⟩
theorem h39 : decFn Try.prog 39 = some f39 := by kernel_rfl

def d40 : DCode :=
  (.seq (.ops [
    ⟨(some 4), none, .mv (.c (.raw (.int .i64 (0))))⟩])
  (.seq (.seq (.ops [
    ⟨(some 6), none, .mv (.t 0)⟩,
    ⟨(some 7), none, .len (.t 6)⟩,
    ⟨(some 8), none, .mv (.c (.raw (.int .i64 (0))))⟩])
  (.block 0
   (.loop
    (.seq (.ops [
      ⟨(some 9), none, .bin .lss false (.t 8) (.t 7)⟩])
    (.seq (.cond (.t 9)
     .skip
     (.exit 0))
    (.seq (.block 1
     (.seq (.ops [
       ⟨(some 10), none, .mv (.t 8)⟩,
       ⟨(some 5), none, .mv (.t 10)⟩])
     (.seq (.ops [
       ⟨(some 11), none, .mv (.t 1)⟩,
       ⟨(some 12), none, .mv (.t 0)⟩,
       ⟨(some 13), none, .mv (.t 5)⟩,
       ⟨(some 14), none, .ias 1 (.t 12) (.t 13)⟩,
       ⟨(some 15), none, .load false 1 (.t 14)⟩,
       ⟨(some 16), none, .callv (.t 11) [(.t 15)]⟩])
     (.cond (.t 16)
      (.seq (.ops [
        ⟨(some 17), none, .mv (.t 5)⟩,
        ⟨(some 4), none, .mv (.t 17)⟩])
      .ret)
      .skip))))
    (.ops [
      ⟨(some 18), none, .bin .add false (.t 8) (.c (.raw (.int .i64 (1))))⟩,
      ⟨(some 8), none, .mv (.t 18)⟩])))))))
  (.seq (.ops [
    ⟨(some 4), none, .mv (.c (.raw (.int .i64 (-1))))⟩])
  .ret)))
def f40 : DFn := ⟨d40, [.tmp 4], 19⟩
theorem h40 : decFn Try.prog 40 = some f40 := by kernel_rfl

def d41 : DCode :=
  (.seq (.ops [
    ⟨(some 4), none, .mv (.c (nilS 1))⟩])
  (.seq (.ops [
    ⟨(some 10), none, .bsl .f 0 []⟩,
    ⟨(some 5), none, .mv (.t 10)⟩])
  (.seq (.seq (.ops [
    ⟨(some 11), none, .mv (.t 0)⟩,
    ⟨(some 12), none, .len (.t 11)⟩,
    ⟨(some 13), none, .mv (.c (.raw (.int .i64 (0))))⟩])
  (.block 0
   (.loop
    (.seq (.ops [
      ⟨(some 14), none, .bin .lss false (.t 13) (.t 12)⟩])
    (.seq (.cond (.t 14)
     .skip
     (.exit 0))
    (.seq (.block 1
     (.seq (.ops [
       ⟨(some 15), none, .mv (.t 13)⟩,
       ⟨(some 6), none, .mv (.t 15)⟩])
     (.seq (.ops [
       ⟨(some 7), none, .mv (.c (.flt .f32 0))⟩])
     (.seq (.seq (.ops [
       ⟨(some 16), none, .mv (.t 0)⟩,
       ⟨(some 17), none, .len (.t 16)⟩,
       ⟨(some 18), none, .mv (.c (.raw (.int .i64 (0))))⟩])
     (.block 2
      (.loop
       (.seq (.ops [
         ⟨(some 19), none, .bin .lss false (.t 18) (.t 17)⟩])
       (.seq (.cond (.t 19)
        .skip
        (.exit 2))
       (.seq (.block 3
        (.seq (.ops [
          ⟨(some 20), none, .mv (.t 18)⟩,
          ⟨(some 21), none, .ias 1 (.t 16) (.t 18)⟩,
          ⟨(some 22), none, .load false 1 (.t 21)⟩,
          ⟨(some 8), none, .mv (.t 20)⟩,
          ⟨(some 9), none, .mv (.t 22)⟩])
        (.ops [
          ⟨(some 23), none, .mv (.t 7)⟩,
          ⟨(some 24), none, .mv (.t 9)⟩,
          ⟨(some 25), none, .mv (.t 1)⟩,
          ⟨(some 26), none, .mv (.t 8)⟩,
          ⟨(some 27), none, .mv (.t 6)⟩,
          ⟨(some 28), none, .callv (.t 25) [(.t 26), (.t 27)]⟩,
          ⟨(some 29), none, .bin .mul false (.t 24) (.t 28)⟩,
          ⟨(some 30), none, .bin .add false (.t 23) (.t 29)⟩,
          ⟨(some 7), none, .mv (.t 30)⟩])))
       (.ops [
         ⟨(some 31), none, .bin .add false (.t 18) (.c (.raw (.int .i64 (1))))⟩,
         ⟨(some 18), none, .mv (.t 31)⟩])))))))
     (.ops [
       ⟨(some 32), none, .mv (.t 5)⟩,
       ⟨(some 33), none, .mv (.t 7)⟩,
       ⟨(some 34), none, .bsl .f 1 [(0, (.t 33))]⟩,
       ⟨(some 35), none, .app .f (.t 32) (.t 34)⟩,
       ⟨(some 5), none, .mv (.t 35)⟩])))))
    (.ops [
      ⟨(some 36), none, .bin .add false (.t 13) (.c (.raw (.int .i64 (1))))⟩,
      ⟨(some 13), none, .mv (.t 36)⟩])))))))
  (.seq (.ops [
    ⟨(some 37), none, .mv (.t 5)⟩,
    ⟨(some 4), none, .mv (.t 37)⟩])
  .ret))))
def f41 : DFn := ⟨d41, [.tmp 4], 38⟩
theorem h41 : decFn Try.prog 41 = some f41 := by kernel_rfl

def d42 : DCode :=
  (.seq (.ops [
    ⟨(some 5), none, .mv (.c (.flt .f32 0))⟩])
  (.seq (.drw [
    ⟨(some 6), none, .load false 1 (.t 2)⟩,
    ⟨(some 7), none, .mv (.t 0)⟩,
    ⟨(some 8), none, .mv (.t 1)⟩,
    ⟨(some 9), none, .bin .add false (.t 7) (.t 8)⟩,
    ⟨(some 10), none, .load false 1 (.t 2)⟩,
    ⟨(some 11), none, .len (.t 10)⟩,
    ⟨(some 12), none, .bin .rem false (.t 9) (.t 11)⟩,
    ⟨(some 13), none, .ias 1 (.t 6) (.t 12)⟩,
    ⟨(some 14), none, .load false 1 (.t 13)⟩,
    ⟨(some 5), none, .mv (.t 14)⟩] [
    ])
  .ret))
def f42 : DFn := ⟨d42, [.tmp 5], 15⟩
theorem h42 : decFn Try.prog 42 = some f42 := by kernel_rfl

def d43 : DCode :=
  (.seq (.ops [
    ⟨(some 2), none, .mv (.c (.raw (.bool false)))⟩])
  (.seq (.ops [
    ⟨(some 3), none, .mv (.t 0)⟩,
    ⟨(some 4), none, .bin .eql false (.t 3) (.c (.raw (.int .i64 (3))))⟩,
    ⟨(some 5), none, .mv (.t 4)⟩,
    ⟨(some 6), (some (5, false)), .mv (.t 0)⟩,
    ⟨(some 7), (some (5, false)), .bin .eql false (.t 6) (.c (.raw (.int .i64 (7))))⟩,
    ⟨(some 8), none, .pick (.t 5) (.c (.raw (.bool true))) (.t 7)⟩,
    ⟨(some 9), none, .mv (.t 8)⟩,
    ⟨(some 10), (some (9, false)), .mv (.t 0)⟩,
    ⟨(some 11), (some (9, false)), .bin .eql false (.t 10) (.c (.raw (.int .i64 (11))))⟩,
    ⟨(some 12), none, .pick (.t 9) (.c (.raw (.bool true))) (.t 11)⟩,
    ⟨(some 13), none, .mv (.t 12)⟩,
    ⟨(some 14), (some (13, false)), .mv (.t 0)⟩,
    ⟨(some 15), (some (13, false)), .bin .eql false (.t 14) (.c (.raw (.int .i64 (19))))⟩,
    ⟨(some 16), none, .pick (.t 13) (.c (.raw (.bool true))) (.t 15)⟩,
    ⟨(some 17), none, .mv (.t 16)⟩,
    ⟨(some 18), (some (17, false)), .mv (.t 0)⟩,
    ⟨(some 19), (some (17, false)), .bin .eql false (.t 18) (.c (.raw (.int .i64 (23))))⟩,
    ⟨(some 20), none, .pick (.t 17) (.c (.raw (.bool true))) (.t 19)⟩,
    ⟨(some 21), none, .mv (.t 20)⟩,
    ⟨(some 22), (some (21, false)), .mv (.t 0)⟩,
    ⟨(some 23), (some (21, false)), .bin .eql false (.t 22) (.c (.raw (.int .i64 (31))))⟩,
    ⟨(some 24), none, .pick (.t 21) (.c (.raw (.bool true))) (.t 23)⟩,
    ⟨(some 2), none, .mv (.t 24)⟩])
  .ret))
def f43 : DFn := ⟨d43, [.tmp 2], 25⟩
theorem h43 : decFn Try.prog 43 = some f43 := by kernel_rfl

def d44 : DCode :=
  (.seq (.ops [
    ⟨(some 2), none, .mv (.c (nilS 1))⟩])
  (.seq (.ops [
    ⟨(some 7), none, .bsl .f 0 []⟩,
    ⟨(some 3), none, .mv (.t 7)⟩])
  (.seq (.seq (.ops [
    ⟨(some 4), none, .mv (.c (.raw (.int .i64 (0))))⟩])
  (.block 0
   (.loop
    (.seq (.seq (.ops [
      ⟨(some 8), none, .mv (.t 4)⟩,
      ⟨(some 9), none, .mv (.t 0)⟩,
      ⟨(some 10), none, .bin .lss false (.t 8) (.t 9)⟩])
    (.cond (.t 10)
     .skip
     (.exit 0)))
    (.seq (.block 1
     (.seq (.ops [
       ⟨(some 5), none, .mv (.c (.flt .f32 3212836864))⟩])
     (.seq (.seq (.ops [
       ⟨(some 6), none, .mv (.c (.raw (.int .i64 (0))))⟩])
     (.block 2
      (.loop
       (.seq (.seq (.ops [
         ⟨(some 13), none, .mv (.t 6)⟩,
         ⟨(some 14), none, .mv (.t 0)⟩,
         ⟨(some 15), none, .bin .lss false (.t 13) (.t 14)⟩])
       (.cond (.t 15)
        .skip
        (.exit 2)))
       (.seq (.block 3
        (.seq (.ops [
          ⟨(some 18), none, .mv (.t 6)⟩,
          ⟨(some 19), none, .mv (.t 6)⟩,
          ⟨(some 20), none, .bin .mul false (.t 18) (.t 19)⟩,
          ⟨(some 21), none, .mv (.t 0)⟩,
          ⟨(some 22), none, .bin .rem false (.t 20) (.t 21)⟩,
          ⟨(some 23), none, .mv (.t 4)⟩,
          ⟨(some 24), none, .bin .eql false (.t 22) (.t 23)⟩])
        (.cond (.t 24)
         (.ops [
           ⟨(some 5), none, .mv (.c (.flt .f32 1065353216))⟩])
         .skip)))
       (.ops [
         ⟨(some 16), none, .mv (.t 6)⟩,
         ⟨(some 17), none, .bin .add false (.t 16) (.c (.raw (.int .i64 (1))))⟩,
         ⟨(some 6), none, .mv (.t 17)⟩]))))))
     (.ops [
       ⟨(some 25), none, .mv (.t 3)⟩,
       ⟨(some 26), none, .mv (.t 5)⟩,
       ⟨(some 27), none, .bsl .f 1 [(0, (.t 26))]⟩,
       ⟨(some 28), none, .app .f (.t 25) (.t 27)⟩,
       ⟨(some 3), none, .mv (.t 28)⟩]))))
    (.ops [
      ⟨(some 11), none, .mv (.t 4)⟩,
      ⟨(some 12), none, .bin .add false (.t 11) (.c (.raw (.int .i64 (1))))⟩,
      ⟨(some 4), none, .mv (.t 12)⟩]))))))
  (.seq (.ops [
    ⟨(some 29), none, .mv (.t 3)⟩,
    ⟨(some 2), none, .mv (.t 29)⟩])
  .ret))))
def f44 : DFn := ⟨d44, [.tmp 2], 30⟩
theorem h44 : decFn Try.prog 44 = some f44 := by kernel_rfl

def d45 : DCode :=
  (.seq (.ops [
    ⟨(some 2), none, .mv (.c (.flt .f32 0))⟩])
  (.seq (.seq (.ops [
    ⟨(some 3), none, .mv (.t 0)⟩,
    ⟨(some 4), none, .bin .eql false (.t 3) (.c (.flt .f32 0))⟩])
  (.cond (.t 4)
   (.seq (.ops [
     ⟨(some 2), none, .mv (.c (.flt .f32 0))⟩])
   .ret)
   .skip))
  (.seq (.ops [
    ⟨(some 5), none, .mv (.t 0)⟩,
    ⟨(some 2), none, .mv (.t 5)⟩])
  .ret)))
def f45 : DFn := ⟨d45, [.tmp 2], 6⟩
theorem h45 : decFn Try.prog 45 = some f45 := by kernel_rfl

def d46 : DCode :=
  (.seq (.ops [
    ⟨(some 2), none, .mv (.c (.raw (.bool false)))⟩])
  (.seq (.ops [
    ⟨(some 3), none, .bsl .i 6 [(0, (.c (.raw (.int .i64 (3))))), (1, (.c (.raw (.int .i64 (7))))), (2, (.c (.raw (.int .i64 (11))))), (3, (.c (.raw (.int .i64 (19))))), (4, (.c (.raw (.int .i64 (23))))), (5, (.c (.raw (.int .i64 (31)))))]⟩,
    ⟨(some 4), none, .mv (.t 0)⟩,
    ⟨(some 5), none, .call 63 [(.t 3), (.t 4)]⟩,
    ⟨(some 2), none, .mv (.t 5)⟩])
  .ret))
def f46 : DFn := ⟨d46, [.tmp 2], 6⟩
theorem h46 : decFn Try.prog 46 = some f46 := by kernel_rfl

def d47 : DCode :=
  (.seq (.ops [
    ⟨(some 2), none, .mv (.c (nilS 1))⟩])
  (.seq (.ops [
    ⟨(some 6), none, .mv (.t 0)⟩,
    ⟨(some 7), none, .mks .f (.t 6) (.t 6)⟩,
    ⟨(some 3), none, .mv (.t 7)⟩])
  (.seq (.seq (.ops [
    ⟨(some 8), none, .mv (.t 3)⟩,
    ⟨(some 9), none, .len (.t 8)⟩,
    ⟨(some 10), none, .mv (.c (.raw (.int .i64 (0))))⟩])
  (.block 0
   (.loop
    (.seq (.ops [
      ⟨(some 11), none, .bin .lss false (.t 10) (.t 9)⟩])
    (.seq (.cond (.t 11)
     .skip
     (.exit 0))
    (.seq (.block 1
     (.seq (.ops [
       ⟨(some 12), none, .mv (.t 10)⟩,
       ⟨(some 4), none, .mv (.t 12)⟩])
     (.ops [
       ⟨(some 13), none, .mv (.t 3)⟩,
       ⟨(some 14), none, .mv (.t 4)⟩,
       ⟨(some 15), none, .ias 1 (.t 13) (.t 14)⟩,
       ⟨none, none, .store 1 (.t 15) (.c (.flt .f32 3212836864))⟩])))
    (.ops [
      ⟨(some 16), none, .bin .add false (.t 10) (.c (.raw (.int .i64 (1))))⟩,
      ⟨(some 10), none, .mv (.t 16)⟩])))))))
  (.seq (.seq (.ops [
    ⟨(some 17), none, .mv (.t 0)⟩,
    ⟨(some 18), none, .mv (.c (.raw (.int .i64 (0))))⟩])
  (.block 2
   (.loop
    (.seq (.ops [
      ⟨(some 19), none, .bin .lss false (.t 18) (.t 17)⟩])
    (.seq (.cond (.t 19)
     .skip
     (.exit 2))
    (.seq (.block 3
     (.seq (.ops [
       ⟨(some 20), none, .mv (.t 18)⟩,
       ⟨(some 5), none, .mv (.t 20)⟩])
     (.ops [
       ⟨(some 21), none, .mv (.t 3)⟩,
       ⟨(some 22), none, .mv (.t 5)⟩,
       ⟨(some 23), none, .mv (.t 5)⟩,
       ⟨(some 24), none, .bin .mul false (.t 22) (.t 23)⟩,
       ⟨(some 25), none, .mv (.t 0)⟩,
       ⟨(some 26), none, .bin .rem false (.t 24) (.t 25)⟩,
       ⟨(some 27), none, .ias 1 (.t 21) (.t 26)⟩,
       ⟨none, none, .store 1 (.t 27) (.c (.flt .f32 1065353216))⟩])))
    (.ops [
      ⟨(some 28), none, .bin .add false (.t 18) (.c (.raw (.int .i64 (1))))⟩,
      ⟨(some 18), none, .mv (.t 28)⟩])))))))
  (.seq (.ops [
    ⟨(some 29), none, .mv (.t 3)⟩,
    ⟨(some 2), none, .mv (.t 29)⟩])
  .ret)))))
def f47 : DFn := ⟨d47, [.tmp 2], 30⟩
theorem h47 : decFn Try.prog 47 = some f47 := by kernel_rfl

def d48 : DCode :=
  (.seq (.ops [
    ⟨(some 2), none, .mv (.c (.flt .f32 0))⟩])
  (.seq (.seq (.ops [
    ⟨(some 3), none, .mv (.t 0)⟩,
    ⟨(some 4), none, .bin .eql false (.t 3) (.c (.flt .f32 0))⟩])
  (.cond (.t 4)
   (.seq (.ops [
     ⟨(some 2), none, .mv (.c (.flt .f32 0))⟩])
   .ret)
   .skip))
  (.seq (.ops [
    ⟨(some 5), none, .mv (.t 0)⟩,
    ⟨(some 2), none, .mv (.t 5)⟩])
  .ret)))
def f48 : DFn := ⟨d48, [.tmp 2], 6⟩
theorem h48 : decFn Try.prog 48 = some f48 := by kernel_rfl

def d49 : DCode :=
  (.seq (.ops [
    ⟨(some 2), none, .mv (.c (.cpx .f32 0 0))⟩])
  (.seq (.ops [
    ⟨(some 3), none, .mv (.t 0)⟩,
    ⟨(some 4), none, .re (.t 3)⟩,
    ⟨(some 5), none, .call 48 [(.t 4)]⟩,
    ⟨(some 6), none, .mv (.t 0)⟩,
    ⟨(some 7), none, .im (.t 6)⟩,
    ⟨(some 8), none, .call 48 [(.t 7)]⟩,
    ⟨(some 9), none, .mkc (.t 5) (.t 8)⟩,
    ⟨(some 2), none, .mv (.t 9)⟩])
  .ret))
def f49 : DFn := ⟨d49, [.tmp 2], 10⟩
theorem h49 : decFn Try.prog 49 = some f49 := by kernel_rfl

def d50 : DCode :=
  (.seq (.ops [
    ⟨(some 2), none, .mv (.c (nilS 1))⟩])
  (.seq (.seq (.ops [
    ⟨(some 5), none, .mv (.t 0)⟩,
    ⟨(some 6), none, .len (.t 5)⟩,
    ⟨(some 7), none, .mv (.c (.raw (.int .i64 (0))))⟩])
  (.block 0
   (.loop
    (.seq (.ops [
      ⟨(some 8), none, .bin .lss false (.t 7) (.t 6)⟩])
    (.seq (.cond (.t 8)
     .skip
     (.exit 0))
    (.seq (.block 1
     (.seq (.ops [
       ⟨(some 9), none, .mv (.t 7)⟩,
       ⟨(some 10), none, .ias 1 (.t 5) (.t 7)⟩,
       ⟨(some 11), none, .load false 1 (.t 10)⟩,
       ⟨(some 3), none, .mv (.t 9)⟩,
       ⟨(some 4), none, .mv (.t 11)⟩])
     (.ops [
       ⟨(some 12), none, .mv (.t 0)⟩,
       ⟨(some 13), none, .mv (.t 3)⟩,
       ⟨(some 14), none, .mv (.t 4)⟩,
       ⟨(some 15), none, .call 64 [(.t 14)]⟩,
       ⟨(some 16), none, .ias 1 (.t 12) (.t 13)⟩,
       ⟨none, none, .store 1 (.t 16) (.t 15)⟩])))
    (.ops [
      ⟨(some 17), none, .bin .add false (.t 7) (.c (.raw (.int .i64 (1))))⟩,
      ⟨(some 7), none, .mv (.t 17)⟩])))))))
  (.seq (.ops [
    ⟨(some 18), none, .mv (.t 0)⟩,
    ⟨(some 2), none, .mv (.t 18)⟩])
  .ret)))
def f50 : DFn := ⟨d50, [.tmp 2], 19⟩
theorem h50 : decFn Try.prog 50 = some f50 := by kernel_rfl

def d51 : DCode :=
  (.seq (.ops [
    ⟨(some 2), none, .mv (.c (nilS 1))⟩])
  (.seq (.seq (.ops [
    ⟨(some 5), none, .mv (.t 0)⟩,
    ⟨(some 6), none, .len (.t 5)⟩,
    ⟨(some 7), none, .mv (.c (.raw (.int .i64 (0))))⟩])
  (.block 0
   (.loop
    (.seq (.ops [
      ⟨(some 8), none, .bin .lss false (.t 7) (.t 6)⟩])
    (.seq (.cond (.t 8)
     .skip
     (.exit 0))
    (.seq (.block 1
     (.seq (.ops [
       ⟨(some 9), none, .mv (.t 7)⟩,
       ⟨(some 10), none, .ias 1 (.t 5) (.t 7)⟩,
       ⟨(some 11), none, .load false 1 (.t 10)⟩,
       ⟨(some 3), none, .mv (.t 9)⟩,
       ⟨(some 4), none, .mv (.t 11)⟩])
     (.ops [
       ⟨(some 12), none, .mv (.t 0)⟩,
       ⟨(some 13), none, .mv (.t 3)⟩,
       ⟨(some 14), none, .mv (.t 4)⟩,
       ⟨(some 15), none, .call 65 [(.t 14)]⟩,
       ⟨(some 16), none, .ias 1 (.t 12) (.t 13)⟩,
       ⟨none, none, .store 1 (.t 16) (.t 15)⟩])))
    (.ops [
      ⟨(some 17), none, .bin .add false (.t 7) (.c (.raw (.int .i64 (1))))⟩,
      ⟨(some 7), none, .mv (.t 17)⟩])))))))
  (.seq (.ops [
    ⟨(some 18), none, .mv (.t 0)⟩,
    ⟨(some 2), none, .mv (.t 18)⟩])
  .ret)))
def f51 : DFn := ⟨d51, [.tmp 2], 19⟩
theorem h51 : decFn Try.prog 51 = some f51 := by kernel_rfl

def d52 : DCode :=
  (.seq (.ops [
    ⟨(some 2), none, .mv (.c (nilS 1))⟩])
  (.seq (.seq (.ops [
    ⟨(some 5), none, .mv (.t 0)⟩,
    ⟨(some 6), none, .len (.t 5)⟩,
    ⟨(some 7), none, .mv (.c (.raw (.int .i64 (0))))⟩])
  (.block 0
   (.loop
    (.seq (.ops [
      ⟨(some 8), none, .bin .lss false (.t 7) (.t 6)⟩])
    (.seq (.cond (.t 8)
     .skip
     (.exit 0))
    (.seq (.block 1
     (.seq (.ops [
       ⟨(some 9), none, .mv (.t 7)⟩,
       ⟨(some 10), none, .ias 65 (.t 5) (.t 7)⟩,
       ⟨(some 11), none, .load true 65 (.t 10)⟩,
       ⟨(some 4), none, .alloc (.st [(.raw (.int .i64 (0))), (.ac 64 (List.replicate 64 (0, 0)))])⟩,
       ⟨(some 3), none, .mv (.t 9)⟩,
       ⟨none, none, .store 65 (.t 4) (.t 11)⟩])
     (.ops [
       ⟨(some 12), none, .mv (.t 0)⟩,
       ⟨(some 13), none, .mv (.t 3)⟩,
       ⟨(some 14), none, .load true 65 (.t 4)⟩,
       ⟨(some 15), none, .call 66 [(.t 14)]⟩,
       ⟨(some 16), none, .ias 65 (.t 12) (.t 13)⟩,
       ⟨none, none, .store 65 (.t 16) (.t 15)⟩])))
    (.ops [
      ⟨(some 17), none, .bin .add false (.t 7) (.c (.raw (.int .i64 (1))))⟩,
      ⟨(some 7), none, .mv (.t 17)⟩])))))))
  (.seq (.ops [
    ⟨(some 18), none, .mv (.t 0)⟩,
    ⟨(some 2), none, .mv (.t 18)⟩])
  .ret)))
def f52 : DFn := ⟨d52, [.tmp 2], 19⟩
theorem h52 : decFn Try.prog 52 = some f52 := by kernel_rfl

def d53 : DCode :=
  (.seq (.ops [
    ⟨(some 2), none, .mv (.c (nilS 1))⟩])
  (.seq (.seq (.ops [
    ⟨(some 5), none, .mv (.t 0)⟩,
    ⟨(some 6), none, .len (.t 5)⟩,
    ⟨(some 7), none, .mv (.c (.raw (.int .i64 (0))))⟩])
  (.block 0
   (.loop
    (.seq (.ops [
      ⟨(some 8), none, .bin .lss false (.t 7) (.t 6)⟩])
    (.seq (.cond (.t 8)
     .skip
     (.exit 0))
    (.seq (.block 1
     (.seq (.ops [
       ⟨(some 9), none, .mv (.t 7)⟩,
       ⟨(some 10), none, .ias 65 (.t 5) (.t 7)⟩,
       ⟨(some 11), none, .load true 65 (.t 10)⟩,
       ⟨(some 4), none, .alloc (.st [(.raw (.int .i64 (0))), (.af 64 (List.replicate 64 0))])⟩,
       ⟨(some 3), none, .mv (.t 9)⟩,
       ⟨none, none, .store 65 (.t 4) (.t 11)⟩])
     (.ops [
       ⟨(some 12), none, .mv (.t 0)⟩,
       ⟨(some 13), none, .mv (.t 3)⟩,
       ⟨(some 14), none, .load true 65 (.t 4)⟩,
       ⟨(some 15), none, .call 67 [(.t 14)]⟩,
       ⟨(some 16), none, .ias 65 (.t 12) (.t 13)⟩,
       ⟨none, none, .store 65 (.t 16) (.t 15)⟩])))
    (.ops [
      ⟨(some 17), none, .bin .add false (.t 7) (.c (.raw (.int .i64 (1))))⟩,
      ⟨(some 7), none, .mv (.t 17)⟩])))))))
  (.seq (.ops [
    ⟨(some 18), none, .mv (.t 0)⟩,
    ⟨(some 2), none, .mv (.t 18)⟩])
  .ret)))
def f53 : DFn := ⟨d53, [.tmp 2], 19⟩
theorem h53 : decFn Try.prog 53 = some f53 := by kernel_rfl

def d54 : DCode :=
  (.seq (.ops [
    ⟨(some 2), none, .mv (.c (nilS 1))⟩])
  (.seq (.seq (.ops [
    ⟨(some 5), none, .mv (.t 0)⟩,
    ⟨(some 6), none, .len (.t 5)⟩,
    ⟨(some 7), none, .mv (.c (.raw (.int .i64 (0))))⟩])
  (.block 0
   (.loop
    (.seq (.ops [
      ⟨(some 8), none, .bin .lss false (.t 7) (.t 6)⟩])
    (.seq (.cond (.t 8)
     .skip
     (.exit 0))
    (.seq (.block 1
     (.seq (.ops [
       ⟨(some 9), none, .mv (.t 7)⟩,
       ⟨(some 10), none, .ias 1 (.t 5) (.t 7)⟩,
       ⟨(some 11), none, .load false 1 (.t 10)⟩,
       ⟨(some 3), none, .mv (.t 9)⟩,
       ⟨(some 4), none, .mv (.t 11)⟩])
     (.ops [
       ⟨(some 12), none, .mv (.t 0)⟩,
       ⟨(some 13), none, .mv (.t 3)⟩,
       ⟨(some 14), none, .mv (.t 4)⟩,
       ⟨(some 15), none, .call 68 [(.t 14)]⟩,
       ⟨(some 16), none, .ias 1 (.t 12) (.t 13)⟩,
       ⟨none, none, .store 1 (.t 16) (.t 15)⟩])))
    (.ops [
      ⟨(some 17), none, .bin .add false (.t 7) (.c (.raw (.int .i64 (1))))⟩,
      ⟨(some 7), none, .mv (.t 17)⟩])))))))
  (.seq (.ops [
    ⟨(some 18), none, .mv (.t 0)⟩,
    ⟨(some 2), none, .mv (.t 18)⟩])
  .ret)))
def f54 : DFn := ⟨d54, [.tmp 2], 19⟩
theorem h54 : decFn Try.prog 54 = some f54 := by kernel_rfl

def d55 : DCode :=
  (.seq (.ops [
    ⟨(some 2), none, .mv (.c (.raw (.bool false)))⟩])
  (.seq (.seq (.ops [
    ⟨(some 3), none, .mv (.c (.raw (.int .i64 (1))))⟩])
  (.block 0
   (.loop
    (.seq (.seq (.ops [
      ⟨(some 4), none, .mv (.t 3)⟩,
      ⟨(some 5), none, .bin .leq false (.t 4) (.c (.raw (.int .i64 (64))))⟩])
    (.cond (.t 5)
     .skip
     (.exit 0)))
    (.seq (.block 1
     (.seq (.ops [
       ⟨(some 8), none, .mv (.t 0)⟩,
       ⟨(some 9), none, .mv (.t 3)⟩,
       ⟨(some 10), none, .bin .eql false (.t 8) (.t 9)⟩])
     (.cond (.t 10)
      (.seq (.ops [
        ⟨(some 2), none, .mv (.c (.raw (.bool true)))⟩])
      .ret)
      .skip)))
    (.ops [
      ⟨(some 6), none, .mv (.t 3)⟩,
      ⟨(some 7), none, .bin .mul false (.c (.raw (.int .i64 (2)))) (.t 6)⟩,
      ⟨(some 3), none, .mv (.t 7)⟩]))))))
  (.seq (.ops [
    ⟨(some 2), none, .mv (.c (.raw (.bool false)))⟩])
  .ret)))
def f55 : DFn := ⟨d55, [.tmp 2], 11⟩
theorem h55 : decFn Try.prog 55 = some f55 := by kernel_rfl

def d56 : DCode :=
  (.seq (.ops [
    ⟨(some 4), none, .mv (.c (nilS 1))⟩])
  (.seq (.ops [
    ⟨(some 9), none, .bsl .f 0 []⟩,
    ⟨(some 5), none, .mv (.t 9)⟩])
  (.seq (.seq (.ops [
    ⟨(some 6), none, .mv (.c (.raw (.int .i64 (0))))⟩])
  (.block 0
   (.loop
    (.seq (.seq (.ops [
      ⟨(some 10), none, .mv (.t 6)⟩,
      ⟨(some 11), none, .mv (.t 0)⟩,
      ⟨(some 12), none, .bin .lss false (.t 10) (.t 11)⟩])
    (.cond (.t 12)
     .skip
     (.exit 0)))
    (.seq (.block 1
     (.seq (.ops [
       ⟨(some 7), none, .mv (.c (.flt .f32 1065353216))⟩])
     (.seq (.seq (.ops [
       ⟨(some 15), none, .mv (.t 1)⟩,
       ⟨(some 16), none, .mv (.t 6)⟩,
       ⟨(some 17), none, .bin .and false (.t 15) (.t 16)⟩,
       ⟨(some 8), none, .mv (.t 17)⟩])
     (.block 2
      (.loop
       (.seq (.seq (.ops [
         ⟨(some 18), none, .mv (.t 8)⟩,
         ⟨(some 19), none, .bin .gtr false (.t 18) (.c (.raw (.int .i64 (0))))⟩])
       (.cond (.t 19)
        .skip
        (.exit 2)))
       (.seq (.block 3
        (.seq (.ops [
          ⟨(some 22), none, .mv (.t 8)⟩,
          ⟨(some 23), none, .bin .rem false (.t 22) (.c (.raw (.int .i64 (2))))⟩,
          ⟨(some 24), none, .bin .eql false (.t 23) (.c (.raw (.int .i64 (1))))⟩])
        (.cond (.t 24)
         (.ops [
           ⟨(some 25), none, .mv (.t 7)⟩,
           ⟨(some 26), none, .un .neg (.t 25)⟩,
           ⟨(some 7), none, .mv (.t 26)⟩])
         .skip)))
       (.ops [
         ⟨(some 20), none, .mv (.t 8)⟩,
         ⟨(some 21), none, .bin .quo false (.t 20) (.c (.raw (.int .i64 (2))))⟩,
         ⟨(some 8), none, .mv (.t 21)⟩]))))))
     (.ops [
       ⟨(some 27), none, .mv (.t 5)⟩,
       ⟨(some 28), none, .mv (.t 7)⟩,
       ⟨(some 29), none, .bsl .f 1 [(0, (.t 28))]⟩,
       ⟨(some 30), none, .app .f (.t 27) (.t 29)⟩,
       ⟨(some 5), none, .mv (.t 30)⟩]))))
    (.ops [
      ⟨(some 13), none, .mv (.t 6)⟩,
      ⟨(some 14), none, .bin .add false (.t 13) (.c (.raw (.int .i64 (1))))⟩,
      ⟨(some 6), none, .mv (.t 14)⟩]))))))
  (.seq (.ops [
    ⟨(some 31), none, .mv (.t 5)⟩,
    ⟨(some 4), none, .mv (.t 31)⟩])
  .ret))))
def f56 : DFn := ⟨d56, [.tmp 4], 32⟩
theorem h56 : decFn Try.prog 56 = some f56 := by kernel_rfl

def d57 : DCode :=
  (.seq (.ops [
    ⟨(some 2), none, .mv (.c (.raw (.bool false)))⟩])
  (.seq (.ops [
    ⟨(some 3), none, .mv (.t 0)⟩,
    ⟨(some 4), none, .call 39 [(.t 3), (.c (.raw (.int .i64 (1)))), (.c (.raw (.int .i64 (64))))]⟩,
    ⟨(some 5), none, .mv (.t 4)⟩,
    ⟨(some 6), (some (5, true)), .mv (.t 0)⟩,
    ⟨(some 7), (some (5, true)), .mv (.t 0)⟩,
    ⟨(some 8), (some (5, true)), .bin .sub false (.t 7) (.c (.raw (.int .i64 (1))))⟩,
    ⟨(some 9), (some (5, true)), .bin .and false (.t 6) (.t 8)⟩,
    ⟨(some 10), (some (5, true)), .bin .eql false (.t 9) (.c (.raw (.int .i64 (0))))⟩,
    ⟨(some 11), none, .pick (.t 5) (.t 10) (.c (.raw (.bool false)))⟩,
    ⟨(some 2), none, .mv (.t 11)⟩])
  .ret))
def f57 : DFn := ⟨d57, [.tmp 2], 12⟩
theorem h57 : decFn Try.prog 57 = some f57 := by kernel_rfl

def d58 : DCode :=
  (.seq (.ops [
    ⟨(some 4), none, .mv (.c (.flt .f32 0))⟩])
  (.seq (.seq (.ops [
    ⟨(some 5), none, .mv (.t 0)⟩,
    ⟨(some 6), none, .mv (.t 1)⟩,
    ⟨(some 7), none, .bin .and false (.t 5) (.t 6)⟩,
    ⟨(some 8), none, .cvI .u64 (.t 7)⟩,
    ⟨(some 9), none, .call 69 [(.t 8)]⟩,
    ⟨(some 10), none, .bin .rem false (.t 9) (.c (.raw (.int .i64 (2))))⟩,
    ⟨(some 11), none, .bin .eql false (.t 10) (.c (.raw (.int .i64 (0))))⟩])
  (.cond (.t 11)
   (.seq (.ops [
     ⟨(some 4), none, .mv (.c (.flt .f32 1065353216))⟩])
   .ret)
   .skip))
  (.seq (.ops [
    ⟨(some 4), none, .mv (.c (.flt .f32 3212836864))⟩])
  .ret)))
def f58 : DFn := ⟨d58, [.tmp 4], 12⟩
theorem h58 : decFn Try.prog 58 = some f58 := by kernel_rfl

def d59 : DCode :=
  (.seq (.ops [
    ⟨(some 2), none, .mv (.c (.flt .f32 0))⟩])
  (.seq (.ops [
    ⟨(some 3), none, .mv (.c (.flt .f32 0))⟩])
  (.seq (.seq (.ops [
    ⟨(some 6), none, .mv (.t 0)⟩,
    ⟨(some 7), none, .len (.t 6)⟩,
    ⟨(some 8), none, .mv (.c (.raw (.int .i64 (0))))⟩])
  (.block 0
   (.loop
    (.seq (.ops [
      ⟨(some 9), none, .bin .lss false (.t 8) (.t 7)⟩])
    (.seq (.cond (.t 9)
     .skip
     (.exit 0))
    (.seq (.block 1
     (.seq (.ops [
       ⟨(some 10), none, .ias 1 (.t 6) (.t 8)⟩,
       ⟨(some 11), none, .load false 1 (.t 10)⟩,
       ⟨(some 5), none, .mv (.t 11)⟩])
     (.ops [
       ⟨(some 12), none, .mv (.t 3)⟩,
       ⟨(some 13), none, .mv (.t 5)⟩,
       ⟨(some 14), none, .bin .add false (.t 12) (.t 13)⟩,
       ⟨(some 3), none, .mv (.t 14)⟩])))
    (.ops [
      ⟨(some 15), none, .bin .add false (.t 8) (.c (.raw (.int .i64 (1))))⟩,
      ⟨(some 8), none, .mv (.t 15)⟩])))))))
  (.seq (.ops [
    ⟨(some 16), none, .mv (.t 3)⟩,
    ⟨(some 2), none, .mv (.t 16)⟩])
  .ret))))
def f59 : DFn := ⟨d59, [.tmp 2], 17⟩
theorem h59 : decFn Try.prog 59 = some f59 := by kernel_rfl

def d60 : DCode :=
  (.seq (.ops [
    ⟨(some 2), none, .mv (.c (.raw (.bool false)))⟩])
  (.seq (.ops [
    ⟨(some 3), none, .mv (.t 0)⟩,
    ⟨(some 4), none, .call 24 [(.t 3), (.c (.fn 70 []))]⟩,
    ⟨(some 2), none, .mv (.t 4)⟩])
  .ret))
def f60 : DFn := ⟨d60, [.tmp 2], 5⟩
theorem h60 : decFn Try.prog 60 = some f60 := by kernel_rfl

def d61 : DCode :=
  (.seq (.ops [
    ⟨(some 2), none, .mv (.c (.raw (.bool false)))⟩])
  (.seq (.ops [
    ⟨(some 3), none, .mv (.t 0)⟩,
    ⟨(some 4), none, .mv (.t 0)⟩,
    ⟨(some 5), none, .bin .sub false (.t 3) (.t 4)⟩,
    ⟨(some 6), none, .bin .eql false (.t 5) (.c (.flt .f32 0))⟩,
    ⟨(some 2), none, .mv (.t 6)⟩])
  .ret))
def f61 : DFn := ⟨d61, [.tmp 2], 7⟩
theorem h61 : decFn Try.prog 61 = some f61 := by kernel_rfl

def d62 : DCode :=
  (.seq (.ops [
    ⟨(some 2), none, .mv (.c (.raw (.bool false)))⟩])
  (.seq (.ops [
    ⟨(some 3), none, .mv (.t 0)⟩,
    ⟨(some 4), none, .call 61 [(.t 3)]⟩,
    ⟨(some 5), none, .un .not (.t 4)⟩,
    ⟨(some 2), none, .mv (.t 5)⟩])
  .ret))
def f62 : DFn := ⟨d62, [.tmp 2], 6⟩
theorem h62 : decFn Try.prog 62 = some f62 := by kernel_rfl

def d63 : DCode :=
  (.seq (.ops [
    ⟨(some 4), none, .mv (.c (.raw (.bool false)))⟩])
  (.seq (.ops [
    ⟨(some 5), none, .mv (.t 0)⟩,
    ⟨(some 6), none, .mv (.t 1)⟩,
    ⟨(some 7), none, .call 71 [(.t 5), (.t 6)]⟩,
    ⟨(some 8), none, .bin .geq false (.t 7) (.c (.raw (.int .i64 (0))))⟩,
    ⟨(some 4), none, .mv (.t 8)⟩])
  .ret))
def f63 : DFn := ⟨d63, [.tmp 4], 9⟩
theorem h63 : decFn Try.prog 63 = some f63 := by kernel_rfl

def d64 : DCode :=
  (.seq (.ops [
    ⟨(some 1), none, .box (.t 0)⟩,
    ⟨(some 2), none, .mv (.c (.flt .f32 0))⟩])
  (.seq (.seq (.ops [
    ⟨(some 17), none, .mki 51 (.t 1)⟩])
  (.block 0
   (.seq (.ops [
     ⟨(some 18), none, .tas (.t 17) 51 (.raw (.pointer none))⟩,
     ⟨(some 19), none, .ext (.t 18) 1⟩,
     ⟨(some 20), none, .ext (.t 18) 0⟩])
   (.cond (.t 19)
    (.seq (.ops [
      ⟨(some 3), none, .mv (.t 20)⟩])
    (.ops [
      ⟨(some 21), none, .mv (.t 3)⟩,
      ⟨(some 22), none, .mv (.t 3)⟩,
      ⟨(some 23), none, .nck (.t 22)⟩,
      ⟨(some 24), none, .load false 1 (.t 23)⟩,
      ⟨(some 25), none, .call 48 [(.t 24)]⟩,
      ⟨(some 26), none, .nck (.t 21)⟩,
      ⟨none, none, .store 1 (.t 26) (.t 25)⟩]))
    (.seq (.ops [
      ⟨(some 27), none, .tas (.t 17) 52 (.raw (.pointer none))⟩,
      ⟨(some 28), none, .ext (.t 27) 1⟩,
      ⟨(some 29), none, .ext (.t 27) 0⟩])
    (.cond (.t 28)
     (.seq (.ops [
       ⟨(some 4), none, .mv (.t 29)⟩])
     (.ops [
       ⟨(some 30), none, .mv (.t 4)⟩,
       ⟨(some 31), none, .mv (.t 4)⟩,
       ⟨(some 32), none, .nck (.t 31)⟩,
       ⟨(some 33), none, .load false 1 (.t 32)⟩,
       ⟨(some 34), none, .call 49 [(.t 33)]⟩,
       ⟨(some 35), none, .nck (.t 30)⟩,
       ⟨none, none, .store 1 (.t 35) (.t 34)⟩]))
     (.seq (.ops [
       ⟨(some 36), none, .tas (.t 17) 55 (.raw (.pointer none))⟩,
       ⟨(some 37), none, .ext (.t 36) 1⟩,
       ⟨(some 38), none, .ext (.t 36) 0⟩])
     (.cond (.t 37)
      (.seq (.ops [
        ⟨(some 5), none, .mv (.t 38)⟩])
      (.seq (.ops [
        ⟨(some 39), none, .mv (.t 5)⟩,
        ⟨(some 40), none, .nck (.t 39)⟩,
        ⟨(some 41), none, .fad (.t 40) 1 1⟩,
        ⟨(some 42), none, .load true 64 (.t 41)⟩,
        ⟨(some 43), none, .mv (.c (.raw (.int .i64 (0))))⟩])
      (.block 1
       (.loop
        (.seq (.ops [
          ⟨(some 44), none, .bin .lss false (.t 43) (.c (.raw (.int .i64 (64))))⟩])
        (.seq (.cond (.t 44)
         .skip
         (.exit 1))
        (.seq (.block 2
         (.seq (.ops [
           ⟨(some 45), none, .mv (.t 43)⟩,
           ⟨(some 46), none, .idx 64 (.t 42) (.t 43)⟩,
           ⟨(some 6), none, .mv (.t 45)⟩,
           ⟨(some 7), none, .mv (.t 46)⟩])
         (.drw [
           ⟨(some 47), none, .mv (.t 5)⟩,
           ⟨(some 48), none, .mv (.t 6)⟩,
           ⟨(some 49), none, .mv (.t 7)⟩,
           ⟨(some 50), none, .call 49 [(.t 49)]⟩,
           ⟨(some 51), none, .nck (.t 47)⟩,
           ⟨(some 52), none, .fad (.t 51) 1 1⟩,
           ⟨(some 53), none, .iad 64 1 (.t 52) (.t 48)⟩] [
           ⟨none, none, .store 1 (.t 53) (.t 50)⟩])))
        (.ops [
          ⟨(some 54), none, .bin .add false (.t 43) (.c (.raw (.int .i64 (1))))⟩,
          ⟨(some 43), none, .mv (.t 54)⟩]))))))))
      (.seq (.ops [
        ⟨(some 55), none, .tas (.t 17) 59 (.raw (.pointer none))⟩,
        ⟨(some 56), none, .ext (.t 55) 1⟩,
        ⟨(some 57), none, .ext (.t 55) 0⟩])
      (.cond (.t 56)
       (.seq (.ops [
         ⟨(some 8), none, .mv (.t 57)⟩])
       (.seq (.ops [
         ⟨(some 58), none, .mv (.t 8)⟩,
         ⟨(some 59), none, .nck (.t 58)⟩,
         ⟨(some 60), none, .fad (.t 59) 1 1⟩,
         ⟨(some 61), none, .load true 64 (.t 60)⟩,
         ⟨(some 62), none, .mv (.c (.raw (.int .i64 (0))))⟩])
       (.block 3
        (.loop
         (.seq (.ops [
           ⟨(some 63), none, .bin .lss false (.t 62) (.c (.raw (.int .i64 (64))))⟩])
         (.seq (.cond (.t 63)
          .skip
          (.exit 3))
         (.seq (.block 4
          (.seq (.ops [
            ⟨(some 64), none, .mv (.t 62)⟩,
            ⟨(some 65), none, .idx 64 (.t 61) (.t 62)⟩,
            ⟨(some 9), none, .mv (.t 64)⟩,
            ⟨(some 10), none, .mv (.t 65)⟩])
          (.drw [
            ⟨(some 66), none, .mv (.t 8)⟩,
            ⟨(some 67), none, .mv (.t 9)⟩,
            ⟨(some 68), none, .mv (.t 10)⟩,
            ⟨(some 69), none, .call 48 [(.t 68)]⟩,
            ⟨(some 70), none, .nck (.t 66)⟩,
            ⟨(some 71), none, .fad (.t 70) 1 1⟩,
            ⟨(some 72), none, .iad 64 1 (.t 71) (.t 67)⟩] [
            ⟨none, none, .store 1 (.t 72) (.t 69)⟩])))
         (.ops [
           ⟨(some 73), none, .bin .add false (.t 62) (.c (.raw (.int .i64 (1))))⟩,
           ⟨(some 62), none, .mv (.t 73)⟩]))))))))
       (.seq (.ops [
         ⟨(some 74), none, .tas (.t 17) 50 (.raw (.pointer none))⟩,
         ⟨(some 75), none, .ext (.t 74) 1⟩,
         ⟨(some 76), none, .ext (.t 74) 0⟩])
       (.cond (.t 75)
        (.seq (.ops [
          ⟨(some 11), none, .mv (.t 76)⟩])
        (.ops [
          ⟨(some 77), none, .mv (.t 11)⟩,
          ⟨(some 78), none, .mv (.t 11)⟩,
          ⟨(some 79), none, .nck (.t 78)⟩,
          ⟨(some 80), none, .load false 1 (.t 79)⟩,
          ⟨(some 81), none, .call 50 [(.t 80)]⟩,
          ⟨(some 82), none, .nck (.t 77)⟩,
          ⟨none, none, .store 1 (.t 82) (.t 81)⟩]))
        (.seq (.ops [
          ⟨(some 83), none, .tas (.t 17) 63 (.raw (.pointer none))⟩,
          ⟨(some 84), none, .ext (.t 83) 1⟩,
          ⟨(some 85), none, .ext (.t 83) 0⟩])
        (.cond (.t 84)
         (.seq (.ops [
           ⟨(some 12), none, .mv (.t 85)⟩])
         (.ops [
           ⟨(some 86), none, .mv (.t 12)⟩,
           ⟨(some 87), none, .mv (.t 12)⟩,
           ⟨(some 88), none, .nck (.t 87)⟩,
           ⟨(some 89), none, .load false 1 (.t 88)⟩,
           ⟨(some 90), none, .call 51 [(.t 89)]⟩,
           ⟨(some 91), none, .nck (.t 86)⟩,
           ⟨none, none, .store 1 (.t 91) (.t 90)⟩]))
         (.seq (.ops [
           ⟨(some 92), none, .tas (.t 17) 66 (.raw (.pointer none))⟩,
           ⟨(some 93), none, .ext (.t 92) 1⟩,
           ⟨(some 94), none, .ext (.t 92) 0⟩])
         (.cond (.t 93)
          (.seq (.ops [
            ⟨(some 13), none, .mv (.t 94)⟩])
          (.ops [
            ⟨(some 95), none, .mv (.t 13)⟩,
            ⟨(some 96), none, .mv (.t 13)⟩,
            ⟨(some 97), none, .nck (.t 96)⟩,
            ⟨(some 98), none, .load false 1 (.t 97)⟩,
            ⟨(some 99), none, .call 52 [(.t 98)]⟩,
            ⟨(some 100), none, .nck (.t 95)⟩,
            ⟨none, none, .store 1 (.t 100) (.t 99)⟩]))
          (.seq (.ops [
            ⟨(some 101), none, .tas (.t 17) 69 (.raw (.pointer none))⟩,
            ⟨(some 102), none, .ext (.t 101) 1⟩,
            ⟨(some 103), none, .ext (.t 101) 0⟩])
          (.cond (.t 102)
           (.seq (.ops [
             ⟨(some 14), none, .mv (.t 103)⟩])
           (.ops [
             ⟨(some 104), none, .mv (.t 14)⟩,
             ⟨(some 105), none, .mv (.t 14)⟩,
             ⟨(some 106), none, .nck (.t 105)⟩,
             ⟨(some 107), none, .load false 1 (.t 106)⟩,
             ⟨(some 108), none, .call 53 [(.t 107)]⟩,
             ⟨(some 109), none, .nck (.t 104)⟩,
             ⟨none, none, .store 1 (.t 109) (.t 108)⟩]))
           (.seq (.ops [
             ⟨(some 110), none, .tas (.t 17) 72 (.raw (.pointer none))⟩,
             ⟨(some 111), none, .ext (.t 110) 1⟩,
             ⟨(some 112), none, .ext (.t 110) 0⟩])
           (.cond (.t 111)
            (.seq (.ops [
              ⟨(some 15), none, .mv (.t 112)⟩])
            (.ops [
              ⟨(some 113), none, .mv (.t 15)⟩,
              ⟨(some 114), none, .mv (.t 15)⟩,
              ⟨(some 115), none, .nck (.t 114)⟩,
              ⟨(some 116), none, .load false 1 (.t 115)⟩,
              ⟨(some 117), none, .call 54 [(.t 116)]⟩,
              ⟨(some 118), none, .nck (.t 113)⟩,
              ⟨none, none, .store 1 (.t 118) (.t 117)⟩]))
            (.seq (.ops [
              ⟨(some 119), none, .tai (.t 17) [] (.raw .nilIface)⟩,
              ⟨(some 120), none, .ext (.t 119) 1⟩,
              ⟨(some 121), none, .ext (.t 119) 0⟩])
            (.cond (.t 120)
             (.seq (.ops [
               ⟨(some 16), none, .mv (.t 121)⟩])
             (.ops [
               ⟨(some 122), none, .mv (.t 16)⟩,
               ⟨(some 123), none, .bad⟩]))
             .skip))))))))))))))))))))))
  (.seq (.ops [
    ⟨(some 124), none, .load false 1 (.t 1)⟩,
    ⟨(some 2), none, .mv (.t 124)⟩])
  .ret)))
def f64 : DFn := ⟨d64, [.tmp 2], 125⟩
theorem h64 : decFn Try.prog 64 = some f64 := by kernel_rfl

def d65 : DCode :=
  (.seq (.ops [
    ⟨(some 1), none, .box (.t 0)⟩,
    ⟨(some 2), none, .mv (.c (.cpx .f32 0 0))⟩])
  (.seq (.seq (.ops [
    ⟨(some 17), none, .mki 52 (.t 1)⟩])
  (.block 0
   (.seq (.ops [
     ⟨(some 18), none, .tas (.t 17) 51 (.raw (.pointer none))⟩,
     ⟨(some 19), none, .ext (.t 18) 1⟩,
     ⟨(some 20), none, .ext (.t 18) 0⟩])
   (.cond (.t 19)
    (.seq (.ops [
      ⟨(some 3), none, .mv (.t 20)⟩])
    (.ops [
      ⟨(some 21), none, .mv (.t 3)⟩,
      ⟨(some 22), none, .mv (.t 3)⟩,
      ⟨(some 23), none, .nck (.t 22)⟩,
      ⟨(some 24), none, .load false 1 (.t 23)⟩,
      ⟨(some 25), none, .call 48 [(.t 24)]⟩,
      ⟨(some 26), none, .nck (.t 21)⟩,
      ⟨none, none, .store 1 (.t 26) (.t 25)⟩]))
    (.seq (.ops [
      ⟨(some 27), none, .tas (.t 17) 52 (.raw (.pointer none))⟩,
      ⟨(some 28), none, .ext (.t 27) 1⟩,
      ⟨(some 29), none, .ext (.t 27) 0⟩])
    (.cond (.t 28)
     (.seq (.ops [
       ⟨(some 4), none, .mv (.t 29)⟩])
     (.ops [
       ⟨(some 30), none, .mv (.t 4)⟩,
       ⟨(some 31), none, .mv (.t 4)⟩,
       ⟨(some 32), none, .nck (.t 31)⟩,
       ⟨(some 33), none, .load false 1 (.t 32)⟩,
       ⟨(some 34), none, .call 49 [(.t 33)]⟩,
       ⟨(some 35), none, .nck (.t 30)⟩,
       ⟨none, none, .store 1 (.t 35) (.t 34)⟩]))
     (.seq (.ops [
       ⟨(some 36), none, .tas (.t 17) 55 (.raw (.pointer none))⟩,
       ⟨(some 37), none, .ext (.t 36) 1⟩,
       ⟨(some 38), none, .ext (.t 36) 0⟩])
     (.cond (.t 37)
      (.seq (.ops [
        ⟨(some 5), none, .mv (.t 38)⟩])
      (.seq (.ops [
        ⟨(some 39), none, .mv (.t 5)⟩,
        ⟨(some 40), none, .nck (.t 39)⟩,
        ⟨(some 41), none, .fad (.t 40) 1 1⟩,
        ⟨(some 42), none, .load true 64 (.t 41)⟩,
        ⟨(some 43), none, .mv (.c (.raw (.int .i64 (0))))⟩])
      (.block 1
       (.loop
        (.seq (.ops [
          ⟨(some 44), none, .bin .lss false (.t 43) (.c (.raw (.int .i64 (64))))⟩])
        (.seq (.cond (.t 44)
         .skip
         (.exit 1))
        (.seq (.block 2
         (.seq (.ops [
           ⟨(some 45), none, .mv (.t 43)⟩,
           ⟨(some 46), none, .idx 64 (.t 42) (.t 43)⟩,
           ⟨(some 6), none, .mv (.t 45)⟩,
           ⟨(some 7), none, .mv (.t 46)⟩])
         (.drw [
           ⟨(some 47), none, .mv (.t 5)⟩,
           ⟨(some 48), none, .mv (.t 6)⟩,
           ⟨(some 49), none, .mv (.t 7)⟩,
           ⟨(some 50), none, .call 49 [(.t 49)]⟩,
           ⟨(some 51), none, .nck (.t 47)⟩,
           ⟨(some 52), none, .fad (.t 51) 1 1⟩,
           ⟨(some 53), none, .iad 64 1 (.t 52) (.t 48)⟩] [
           ⟨none, none, .store 1 (.t 53) (.t 50)⟩])))
        (.ops [
          ⟨(some 54), none, .bin .add false (.t 43) (.c (.raw (.int .i64 (1))))⟩,
          ⟨(some 43), none, .mv (.t 54)⟩]))))))))
      (.seq (.ops [
        ⟨(some 55), none, .tas (.t 17) 59 (.raw (.pointer none))⟩,
        ⟨(some 56), none, .ext (.t 55) 1⟩,
        ⟨(some 57), none, .ext (.t 55) 0⟩])
      (.cond (.t 56)
       (.seq (.ops [
         ⟨(some 8), none, .mv (.t 57)⟩])
       (.seq (.ops [
         ⟨(some 58), none, .mv (.t 8)⟩,
         ⟨(some 59), none, .nck (.t 58)⟩,
         ⟨(some 60), none, .fad (.t 59) 1 1⟩,
         ⟨(some 61), none, .load true 64 (.t 60)⟩,
         ⟨(some 62), none, .mv (.c (.raw (.int .i64 (0))))⟩])
       (.block 3
        (.loop
         (.seq (.ops [
           ⟨(some 63), none, .bin .lss false (.t 62) (.c (.raw (.int .i64 (64))))⟩])
         (.seq (.cond (.t 63)
          .skip
          (.exit 3))
         (.seq (.block 4
          (.seq (.ops [
            ⟨(some 64), none, .mv (.t 62)⟩,
            ⟨(some 65), none, .idx 64 (.t 61) (.t 62)⟩,
            ⟨(some 9), none, .mv (.t 64)⟩,
            ⟨(some 10), none, .mv (.t 65)⟩])
          (.drw [
            ⟨(some 66), none, .mv (.t 8)⟩,
            ⟨(some 67), none, .mv (.t 9)⟩,
            ⟨(some 68), none, .mv (.t 10)⟩,
            ⟨(some 69), none, .call 48 [(.t 68)]⟩,
            ⟨(some 70), none, .nck (.t 66)⟩,
            ⟨(some 71), none, .fad (.t 70) 1 1⟩,
            ⟨(some 72), none, .iad 64 1 (.t 71) (.t 67)⟩] [
            ⟨none, none, .store 1 (.t 72) (.t 69)⟩])))
         (.ops [
           ⟨(some 73), none, .bin .add false (.t 62) (.c (.raw (.int .i64 (1))))⟩,
           ⟨(some 62), none, .mv (.t 73)⟩]))))))))
       (.seq (.ops [
         ⟨(some 74), none, .tas (.t 17) 50 (.raw (.pointer none))⟩,
         ⟨(some 75), none, .ext (.t 74) 1⟩,
         ⟨(some 76), none, .ext (.t 74) 0⟩])
       (.cond (.t 75)
        (.seq (.ops [
          ⟨(some 11), none, .mv (.t 76)⟩])
        (.ops [
          ⟨(some 77), none, .mv (.t 11)⟩,
          ⟨(some 78), none, .mv (.t 11)⟩,
          ⟨(some 79), none, .nck (.t 78)⟩,
          ⟨(some 80), none, .load false 1 (.t 79)⟩,
          ⟨(some 81), none, .call 50 [(.t 80)]⟩,
          ⟨(some 82), none, .nck (.t 77)⟩,
          ⟨none, none, .store 1 (.t 82) (.t 81)⟩]))
        (.seq (.ops [
          ⟨(some 83), none, .tas (.t 17) 63 (.raw (.pointer none))⟩,
          ⟨(some 84), none, .ext (.t 83) 1⟩,
          ⟨(some 85), none, .ext (.t 83) 0⟩])
        (.cond (.t 84)
         (.seq (.ops [
           ⟨(some 12), none, .mv (.t 85)⟩])
         (.ops [
           ⟨(some 86), none, .mv (.t 12)⟩,
           ⟨(some 87), none, .mv (.t 12)⟩,
           ⟨(some 88), none, .nck (.t 87)⟩,
           ⟨(some 89), none, .load false 1 (.t 88)⟩,
           ⟨(some 90), none, .call 51 [(.t 89)]⟩,
           ⟨(some 91), none, .nck (.t 86)⟩,
           ⟨none, none, .store 1 (.t 91) (.t 90)⟩]))
         (.seq (.ops [
           ⟨(some 92), none, .tas (.t 17) 66 (.raw (.pointer none))⟩,
           ⟨(some 93), none, .ext (.t 92) 1⟩,
           ⟨(some 94), none, .ext (.t 92) 0⟩])
         (.cond (.t 93)
          (.seq (.ops [
            ⟨(some 13), none, .mv (.t 94)⟩])
          (.ops [
            ⟨(some 95), none, .mv (.t 13)⟩,
            ⟨(some 96), none, .mv (.t 13)⟩,
            ⟨(some 97), none, .nck (.t 96)⟩,
            ⟨(some 98), none, .load false 1 (.t 97)⟩,
            ⟨(some 99), none, .call 52 [(.t 98)]⟩,
            ⟨(some 100), none, .nck (.t 95)⟩,
            ⟨none, none, .store 1 (.t 100) (.t 99)⟩]))
          (.seq (.ops [
            ⟨(some 101), none, .tas (.t 17) 69 (.raw (.pointer none))⟩,
            ⟨(some 102), none, .ext (.t 101) 1⟩,
            ⟨(some 103), none, .ext (.t 101) 0⟩])
          (.cond (.t 102)
           (.seq (.ops [
             ⟨(some 14), none, .mv (.t 103)⟩])
           (.ops [
             ⟨(some 104), none, .mv (.t 14)⟩,
             ⟨(some 105), none, .mv (.t 14)⟩,
             ⟨(some 106), none, .nck (.t 105)⟩,
             ⟨(some 107), none, .load false 1 (.t 106)⟩,
             ⟨(some 108), none, .call 53 [(.t 107)]⟩,
             ⟨(some 109), none, .nck (.t 104)⟩,
             ⟨none, none, .store 1 (.t 109) (.t 108)⟩]))
           (.seq (.ops [
             ⟨(some 110), none, .tas (.t 17) 72 (.raw (.pointer none))⟩,
             ⟨(some 111), none, .ext (.t 110) 1⟩,
             ⟨(some 112), none, .ext (.t 110) 0⟩])
           (.cond (.t 111)
            (.seq (.ops [
              ⟨(some 15), none, .mv (.t 112)⟩])
            (.ops [
              ⟨(some 113), none, .mv (.t 15)⟩,
              ⟨(some 114), none, .mv (.t 15)⟩,
              ⟨(some 115), none, .nck (.t 114)⟩,
              ⟨(some 116), none, .load false 1 (.t 115)⟩,
              ⟨(some 117), none, .call 54 [(.t 116)]⟩,
              ⟨(some 118), none, .nck (.t 113)⟩,
              ⟨none, none, .store 1 (.t 118) (.t 117)⟩]))
            (.seq (.ops [
              ⟨(some 119), none, .tai (.t 17) [] (.raw .nilIface)⟩,
              ⟨(some 120), none, .ext (.t 119) 1⟩,
              ⟨(some 121), none, .ext (.t 119) 0⟩])
            (.cond (.t 120)
             (.seq (.ops [
               ⟨(some 16), none, .mv (.t 121)⟩])
             (.ops [
               ⟨(some 122), none, .mv (.t 16)⟩,
               ⟨(some 123), none, .bad⟩]))
             .skip))))))))))))))))))))))
  (.seq (.ops [
    ⟨(some 124), none, .load false 1 (.t 1)⟩,
    ⟨(some 2), none, .mv (.t 124)⟩])
  .ret)))
def f65 : DFn := ⟨d65, [.tmp 2], 125⟩
theorem h65 : decFn Try.prog 65 = some f65 := by kernel_rfl

def d66 : DCode :=
  (.seq (.ops [
    ⟨(some 1), none, .box (.t 0)⟩,
    ⟨(some 2), none, .alloc (.st [(.raw (.int .i64 (0))), (.ac 64 (List.replicate 64 (0, 0)))])⟩])
  (.seq (.seq (.ops [
    ⟨(some 17), none, .mki 55 (.t 1)⟩])
  (.block 0
   (.seq (.ops [
     ⟨(some 18), none, .tas (.t 17) 51 (.raw (.pointer none))⟩,
     ⟨(some 19), none, .ext (.t 18) 1⟩,
     ⟨(some 20), none, .ext (.t 18) 0⟩])
   (.cond (.t 19)
    (.seq (.ops [
      ⟨(some 3), none, .mv (.t 20)⟩])
    (.ops [
      ⟨(some 21), none, .mv (.t 3)⟩,
      ⟨(some 22), none, .mv (.t 3)⟩,
      ⟨(some 23), none, .nck (.t 22)⟩,
      ⟨(some 24), none, .load false 1 (.t 23)⟩,
      ⟨(some 25), none, .call 48 [(.t 24)]⟩,
      ⟨(some 26), none, .nck (.t 21)⟩,
      ⟨none, none, .store 1 (.t 26) (.t 25)⟩]))
    (.seq (.ops [
      ⟨(some 27), none, .tas (.t 17) 52 (.raw (.pointer none))⟩,
      ⟨(some 28), none, .ext (.t 27) 1⟩,
      ⟨(some 29), none, .ext (.t 27) 0⟩])
    (.cond (.t 28)
     (.seq (.ops [
       ⟨(some 4), none, .mv (.t 29)⟩])
     (.ops [
       ⟨(some 30), none, .mv (.t 4)⟩,
       ⟨(some 31), none, .mv (.t 4)⟩,
       ⟨(some 32), none, .nck (.t 31)⟩,
       ⟨(some 33), none, .load false 1 (.t 32)⟩,
       ⟨(some 34), none, .call 49 [(.t 33)]⟩,
       ⟨(some 35), none, .nck (.t 30)⟩,
       ⟨none, none, .store 1 (.t 35) (.t 34)⟩]))
     (.seq (.ops [
       ⟨(some 36), none, .tas (.t 17) 55 (.raw (.pointer none))⟩,
       ⟨(some 37), none, .ext (.t 36) 1⟩,
       ⟨(some 38), none, .ext (.t 36) 0⟩])
     (.cond (.t 37)
      (.seq (.ops [
        ⟨(some 5), none, .mv (.t 38)⟩])
      (.seq (.ops [
        ⟨(some 39), none, .mv (.t 5)⟩,
        ⟨(some 40), none, .nck (.t 39)⟩,
        ⟨(some 41), none, .fad (.t 40) 1 1⟩,
        ⟨(some 42), none, .load true 64 (.t 41)⟩,
        ⟨(some 43), none, .mv (.c (.raw (.int .i64 (0))))⟩])
      (.block 1
       (.loop
        (.seq (.ops [
          ⟨(some 44), none, .bin .lss false (.t 43) (.c (.raw (.int .i64 (64))))⟩])
        (.seq (.cond (.t 44)
         .skip
         (.exit 1))
        (.seq (.block 2
         (.seq (.ops [
           ⟨(some 45), none, .mv (.t 43)⟩,
           ⟨(some 46), none, .idx 64 (.t 42) (.t 43)⟩,
           ⟨(some 6), none, .mv (.t 45)⟩,
           ⟨(some 7), none, .mv (.t 46)⟩])
         (.drw [
           ⟨(some 47), none, .mv (.t 5)⟩,
           ⟨(some 48), none, .mv (.t 6)⟩,
           ⟨(some 49), none, .mv (.t 7)⟩,
           ⟨(some 50), none, .call 49 [(.t 49)]⟩,
           ⟨(some 51), none, .nck (.t 47)⟩,
           ⟨(some 52), none, .fad (.t 51) 1 1⟩,
           ⟨(some 53), none, .iad 64 1 (.t 52) (.t 48)⟩] [
           ⟨none, none, .store 1 (.t 53) (.t 50)⟩])))
        (.ops [
          ⟨(some 54), none, .bin .add false (.t 43) (.c (.raw (.int .i64 (1))))⟩,
          ⟨(some 43), none, .mv (.t 54)⟩]))))))))
      (.seq (.ops [
        ⟨(some 55), none, .tas (.t 17) 59 (.raw (.pointer none))⟩,
        ⟨(some 56), none, .ext (.t 55) 1⟩,
        ⟨(some 57), none, .ext (.t 55) 0⟩])
      (.cond (.t 56)
       (.seq (.ops [
         ⟨(some 8), none, .mv (.t 57)⟩])
       (.seq (.ops [
         ⟨(some 58), none, .mv (.t 8)⟩,
         ⟨(some 59), none, .nck (.t 58)⟩,
         ⟨(some 60), none, .fad (.t 59) 1 1⟩,
         ⟨(some 61), none, .load true 64 (.t 60)⟩,
         ⟨(some 62), none, .mv (.c (.raw (.int .i64 (0))))⟩])
       (.block 3
        (.loop
         (.seq (.ops [
           ⟨(some 63), none, .bin .lss false (.t 62) (.c (.raw (.int .i64 (64))))⟩])
         (.seq (.cond (.t 63)
          .skip
          (.exit 3))
         (.seq (.block 4
          (.seq (.ops [
            ⟨(some 64), none, .mv (.t 62)⟩,
            ⟨(some 65), none, .idx 64 (.t 61) (.t 62)⟩,
            ⟨(some 9), none, .mv (.t 64)⟩,
            ⟨(some 10), none, .mv (.t 65)⟩])
          (.drw [
            ⟨(some 66), none, .mv (.t 8)⟩,
            ⟨(some 67), none, .mv (.t 9)⟩,
            ⟨(some 68), none, .mv (.t 10)⟩,
            ⟨(some 69), none, .call 48 [(.t 68)]⟩,
            ⟨(some 70), none, .nck (.t 66)⟩,
            ⟨(some 71), none, .fad (.t 70) 1 1⟩,
            ⟨(some 72), none, .iad 64 1 (.t 71) (.t 67)⟩] [
            ⟨none, none, .store 1 (.t 72) (.t 69)⟩])))
         (.ops [
           ⟨(some 73), none, .bin .add false (.t 62) (.c (.raw (.int .i64 (1))))⟩,
           ⟨(some 62), none, .mv (.t 73)⟩]))))))))
       (.seq (.ops [
         ⟨(some 74), none, .tas (.t 17) 50 (.raw (.pointer none))⟩,
         ⟨(some 75), none, .ext (.t 74) 1⟩,
         ⟨(some 76), none, .ext (.t 74) 0⟩])
       (.cond (.t 75)
        (.seq (.ops [
          ⟨(some 11), none, .mv (.t 76)⟩])
        (.ops [
          ⟨(some 77), none, .mv (.t 11)⟩,
          ⟨(some 78), none, .mv (.t 11)⟩,
          ⟨(some 79), none, .nck (.t 78)⟩,
          ⟨(some 80), none, .load false 1 (.t 79)⟩,
          ⟨(some 81), none, .call 50 [(.t 80)]⟩,
          ⟨(some 82), none, .nck (.t 77)⟩,
          ⟨none, none, .store 1 (.t 82) (.t 81)⟩]))
        (.seq (.ops [
          ⟨(some 83), none, .tas (.t 17) 63 (.raw (.pointer none))⟩,
          ⟨(some 84), none, .ext (.t 83) 1⟩,
          ⟨(some 85), none, .ext (.t 83) 0⟩])
        (.cond (.t 84)
         (.seq (.ops [
           ⟨(some 12), none, .mv (.t 85)⟩])
         (.ops [
           ⟨(some 86), none, .mv (.t 12)⟩,
           ⟨(some 87), none, .mv (.t 12)⟩,
           ⟨(some 88), none, .nck (.t 87)⟩,
           ⟨(some 89), none, .load false 1 (.t 88)⟩,
           ⟨(some 90), none, .call 51 [(.t 89)]⟩,
           ⟨(some 91), none, .nck (.t 86)⟩,
           ⟨none, none, .store 1 (.t 91) (.t 90)⟩]))
         (.seq (.ops [
           ⟨(some 92), none, .tas (.t 17) 66 (.raw (.pointer none))⟩,
           ⟨(some 93), none, .ext (.t 92) 1⟩,
           ⟨(some 94), none, .ext (.t 92) 0⟩])
         (.cond (.t 93)
          (.seq (.ops [
            ⟨(some 13), none, .mv (.t 94)⟩])
          (.ops [
            ⟨(some 95), none, .mv (.t 13)⟩,
            ⟨(some 96), none, .mv (.t 13)⟩,
            ⟨(some 97), none, .nck (.t 96)⟩,
            ⟨(some 98), none, .load false 1 (.t 97)⟩,
            ⟨(some 99), none, .call 52 [(.t 98)]⟩,
            ⟨(some 100), none, .nck (.t 95)⟩,
            ⟨none, none, .store 1 (.t 100) (.t 99)⟩]))
          (.seq (.ops [
            ⟨(some 101), none, .tas (.t 17) 69 (.raw (.pointer none))⟩,
            ⟨(some 102), none, .ext (.t 101) 1⟩,
            ⟨(some 103), none, .ext (.t 101) 0⟩])
          (.cond (.t 102)
           (.seq (.ops [
             ⟨(some 14), none, .mv (.t 103)⟩])
           (.ops [
             ⟨(some 104), none, .mv (.t 14)⟩,
             ⟨(some 105), none, .mv (.t 14)⟩,
             ⟨(some 106), none, .nck (.t 105)⟩,
             ⟨(some 107), none, .load false 1 (.t 106)⟩,
             ⟨(some 108), none, .call 53 [(.t 107)]⟩,
             ⟨(some 109), none, .nck (.t 104)⟩,
             ⟨none, none, .store 1 (.t 109) (.t 108)⟩]))
           (.seq (.ops [
             ⟨(some 110), none, .tas (.t 17) 72 (.raw (.pointer none))⟩,
             ⟨(some 111), none, .ext (.t 110) 1⟩,
             ⟨(some 112), none, .ext (.t 110) 0⟩])
           (.cond (.t 111)
            (.seq (.ops [
              ⟨(some 15), none, .mv (.t 112)⟩])
            (.ops [
              ⟨(some 113), none, .mv (.t 15)⟩,
              ⟨(some 114), none, .mv (.t 15)⟩,
              ⟨(some 115), none, .nck (.t 114)⟩,
              ⟨(some 116), none, .load false 1 (.t 115)⟩,
              ⟨(some 117), none, .call 54 [(.t 116)]⟩,
              ⟨(some 118), none, .nck (.t 113)⟩,
              ⟨none, none, .store 1 (.t 118) (.t 117)⟩]))
            (.seq (.ops [
              ⟨(some 119), none, .tai (.t 17) [] (.raw .nilIface)⟩,
              ⟨(some 120), none, .ext (.t 119) 1⟩,
              ⟨(some 121), none, .ext (.t 119) 0⟩])
            (.cond (.t 120)
             (.seq (.ops [
               ⟨(some 16), none, .mv (.t 121)⟩])
             (.ops [
               ⟨(some 122), none, .mv (.t 16)⟩,
               ⟨(some 123), none, .bad⟩]))
             .skip))))))))))))))))))))))
  (.seq (.ops [
    ⟨(some 124), none, .load true 65 (.t 1)⟩,
    ⟨none, none, .store 65 (.t 2) (.t 124)⟩])
  .ret)))
def f66 : DFn := ⟨d66, [.cell 2 true 65], 125⟩
theorem h66 : decFn Try.prog 66 = some f66 := by kernel_rfl

def d67 : DCode :=
  (.seq (.ops [
    ⟨(some 1), none, .box (.t 0)⟩,
    ⟨(some 2), none, .alloc (.st [(.raw (.int .i64 (0))), (.af 64 (List.replicate 64 0))])⟩])
  (.seq (.seq (.ops [
    ⟨(some 17), none, .mki 59 (.t 1)⟩])
  (.block 0
   (.seq (.ops [
     ⟨(some 18), none, .tas (.t 17) 51 (.raw (.pointer none))⟩,
     ⟨(some 19), none, .ext (.t 18) 1⟩,
     ⟨(some 20), none, .ext (.t 18) 0⟩])
   (.cond (.t 19)
    (.seq (.ops [
      ⟨(some 3), none, .mv (.t 20)⟩])
    (.ops [
      ⟨(some 21), none, .mv (.t 3)⟩,
      ⟨(some 22), none, .mv (.t 3)⟩,
      ⟨(some 23), none, .nck (.t 22)⟩,
      ⟨(some 24), none, .load false 1 (.t 23)⟩,
      ⟨(some 25), none, .call 48 [(.t 24)]⟩,
      ⟨(some 26), none, .nck (.t 21)⟩,
      ⟨none, none, .store 1 (.t 26) (.t 25)⟩]))
    (.seq (.ops [
      ⟨(some 27), none, .tas (.t 17) 52 (.raw (.pointer none))⟩,
      ⟨(some 28), none, .ext (.t 27) 1⟩,
      ⟨(some 29), none, .ext (.t 27) 0⟩])
    (.cond (.t 28)
     (.seq (.ops [
       ⟨(some 4), none, .mv (.t 29)⟩])
     (.ops [
       ⟨(some 30), none, .mv (.t 4)⟩,
       ⟨(some 31), none, .mv (.t 4)⟩,
       ⟨(some 32), none, .nck (.t 31)⟩,
       ⟨(some 33), none, .load false 1 (.t 32)⟩,
       ⟨(some 34), none, .call 49 [(.t 33)]⟩,
       ⟨(some 35), none, .nck (.t 30)⟩,
       ⟨none, none, .store 1 (.t 35) (.t 34)⟩]))
     (.seq (.ops [
       ⟨(some 36), none, .tas (.t 17) 55 (.raw (.pointer none))⟩,
       ⟨(some 37), none, .ext (.t 36) 1⟩,
       ⟨(some 38), none, .ext (.t 36) 0⟩])
     (.cond (.t 37)
      (.seq (.ops [
        ⟨(some 5), none, .mv (.t 38)⟩])
      (.seq (.ops [
        ⟨(some 39), none, .mv (.t 5)⟩,
        ⟨(some 40), none, .nck (.t 39)⟩,
        ⟨(some 41), none, .fad (.t 40) 1 1⟩,
        ⟨(some 42), none, .load true 64 (.t 41)⟩,
        ⟨(some 43), none, .mv (.c (.raw (.int .i64 (0))))⟩])
      (.block 1
       (.loop
        (.seq (.ops [
          ⟨(some 44), none, .bin .lss false (.t 43) (.c (.raw (.int .i64 (64))))⟩])
        (.seq (.cond (.t 44)
         .skip
         (.exit 1))
        (.seq (.block 2
         (.seq (.ops [
           ⟨(some 45), none, .mv (.t 43)⟩,
           ⟨(some 46), none, .idx 64 (.t 42) (.t 43)⟩,
           ⟨(some 6), none, .mv (.t 45)⟩,
           ⟨(some 7), none, .mv (.t 46)⟩])
         (.drw [
           ⟨(some 47), none, .mv (.t 5)⟩,
           ⟨(some 48), none, .mv (.t 6)⟩,
           ⟨(some 49), none, .mv (.t 7)⟩,
           ⟨(some 50), none, .call 49 [(.t 49)]⟩,
           ⟨(some 51), none, .nck (.t 47)⟩,
           ⟨(some 52), none, .fad (.t 51) 1 1⟩,
           ⟨(some 53), none, .iad 64 1 (.t 52) (.t 48)⟩] [
           ⟨none, none, .store 1 (.t 53) (.t 50)⟩])))
        (.ops [
          ⟨(some 54), none, .bin .add false (.t 43) (.c (.raw (.int .i64 (1))))⟩,
          ⟨(some 43), none, .mv (.t 54)⟩]))))))))
      (.seq (.ops [
        ⟨(some 55), none, .tas (.t 17) 59 (.raw (.pointer none))⟩,
        ⟨(some 56), none, .ext (.t 55) 1⟩,
        ⟨(some 57), none, .ext (.t 55) 0⟩])
      (.cond (.t 56)
       (.seq (.ops [
         ⟨(some 8), none, .mv (.t 57)⟩])
       (.seq (.ops [
         ⟨(some 58), none, .mv (.t 8)⟩,
         ⟨(some 59), none, .nck (.t 58)⟩,
         ⟨(some 60), none, .fad (.t 59) 1 1⟩,
         ⟨(some 61), none, .load true 64 (.t 60)⟩,
         ⟨(some 62), none, .mv (.c (.raw (.int .i64 (0))))⟩])
       (.block 3
        (.loop
         (.seq (.ops [
           ⟨(some 63), none, .bin .lss false (.t 62) (.c (.raw (.int .i64 (64))))⟩])
         (.seq (.cond (.t 63)
          .skip
          (.exit 3))
         (.seq (.block 4
          (.seq (.ops [
            ⟨(some 64), none, .mv (.t 62)⟩,
            ⟨(some 65), none, .idx 64 (.t 61) (.t 62)⟩,
            ⟨(some 9), none, .mv (.t 64)⟩,
            ⟨(some 10), none, .mv (.t 65)⟩])
          (.drw [
            ⟨(some 66), none, .mv (.t 8)⟩,
            ⟨(some 67), none, .mv (.t 9)⟩,
            ⟨(some 68), none, .mv (.t 10)⟩,
            ⟨(some 69), none, .call 48 [(.t 68)]⟩,
            ⟨(some 70), none, .nck (.t 66)⟩,
            ⟨(some 71), none, .fad (.t 70) 1 1⟩,
            ⟨(some 72), none, .iad 64 1 (.t 71) (.t 67)⟩] [
            ⟨none, none, .store 1 (.t 72) (.t 69)⟩])))
         (.ops [
           ⟨(some 73), none, .bin .add false (.t 62) (.c (.raw (.int .i64 (1))))⟩,
           ⟨(some 62), none, .mv (.t 73)⟩]))))))))
       (.seq (.ops [
         ⟨(some 74), none, .tas (.t 17) 50 (.raw (.pointer none))⟩,
         ⟨(some 75), none, .ext (.t 74) 1⟩,
         ⟨(some 76), none, .ext (.t 74) 0⟩])
       (.cond (.t 75)
        (.seq (.ops [
          ⟨(some 11), none, .mv (.t 76)⟩])
        (.ops [
          ⟨(some 77), none, .mv (.t 11)⟩,
          ⟨(some 78), none, .mv (.t 11)⟩,
          ⟨(some 79), none, .nck (.t 78)⟩,
          ⟨(some 80), none, .load false 1 (.t 79)⟩,
          ⟨(some 81), none, .call 50 [(.t 80)]⟩,
          ⟨(some 82), none, .nck (.t 77)⟩,
          ⟨none, none, .store 1 (.t 82) (.t 81)⟩]))
        (.seq (.ops [
          ⟨(some 83), none, .tas (.t 17) 63 (.raw (.pointer none))⟩,
          ⟨(some 84), none, .ext (.t 83) 1⟩,
          ⟨(some 85), none, .ext (.t 83) 0⟩])
        (.cond (.t 84)
         (.seq (.ops [
           ⟨(some 12), none, .mv (.t 85)⟩])
         (.ops [
           ⟨(some 86), none, .mv (.t 12)⟩,
           ⟨(some 87), none, .mv (.t 12)⟩,
           ⟨(some 88), none, .nck (.t 87)⟩,
           ⟨(some 89), none, .load false 1 (.t 88)⟩,
           ⟨(some 90), none, .call 51 [(.t 89)]⟩,
           ⟨(some 91), none, .nck (.t 86)⟩,
           ⟨none, none, .store 1 (.t 91) (.t 90)⟩]))
         (.seq (.ops [
           ⟨(some 92), none, .tas (.t 17) 66 (.raw (.pointer none))⟩,
           ⟨(some 93), none, .ext (.t 92) 1⟩,
           ⟨(some 94), none, .ext (.t 92) 0⟩])
         (.cond (.t 93)
          (.seq (.ops [
            ⟨(some 13), none, .mv (.t 94)⟩])
          (.ops [
            ⟨(some 95), none, .mv (.t 13)⟩,
            ⟨(some 96), none, .mv (.t 13)⟩,
            ⟨(some 97), none, .nck (.t 96)⟩,
            ⟨(some 98), none, .load false 1 (.t 97)⟩,
            ⟨(some 99), none, .call 52 [(.t 98)]⟩,
            ⟨(some 100), none, .nck (.t 95)⟩,
            ⟨none, none, .store 1 (.t 100) (.t 99)⟩]))
          (.seq (.ops [
            ⟨(some 101), none, .tas (.t 17) 69 (.raw (.pointer none))⟩,
            ⟨(some 102), none, .ext (.t 101) 1⟩,
            ⟨(some 103), none, .ext (.t 101) 0⟩])
          (.cond (.t 102)
           (.seq (.ops [
             ⟨(some 14), none, .mv (.t 103)⟩])
           (.ops [
             ⟨(some 104), none, .mv (.t 14)⟩,
             ⟨(some 105), none, .mv (.t 14)⟩,
             ⟨(some 106), none, .nck (.t 105)⟩,
             ⟨(some 107), none, .load false 1 (.t 106)⟩,
             ⟨(some 108), none, .call 53 [(.t 107)]⟩,
             ⟨(some 109), none, .nck (.t 104)⟩,
             ⟨none, none, .store 1 (.t 109) (.t 108)⟩]))
           (.seq (.ops [
             ⟨(some 110), none, .tas (.t 17) 72 (.raw (.pointer none))⟩,
             ⟨(some 111), none, .ext (.t 110) 1⟩,
             ⟨(some 112), none, .ext (.t 110) 0⟩])
           (.cond (.t 111)
            (.seq (.ops [
              ⟨(some 15), none, .mv (.t 112)⟩])
            (.ops [
              ⟨(some 113), none, .mv (.t 15)⟩,
              ⟨(some 114), none, .mv (.t 15)⟩,
              ⟨(some 115), none, .nck (.t 114)⟩,
              ⟨(some 116), none, .load false 1 (.t 115)⟩,
              ⟨(some 117), none, .call 54 [(.t 116)]⟩,
              ⟨(some 118), none, .nck (.t 113)⟩,
              ⟨none, none, .store 1 (.t 118) (.t 117)⟩]))
            (.seq (.ops [
              ⟨(some 119), none, .tai (.t 17) [] (.raw .nilIface)⟩,
              ⟨(some 120), none, .ext (.t 119) 1⟩,
              ⟨(some 121), none, .ext (.t 119) 0⟩])
            (.cond (.t 120)
             (.seq (.ops [
               ⟨(some 16), none, .mv (.t 121)⟩])
             (.ops [
               ⟨(some 122), none, .mv (.t 16)⟩,
               ⟨(some 123), none, .bad⟩]))
             .skip))))))))))))))))))))))
  (.seq (.ops [
    ⟨(some 124), none, .load true 65 (.t 1)⟩,
    ⟨none, none, .store 65 (.t 2) (.t 124)⟩])
  .ret)))
def f67 : DFn := ⟨d67, [.cell 2 true 65], 125⟩
theorem h67 : decFn Try.prog 67 = some f67 := by kernel_rfl

def d68 : DCode :=
  (.seq (.ops [
    ⟨(some 1), none, .box (.t 0)⟩,
    ⟨(some 2), none, .mv (.c (nilS 1))⟩])
  (.seq (.seq (.ops [
    ⟨(some 17), none, .mki 63 (.t 1)⟩])
  (.block 0
   (.seq (.ops [
     ⟨(some 18), none, .tas (.t 17) 51 (.raw (.pointer none))⟩,
     ⟨(some 19), none, .ext (.t 18) 1⟩,
     ⟨(some 20), none, .ext (.t 18) 0⟩])
   (.cond (.t 19)
    (.seq (.ops [
      ⟨(some 3), none, .mv (.t 20)⟩])
    (.ops [
      ⟨(some 21), none, .mv (.t 3)⟩,
      ⟨(some 22), none, .mv (.t 3)⟩,
      ⟨(some 23), none, .nck (.t 22)⟩,
      ⟨(some 24), none, .load false 1 (.t 23)⟩,
      ⟨(some 25), none, .call 48 [(.t 24)]⟩,
      ⟨(some 26), none, .nck (.t 21)⟩,
      ⟨none, none, .store 1 (.t 26) (.t 25)⟩]))
    (.seq (.ops [
      ⟨(some 27), none, .tas (.t 17) 52 (.raw (.pointer none))⟩,
      ⟨(some 28), none, .ext (.t 27) 1⟩,
      ⟨(some 29), none, .ext (.t 27) 0⟩])
    (.cond (.t 28)
     (.seq (.ops [
       ⟨(some 4), none, .mv (.t 29)⟩])
     (.ops [
       ⟨(some 30), none, .mv (.t 4)⟩,
       ⟨(some 31), none, .mv (.t 4)⟩,
       ⟨(some 32), none, .nck (.t 31)⟩,
       ⟨(some 33), none, .load false 1 (.t 32)⟩,
       ⟨(some 34), none, .call 49 [(.t 33)]⟩,
       ⟨(some 35), none, .nck (.t 30)⟩,
       ⟨none, none, .store 1 (.t 35) (.t 34)⟩]))
     (.seq (.ops [
       ⟨(some 36), none, .tas (.t 17) 55 (.raw (.pointer none))⟩,
       ⟨(some 37), none, .ext (.t 36) 1⟩,
       ⟨(some 38), none, .ext (.t 36) 0⟩])
     (.cond (.t 37)
      (.seq (.ops [
        ⟨(some 5), none, .mv (.t 38)⟩])
      (.seq (.ops [
        ⟨(some 39), none, .mv (.t 5)⟩,
        ⟨(some 40), none, .nck (.t 39)⟩,
        ⟨(some 41), none, .fad (.t 40) 1 1⟩,
        ⟨(some 42), none, .load true 64 (.t 41)⟩,
        ⟨(some 43), none, .mv (.c (.raw (.int .i64 (0))))⟩])
      (.block 1
       (.loop
        (.seq (.ops [
          ⟨(some 44), none, .bin .lss false (.t 43) (.c (.raw (.int .i64 (64))))⟩])
        (.seq (.cond (.t 44)
         .skip
         (.exit 1))
        (.seq (.block 2
         (.seq (.ops [
           ⟨(some 45), none, .mv (.t 43)⟩,
           ⟨(some 46), none, .idx 64 (.t 42) (.t 43)⟩,
           ⟨(some 6), none, .mv (.t 45)⟩,
           ⟨(some 7), none, .mv (.t 46)⟩])
         (.drw [
           ⟨(some 47), none, .mv (.t 5)⟩,
           ⟨(some 48), none, .mv (.t 6)⟩,
           ⟨(some 49), none, .mv (.t 7)⟩,
           ⟨(some 50), none, .call 49 [(.t 49)]⟩,
           ⟨(some 51), none, .nck (.t 47)⟩,
           ⟨(some 52), none, .fad (.t 51) 1 1⟩,
           ⟨(some 53), none, .iad 64 1 (.t 52) (.t 48)⟩] [
           ⟨none, none, .store 1 (.t 53) (.t 50)⟩])))
        (.ops [
          ⟨(some 54), none, .bin .add false (.t 43) (.c (.raw (.int .i64 (1))))⟩,
          ⟨(some 43), none, .mv (.t 54)⟩]))))))))
      (.seq (.ops [
        ⟨(some 55), none, .tas (.t 17) 59 (.raw (.pointer none))⟩,
        ⟨(some 56), none, .ext (.t 55) 1⟩,
        ⟨(some 57), none, .ext (.t 55) 0⟩])
      (.cond (.t 56)
       (.seq (.ops [
         ⟨(some 8), none, .mv (.t 57)⟩])
       (.seq (.ops [
         ⟨(some 58), none, .mv (.t 8)⟩,
         ⟨(some 59), none, .nck (.t 58)⟩,
         ⟨(some 60), none, .fad (.t 59) 1 1⟩,
         ⟨(some 61), none, .load true 64 (.t 60)⟩,
         ⟨(some 62), none, .mv (.c (.raw (.int .i64 (0))))⟩])
       (.block 3
        (.loop
         (.seq (.ops [
           ⟨(some 63), none, .bin .lss false (.t 62) (.c (.raw (.int .i64 (64))))⟩])
         (.seq (.cond (.t 63)
          .skip
          (.exit 3))
         (.seq (.block 4
          (.seq (.ops [
            ⟨(some 64), none, .mv (.t 62)⟩,
            ⟨(some 65), none, .idx 64 (.t 61) (.t 62)⟩,
            ⟨(some 9), none, .mv (.t 64)⟩,
            ⟨(some 10), none, .mv (.t 65)⟩])
          (.drw [
            ⟨(some 66), none, .mv (.t 8)⟩,
            ⟨(some 67), none, .mv (.t 9)⟩,
            ⟨(some 68), none, .mv (.t 10)⟩,
            ⟨(some 69), none, .call 48 [(.t 68)]⟩,
            ⟨(some 70), none, .nck (.t 66)⟩,
            ⟨(some 71), none, .fad (.t 70) 1 1⟩,
            ⟨(some 72), none, .iad 64 1 (.t 71) (.t 67)⟩] [
            ⟨none, none, .store 1 (.t 72) (.t 69)⟩])))
         (.ops [
           ⟨(some 73), none, .bin .add false (.t 62) (.c (.raw (.int .i64 (1))))⟩,
           ⟨(some 62), none, .mv (.t 73)⟩]))))))))
       (.seq (.ops [
         ⟨(some 74), none, .tas (.t 17) 50 (.raw (.pointer none))⟩,
         ⟨(some 75), none, .ext (.t 74) 1⟩,
         ⟨(some 76), none, .ext (.t 74) 0⟩])
       (.cond (.t 75)
        (.seq (.ops [
          ⟨(some 11), none, .mv (.t 76)⟩])
        (.ops [
          ⟨(some 77), none, .mv (.t 11)⟩,
          ⟨(some 78), none, .mv (.t 11)⟩,
          ⟨(some 79), none, .nck (.t 78)⟩,
          ⟨(some 80), none, .load false 1 (.t 79)⟩,
          ⟨(some 81), none, .call 50 [(.t 80)]⟩,
          ⟨(some 82), none, .nck (.t 77)⟩,
          ⟨none, none, .store 1 (.t 82) (.t 81)⟩]))
        (.seq (.ops [
          ⟨(some 83), none, .tas (.t 17) 63 (.raw (.pointer none))⟩,
          ⟨(some 84), none, .ext (.t 83) 1⟩,
          ⟨(some 85), none, .ext (.t 83) 0⟩])
        (.cond (.t 84)
         (.seq (.ops [
           ⟨(some 12), none, .mv (.t 85)⟩])
         (.ops [
           ⟨(some 86), none, .mv (.t 12)⟩,
           ⟨(some 87), none, .mv (.t 12)⟩,
           ⟨(some 88), none, .nck (.t 87)⟩,
           ⟨(some 89), none, .load false 1 (.t 88)⟩,
           ⟨(some 90), none, .call 51 [(.t 89)]⟩,
           ⟨(some 91), none, .nck (.t 86)⟩,
           ⟨none, none, .store 1 (.t 91) (.t 90)⟩]))
         (.seq (.ops [
           ⟨(some 92), none, .tas (.t 17) 66 (.raw (.pointer none))⟩,
           ⟨(some 93), none, .ext (.t 92) 1⟩,
           ⟨(some 94), none, .ext (.t 92) 0⟩])
         (.cond (.t 93)
          (.seq (.ops [
            ⟨(some 13), none, .mv (.t 94)⟩])
          (.ops [
            ⟨(some 95), none, .mv (.t 13)⟩,
            ⟨(some 96), none, .mv (.t 13)⟩,
            ⟨(some 97), none, .nck (.t 96)⟩,
            ⟨(some 98), none, .load false 1 (.t 97)⟩,
            ⟨(some 99), none, .call 52 [(.t 98)]⟩,
            ⟨(some 100), none, .nck (.t 95)⟩,
            ⟨none, none, .store 1 (.t 100) (.t 99)⟩]))
          (.seq (.ops [
            ⟨(some 101), none, .tas (.t 17) 69 (.raw (.pointer none))⟩,
            ⟨(some 102), none, .ext (.t 101) 1⟩,
            ⟨(some 103), none, .ext (.t 101) 0⟩])
          (.cond (.t 102)
           (.seq (.ops [
             ⟨(some 14), none, .mv (.t 103)⟩])
           (.ops [
             ⟨(some 104), none, .mv (.t 14)⟩,
             ⟨(some 105), none, .mv (.t 14)⟩,
             ⟨(some 106), none, .nck (.t 105)⟩,
             ⟨(some 107), none, .load false 1 (.t 106)⟩,
             ⟨(some 108), none, .call 53 [(.t 107)]⟩,
             ⟨(some 109), none, .nck (.t 104)⟩,
             ⟨none, none, .store 1 (.t 109) (.t 108)⟩]))
           (.seq (.ops [
             ⟨(some 110), none, .tas (.t 17) 72 (.raw (.pointer none))⟩,
             ⟨(some 111), none, .ext (.t 110) 1⟩,
             ⟨(some 112), none, .ext (.t 110) 0⟩])
           (.cond (.t 111)
            (.seq (.ops [
              ⟨(some 15), none, .mv (.t 112)⟩])
            (.ops [
              ⟨(some 113), none, .mv (.t 15)⟩,
              ⟨(some 114), none, .mv (.t 15)⟩,
              ⟨(some 115), none, .nck (.t 114)⟩,
              ⟨(some 116), none, .load false 1 (.t 115)⟩,
              ⟨(some 117), none, .call 54 [(.t 116)]⟩,
              ⟨(some 118), none, .nck (.t 113)⟩,
              ⟨none, none, .store 1 (.t 118) (.t 117)⟩]))
            (.seq (.ops [
              ⟨(some 119), none, .tai (.t 17) [] (.raw .nilIface)⟩,
              ⟨(some 120), none, .ext (.t 119) 1⟩,
              ⟨(some 121), none, .ext (.t 119) 0⟩])
            (.cond (.t 120)
             (.seq (.ops [
               ⟨(some 16), none, .mv (.t 121)⟩])
             (.ops [
               ⟨(some 122), none, .mv (.t 16)⟩,
               ⟨(some 123), none, .bad⟩]))
             .skip))))))))))))))))))))))
  (.seq (.ops [
    ⟨(some 124), none, .load false 1 (.t 1)⟩,
    ⟨(some 2), none, .mv (.t 124)⟩])
  .ret)))
def f68 : DFn := ⟨d68, [.tmp 2], 125⟩
theorem h68 : decFn Try.prog 68 = some f68 := by kernel_rfl

def d69 : DCode :=
  (.seq (.ops [
    ⟨(some 2), none, .mv (.c (.raw (.int .i64 (0))))⟩])
  (.seq (.ops [
    ⟨(some 3), none, .mv (.t 0)⟩,
    ⟨(some 4), none, .bin .shr false (.t 3) (.c (.raw (.int .u64 (1))))⟩,
    ⟨(some 5), none, .bin .and false (.t 4) (.c (.raw (.int .u64 (6148914691236517205))))⟩,
    ⟨(some 6), none, .mv (.t 0)⟩,
    ⟨(some 7), none, .bin .and false (.t 6) (.c (.raw (.int .u64 (6148914691236517205))))⟩,
    ⟨(some 8), none, .bin .add false (.t 5) (.t 7)⟩,
    ⟨(some 0), none, .mv (.t 8)⟩])
  (.seq (.ops [
    ⟨(some 9), none, .mv (.t 0)⟩,
    ⟨(some 10), none, .bin .shr false (.t 9) (.c (.raw (.int .u64 (2))))⟩,
    ⟨(some 11), none, .bin .and false (.t 10) (.c (.raw (.int .u64 (3689348814741910323))))⟩,
    ⟨(some 12), none, .mv (.t 0)⟩,
    ⟨(some 13), none, .bin .and false (.t 12) (.c (.raw (.int .u64 (3689348814741910323))))⟩,
    ⟨(some 14), none, .bin .add false (.t 11) (.t 13)⟩,
    ⟨(some 0), none, .mv (.t 14)⟩])
  (.seq (.ops [
    ⟨(some 15), none, .mv (.t 0)⟩,
    ⟨(some 16), none, .bin .shr false (.t 15) (.c (.raw (.int .u64 (4))))⟩,
    ⟨(some 17), none, .mv (.t 0)⟩,
    ⟨(some 18), none, .bin .add false (.t 16) (.t 17)⟩,
    ⟨(some 19), none, .bin .and false (.t 18) (.c (.raw (.int .u64 (1085102592571150095))))⟩,
    ⟨(some 0), none, .mv (.t 19)⟩])
  (.seq (.ops [
    ⟨(some 20), none, .mv (.t 0)⟩,
    ⟨(some 21), none, .mv (.t 0)⟩,
    ⟨(some 22), none, .bin .shr false (.t 21) (.c (.raw (.int .u64 (8))))⟩,
    ⟨(some 23), none, .bin .add false (.t 20) (.t 22)⟩,
    ⟨(some 0), none, .mv (.t 23)⟩])
  (.seq (.ops [
    ⟨(some 24), none, .mv (.t 0)⟩,
    ⟨(some 25), none, .mv (.t 0)⟩,
    ⟨(some 26), none, .bin .shr false (.t 25) (.c (.raw (.int .u64 (16))))⟩,
    ⟨(some 27), none, .bin .add false (.t 24) (.t 26)⟩,
    ⟨(some 0), none, .mv (.t 27)⟩])
  (.seq (.ops [
    ⟨(some 28), none, .mv (.t 0)⟩,
    ⟨(some 29), none, .mv (.t 0)⟩,
    ⟨(some 30), none, .bin .shr false (.t 29) (.c (.raw (.int .u64 (32))))⟩,
    ⟨(some 31), none, .bin .add false (.t 28) (.t 30)⟩,
    ⟨(some 0), none, .mv (.t 31)⟩])
  (.seq (.ops [
    ⟨(some 32), none, .mv (.t 0)⟩,
    ⟨(some 33), none, .cvI .i64 (.t 32)⟩,
    ⟨(some 34), none, .bin .and false (.t 33) (.c (.raw (.int .i64 (127))))⟩,
    ⟨(some 2), none, .mv (.t 34)⟩])
  .ret))))))))
def f69 : DFn := ⟨d69, [.tmp 2], 35⟩
theorem h69 : decFn Try.prog 69 = some f69 := by kernel_rfl

def d70 : DCode :=
  (.seq (.ops [
    ⟨(some 2), none, .mv (.c (.raw (.bool false)))⟩])
  (.seq (.ops [
    ⟨(some 3), none, .mv (.t 0)⟩,
    ⟨(some 4), none, .bin .lss false (.t 3) (.c (.flt .f32 0))⟩,
    ⟨(some 2), none, .mv (.t 4)⟩])
  .ret))
def f70 : DFn := ⟨d70, [.tmp 2], 5⟩
theorem h70 : decFn Try.prog 70 = some f70 := by kernel_rfl

def d71 : DCode :=
  (.seq (.ops [
    ⟨(some 4), none, .mv (.c (.raw (.int .i64 (0))))⟩])
  (.seq (.seq (.ops [
    ⟨(some 6), none, .mv (.t 0)⟩,
    ⟨(some 7), none, .len (.t 6)⟩,
    ⟨(some 8), none, .mv (.c (.raw (.int .i64 (0))))⟩])
  (.block 0
   (.loop
    (.seq (.ops [
      ⟨(some 9), none, .bin .lss false (.t 8) (.t 7)⟩])
    (.seq (.cond (.t 9)
     .skip
     (.exit 0))
    (.seq (.block 1
     (.seq (.ops [
       ⟨(some 10), none, .mv (.t 8)⟩,
       ⟨(some 5), none, .mv (.t 10)⟩])
     (.seq (.ops [
       ⟨(some 11), none, .mv (.t 1)⟩,
       ⟨(some 12), none, .mv (.t 0)⟩,
       ⟨(some 13), none, .mv (.t 5)⟩,
       ⟨(some 14), none, .ias 1 (.t 12) (.t 13)⟩,
       ⟨(some 15), none, .load false 1 (.t 14)⟩,
       ⟨(some 16), none, .bin .eql false (.t 11) (.t 15)⟩])
     (.cond (.t 16)
      (.seq (.ops [
        ⟨(some 17), none, .mv (.t 5)⟩,
        ⟨(some 4), none, .mv (.t 17)⟩])
      .ret)
      .skip))))
    (.ops [
      ⟨(some 18), none, .bin .add false (.t 8) (.c (.raw (.int .i64 (1))))⟩,
      ⟨(some 8), none, .mv (.t 18)⟩])))))))
  (.seq (.ops [
    ⟨(some 4), none, .mv (.c (.raw (.int .i64 (-1))))⟩])
  .ret)))
def f71 : DFn := ⟨d71, [.tmp 4], 19⟩
theorem h71 : decFn Try.prog 71 = some f71 := by kernel_rfl
end Go.Proofs.Ytpcakgdagmcopaa
