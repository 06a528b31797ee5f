/- The functions that the laws reach, in the compact code, held against the program. -/
import Derived.Test.YtfkbgfpidolhhaaFwCut
import Derived.Test.YtfkbgfpidolhhaaRows
namespace Go.Proofs.Ytfkbgfpidolhhaa
open Go Go.Fw
theorem hmix : Try.prog.follows .mixedOrders = true := by kernel_rfl

def d3 : DCode :=
  (.seq (.ops [
    ⟨(some 0), none, .mv (.c (.raw (.bool false)))⟩])
  (.seq (.cond (.c (.raw (.bool false)))
   (.seq (.ops [
     ⟨(some 0), none, .mv (.c (.raw (.bool false)))⟩])
   .ret)
   .skip)
  (.seq (.cond (.c (.raw (.bool false)))
   (.seq (.ops [
     ⟨(some 0), none, .mv (.c (.raw (.bool false)))⟩])
   .ret)
   .skip)
  (.seq (.cond (.c (.raw (.bool false)))
   (.seq (.ops [
     ⟨(some 0), none, .mv (.c (.raw (.bool false)))⟩])
   .ret)
   .skip)
  (.seq (.cond (.c (.raw (.bool false)))
   (.seq (.ops [
     ⟨(some 0), none, .mv (.c (.raw (.bool false)))⟩])
   .ret)
   .skip)
  (.seq (.cond (.c (.raw (.bool false)))
   (.seq (.ops [
     ⟨(some 0), none, .mv (.c (.raw (.bool false)))⟩])
   .ret)
   .skip)
  (.seq (.cond (.c (.raw (.bool false)))
   (.seq (.ops [
     ⟨(some 0), none, .mv (.c (.raw (.bool false)))⟩])
   .ret)
   .skip)
  (.seq (.cond (.c (.raw (.bool false)))
   (.seq (.ops [
     ⟨(some 0), none, .mv (.c (.raw (.bool false)))⟩])
   .ret)
   .skip)
  (.seq (.cond (.c (.raw (.bool false)))
   (.seq (.ops [
     ⟨(some 0), none, .mv (.c (.raw (.bool false)))⟩])
   .ret)
   .skip)
  (.seq (.cond (.c (.raw (.bool false)))
   (.seq (.ops [
     ⟨(some 0), none, .mv (.c (.raw (.bool false)))⟩])
   .ret)
   .skip)
  (.seq (.cond (.c (.raw (.bool false)))
   (.seq (.ops [
     ⟨(some 0), none, .mv (.c (.raw (.bool false)))⟩])
   .ret)
   .skip)
  (.seq (.cond (.c (.raw (.bool false)))
   (.seq (.ops [
     ⟨(some 0), none, .mv (.c (.raw (.bool false)))⟩])
   .ret)
   .skip)
  (.seq (.cond (.c (.raw (.bool false)))
   (.seq (.ops [
     ⟨(some 0), none, .mv (.c (.raw (.bool false)))⟩])
   .ret)
   .skip)
  (.seq (.cond (.c (.raw (.bool false)))
   (.seq (.ops [
     ⟨(some 0), none, .mv (.c (.raw (.bool false)))⟩])
   .ret)
   .skip)
  (.seq (.cond (.c (.raw (.bool false)))
   (.seq (.ops [
     ⟨(some 0), none, .mv (.c (.raw (.bool false)))⟩])
   .ret)
   .skip)
  (.seq (.cond (.c (.raw (.bool false)))
   (.seq (.ops [
     ⟨(some 0), none, .mv (.c (.raw (.bool false)))⟩])
   .ret)
   .skip)
  (.seq (.cond (.c (.raw (.bool false)))
   (.seq (.ops [
     ⟨(some 0), none, .mv (.c (.raw (.bool false)))⟩])
   .ret)
   .skip)
  (.seq (.cond (.c (.raw (.bool false)))
   (.seq (.ops [
     ⟨(some 0), none, .mv (.c (.raw (.bool false)))⟩])
   .ret)
   .skip)
  (.seq (.cond (.c (.raw (.bool false)))
   (.seq (.ops [
     ⟨(some 0), none, .mv (.c (.raw (.bool false)))⟩])
   .ret)
   .skip)
  (.seq (.cond (.c (.raw (.bool false)))
   (.seq (.ops [
     ⟨(some 0), none, .mv (.c (.raw (.bool false)))⟩])
   .ret)
   .skip)
  (.seq (.cond (.c (.raw (.bool false)))
   (.seq (.ops [
     ⟨(some 0), none, .mv (.c (.raw (.bool false)))⟩])
   .ret)
   .skip)
  (.seq (.cond (.c (.raw (.bool false)))
   (.seq (.ops [
     ⟨(some 0), none, .mv (.c (.raw (.bool false)))⟩])
   .ret)
   .skip)
  (.seq (.cond (.c (.raw (.bool false)))
   (.seq (.ops [
     ⟨(some 0), none, .mv (.c (.raw (.bool false)))⟩])
   .ret)
   .skip)
  (.seq (.cond (.c (.raw (.bool false)))
   (.seq (.ops [
     ⟨(some 0), none, .mv (.c (.raw (.bool false)))⟩])
   .ret)
   .skip)
  (.seq (.ops [
    ⟨(some 0), none, .mv (.c (.raw (.bool true)))⟩])
  .ret)))))))))))))))))))))))))
def f3 : DFn := ⟨d3, [.tmp 0], 1⟩
theorem h3 : decFn Try.prog 3 = some f3 := by kernel_rfl

def d4 : DCode :=
  (.seq (.ops [
    ⟨(some 4), none, .mv (.c (.raw (.bool false)))⟩])
  (.seq (.ops [
    ⟨(some 10), none, .mv (.t 0)⟩,
    ⟨(some 11), none, .mv (.t 1)⟩,
    ⟨(some 12), none, .call 13 [(.t 10), (.t 11)]⟩,
    ⟨(some 9), none, .mv (.t 12)⟩,
    ⟨(some 13), none, .ext (.t 9) 0⟩,
    ⟨(some 14), none, .ext (.t 9) 1⟩,
    ⟨(some 5), none, .mv (.t 13)⟩,
    ⟨(some 6), none, .mv (.t 14)⟩])
  (.seq (.ops [
    ⟨(some 16), none, .mv (.t 0)⟩,
    ⟨(some 17), none, .mv (.t 1)⟩,
    ⟨(some 18), none, .call 14 [(.t 16), (.t 17)]⟩,
    ⟨(some 15), none, .mv (.t 18)⟩,
    ⟨(some 19), none, .ext (.t 15) 0⟩,
    ⟨(some 20), none, .ext (.t 15) 1⟩,
    ⟨(some 7), none, .mv (.t 19)⟩,
    ⟨(some 8), none, .mv (.t 20)⟩])
  (.seq (.seq (.ops [
    ⟨(some 21), none, .mv (.t 7)⟩,
    ⟨(some 22), none, .mv (.t 5)⟩,
    ⟨(some 23), none, .bin .neq false (.t 21) (.t 22)⟩,
    ⟨(some 24), none, .mv (.t 23)⟩,
    ⟨(some 25), (some (24, false)), .mv (.t 8)⟩,
    ⟨(some 26), (some (24, false)), .mv (.t 6)⟩,
    ⟨(some 27), (some (24, false)), .bin .neq false (.t 25) (.t 26)⟩,
    ⟨(some 28), none, .pick (.t 24) (.c (.raw (.bool true))) (.t 27)⟩])
  (.cond (.t 28)
   (.seq (.ops [
     ⟨(some 4), none, .mv (.c (.raw (.bool false)))⟩])
   .ret)
   .skip))
  (.seq (.ops [
    ⟨(some 4), none, .mv (.c (.raw (.bool true)))⟩])
  .ret)))))
def f4 : DFn := ⟨d4, [.tmp 4], 29⟩
theorem h4 : decFn Try.prog 4 = some f4 := by kernel_rfl

def d5 : DCode :=
  (.seq (.ops [
    ⟨(some 4), none, .mv (.c (.raw (.bool false)))⟩])
  (.seq (.ops [
    ⟨(some 10), none, .mv (.t 0)⟩,
    ⟨(some 11), none, .mv (.t 1)⟩,
    ⟨(some 12), none, .call 15 [(.t 10), (.t 11)]⟩,
    ⟨(some 9), none, .mv (.t 12)⟩,
    ⟨(some 13), none, .ext (.t 9) 0⟩,
    ⟨(some 14), none, .ext (.t 9) 1⟩,
    ⟨(some 5), none, .mv (.t 13)⟩,
    ⟨(some 6), none, .mv (.t 14)⟩])
  (.seq (.ops [
    ⟨(some 16), none, .mv (.t 0)⟩,
    ⟨(some 17), none, .mv (.t 1)⟩,
    ⟨(some 18), none, .call 16 [(.t 16), (.t 17)]⟩,
    ⟨(some 15), none, .mv (.t 18)⟩,
    ⟨(some 19), none, .ext (.t 15) 0⟩,
    ⟨(some 20), none, .ext (.t 15) 1⟩,
    ⟨(some 7), none, .mv (.t 19)⟩,
    ⟨(some 8), none, .mv (.t 20)⟩])
  (.seq (.seq (.ops [
    ⟨(some 21), none, .mv (.t 7)⟩,
    ⟨(some 22), none, .mv (.t 5)⟩,
    ⟨(some 23), none, .bin .neq false (.t 21) (.t 22)⟩,
    ⟨(some 24), none, .mv (.t 23)⟩,
    ⟨(some 25), (some (24, false)), .mv (.t 8)⟩,
    ⟨(some 26), (some (24, false)), .mv (.t 6)⟩,
    ⟨(some 27), (some (24, false)), .bin .neq false (.t 25) (.t 26)⟩,
    ⟨(some 28), none, .pick (.t 24) (.c (.raw (.bool true))) (.t 27)⟩])
  (.cond (.t 28)
   (.seq (.ops [
     ⟨(some 4), none, .mv (.c (.raw (.bool false)))⟩])
   .ret)
   .skip))
  (.seq (.ops [
    ⟨(some 4), none, .mv (.c (.raw (.bool true)))⟩])
  .ret)))))
def f5 : DFn := ⟨d5, [.tmp 4], 29⟩
theorem h5 : decFn Try.prog 5 = some f5 := by kernel_rfl

def d6 : DCode :=
  (.seq (.ops [
    ⟨(some 4), none, .mv (.c (.raw (.bool false)))⟩])
  (.seq (.seq (.ops [
    ⟨(some 8), none, .mv (.t 1)⟩,
    ⟨(some 9), none, .len (.t 8)⟩,
    ⟨(some 10), none, .bin .gtr false (.t 9) (.c (.raw (.int .i64 (1048576))))⟩])
  (.cond (.t 10)
   (.seq (.ops [
     ⟨(some 4), none, .mv (.c (.raw (.bool true)))⟩])
   .ret)
   .skip))
  (.seq (.ops [
    ⟨(some 11), none, .mv (.t 0)⟩,
    ⟨(some 12), none, .mv (.t 1)⟩,
    ⟨(some 13), none, .call 18 [(.t 12)]⟩,
    ⟨(some 14), none, .call 17 [(.t 11), (.t 13)]⟩,
    ⟨(some 5), none, .mv (.t 14)⟩])
  (.seq (.ops [
    ⟨(some 15), none, .mv (.t 1)⟩,
    ⟨(some 16), none, .call 18 [(.t 15)]⟩,
    ⟨(some 6), none, .mv (.t 16)⟩])
  (.seq (.ops [
    ⟨(some 17), none, .mv (.t 0)⟩,
    ⟨(some 18), none, .mv (.t 6)⟩,
    ⟨(some 19), none, .call 19 [(.t 17), (.t 18)]⟩,
    ⟨(some 7), none, .mv (.t 19)⟩])
  (.seq (.seq (.ops [
    ⟨(some 20), none, .mv (.t 7)⟩,
    ⟨(some 21), none, .mv (.t 5)⟩,
    ⟨(some 22), none, .bin .neq true (.t 20) (.t 21)⟩])
  (.cond (.t 22)
   (.seq (.ops [
     ⟨(some 4), none, .mv (.c (.raw (.bool false)))⟩])
   .ret)
   .skip))
  (.seq (.seq (.ops [
    ⟨(some 23), none, .mv (.t 6)⟩,
    ⟨(some 24), none, .mv (.t 1)⟩,
    ⟨(some 25), none, .call 18 [(.t 24)]⟩,
    ⟨(some 26), none, .call 20 [(.t 23), (.t 25)]⟩,
    ⟨(some 27), none, .un .not (.t 26)⟩])
  (.cond (.t 27)
   (.seq (.ops [
     ⟨(some 4), none, .mv (.c (.raw (.bool false)))⟩])
   .ret)
   .skip))
  (.seq (.ops [
    ⟨(some 4), none, .mv (.c (.raw (.bool true)))⟩])
  .ret))))))))
def f6 : DFn := ⟨d6, [.tmp 4], 28⟩
theorem h6 : decFn Try.prog 6 = some f6 := by kernel_rfl

def d7 : DCode :=
  (.seq (.ops [
    ⟨(some 4), none, .mv (.c (.raw (.bool false)))⟩])
  (.seq (.ops [
    ⟨(some 14), none, .mv (.t 0)⟩,
    ⟨(some 15), none, .mv (.t 1)⟩,
    ⟨(some 16), none, .call 21 [(.t 14), (.t 15)]⟩,
    ⟨(some 13), none, .mv (.t 16)⟩,
    ⟨(some 17), none, .ext (.t 13) 0⟩,
    ⟨(some 18), none, .ext (.t 13) 1⟩,
    ⟨(some 5), none, .mv (.t 17)⟩,
    ⟨(some 6), none, .mv (.t 18)⟩])
  (.seq (.ops [
    ⟨(some 20), none, .mv (.t 0)⟩,
    ⟨(some 21), none, .mv (.t 1)⟩,
    ⟨(some 22), none, .call 22 [(.t 20), (.t 21)]⟩,
    ⟨(some 19), none, .mv (.t 22)⟩,
    ⟨(some 23), none, .ext (.t 19) 0⟩,
    ⟨(some 24), none, .ext (.t 19) 1⟩,
    ⟨(some 7), none, .mv (.t 23)⟩,
    ⟨(some 8), none, .mv (.t 24)⟩])
  (.seq (.seq (.ops [
    ⟨(some 25), none, .mv (.t 7)⟩,
    ⟨(some 26), none, .mv (.t 5)⟩,
    ⟨(some 27), none, .call 23 [(.t 25), (.t 26)]⟩,
    ⟨(some 28), none, .un .not (.t 27)⟩,
    ⟨(some 29), none, .mv (.t 28)⟩,
    ⟨(some 30), (some (29, false)), .mv (.t 8)⟩,
    ⟨(some 31), (some (29, false)), .mv (.t 6)⟩,
    ⟨(some 32), (some (29, false)), .bin .neq false (.t 30) (.t 31)⟩,
    ⟨(some 33), none, .pick (.t 29) (.c (.raw (.bool true))) (.t 32)⟩])
  (.cond (.t 33)
   (.seq (.ops [
     ⟨(some 4), none, .mv (.c (.raw (.bool false)))⟩])
   .ret)
   .skip))
  (.seq (.ops [
    ⟨(some 9), none, .mv (.c (.raw (.int .i64 (1))))⟩])
  (.seq (.ops [
    ⟨(some 34), none, .mv (.t 7)⟩,
    ⟨(some 35), none, .mv (.t 9)⟩,
    ⟨(some 36), none, .call 24 [(.t 34), (.t 35)]⟩,
    ⟨(some 9), none, .mv (.t 36)⟩])
  (.seq (.ops [
    ⟨(some 10), none, .mv (.c (.raw (.int .i64 (1))))⟩])
  (.seq (.ops [
    ⟨(some 37), none, .mv (.t 7)⟩,
    ⟨(some 38), none, .mv (.t 10)⟩,
    ⟨(some 39), none, .call 25 [(.t 37), (.t 38)]⟩,
    ⟨(some 10), none, .mv (.t 39)⟩])
  (.seq (.seq (.ops [
    ⟨(some 40), none, .mv (.t 10)⟩,
    ⟨(some 41), none, .bin .lss false (.t 40) (.c (.raw (.int .i64 (0))))⟩])
  (.cond (.t 41)
   (.seq (.ops [
     ⟨(some 4), none, .mv (.c (.raw (.bool false)))⟩])
   .ret)
   .skip))
  (.seq (.seq (.ops [
    ⟨(some 42), none, .mv (.t 10)⟩,
    ⟨(some 43), none, .mv (.t 9)⟩,
    ⟨(some 44), none, .bin .neq false (.t 42) (.t 43)⟩])
  (.cond (.t 44)
   (.seq (.ops [
     ⟨(some 4), none, .mv (.c (.raw (.bool false)))⟩])
   .ret)
   .skip))
  (.seq (.ops [
    ⟨(some 46), none, .mv (.t 0)⟩,
    ⟨(some 47), none, .mv (.t 1)⟩,
    ⟨(some 48), none, .call 22 [(.t 46), (.t 47)]⟩,
    ⟨(some 45), none, .mv (.t 48)⟩,
    ⟨(some 49), none, .ext (.t 45) 0⟩,
    ⟨(some 50), none, .ext (.t 45) 1⟩,
    ⟨(some 11), none, .mv (.t 49)⟩,
    ⟨(some 12), none, .mv (.t 50)⟩])
  (.seq (.seq (.ops [
    ⟨(some 51), none, .mv (.t 11)⟩,
    ⟨(some 52), none, .mv (.t 5)⟩,
    ⟨(some 53), none, .call 23 [(.t 51), (.t 52)]⟩,
    ⟨(some 54), none, .un .not (.t 53)⟩,
    ⟨(some 55), none, .mv (.t 54)⟩,
    ⟨(some 56), (some (55, false)), .mv (.t 12)⟩,
    ⟨(some 57), (some (55, false)), .mv (.t 6)⟩,
    ⟨(some 58), (some (55, false)), .bin .neq false (.t 56) (.t 57)⟩,
    ⟨(some 59), none, .pick (.t 55) (.c (.raw (.bool true))) (.t 58)⟩])
  (.cond (.t 59)
   (.seq (.ops [
     ⟨(some 4), none, .mv (.c (.raw (.bool false)))⟩])
   .ret)
   .skip))
  (.seq (.ops [
    ⟨(some 10), none, .mv (.c (.raw (.int .i64 (1))))⟩])
  (.seq (.ops [
    ⟨(some 60), none, .mv (.t 7)⟩,
    ⟨(some 61), none, .mv (.t 10)⟩,
    ⟨(some 62), none, .call 25 [(.t 60), (.t 61)]⟩,
    ⟨(some 10), none, .mv (.t 62)⟩])
  (.seq (.seq (.ops [
    ⟨(some 63), none, .mv (.t 10)⟩,
    ⟨(some 64), none, .bin .lss false (.t 63) (.c (.raw (.int .i64 (0))))⟩])
  (.cond (.t 64)
   (.seq (.ops [
     ⟨(some 4), none, .mv (.c (.raw (.bool false)))⟩])
   .ret)
   .skip))
  (.seq (.seq (.ops [
    ⟨(some 65), none, .mv (.t 10)⟩,
    ⟨(some 66), none, .mv (.t 9)⟩,
    ⟨(some 67), none, .bin .neq false (.t 65) (.t 66)⟩])
  (.cond (.t 67)
   (.seq (.ops [
     ⟨(some 4), none, .mv (.c (.raw (.bool false)))⟩])
   .ret)
   .skip))
  (.seq (.ops [
    ⟨(some 4), none, .mv (.c (.raw (.bool true)))⟩])
  .ret)))))))))))))))))
def f7 : DFn := ⟨d7, [.tmp 4], 68⟩
theorem h7 : decFn Try.prog 7 = some f7 := by kernel_rfl

def d8 : DCode :=
  (.seq (.ops [
    ⟨(some 4), none, .mv (.c (.raw (.bool false)))⟩])
  (.seq (.seq (.ops [
    ⟨(some 15), none, .mv (.t 1)⟩,
    ⟨(some 16), none, .len (.t 15)⟩,
    ⟨(some 17), none, .bin .gtr false (.t 16) (.c (.raw (.int .i64 (1048576))))⟩])
  (.cond (.t 17)
   (.seq (.ops [
     ⟨(some 4), none, .mv (.c (.raw (.bool true)))⟩])
   .ret)
   .skip))
  (.seq (.ops [
    ⟨(some 19), none, .mv (.t 0)⟩,
    ⟨(some 20), none, .mv (.t 1)⟩,
    ⟨(some 21), none, .call 18 [(.t 20)]⟩,
    ⟨(some 22), none, .call 26 [(.t 19), (.t 21)]⟩,
    ⟨(some 18), none, .mv (.t 22)⟩,
    ⟨(some 23), none, .ext (.t 18) 0⟩,
    ⟨(some 24), none, .ext (.t 18) 1⟩,
    ⟨(some 5), none, .mv (.t 23)⟩,
    ⟨(some 6), none, .mv (.t 24)⟩])
  (.seq (.ops [
    ⟨(some 25), none, .mv (.t 1)⟩,
    ⟨(some 26), none, .call 18 [(.t 25)]⟩,
    ⟨(some 7), none, .mv (.t 26)⟩])
  (.seq (.ops [
    ⟨(some 28), none, .mv (.t 0)⟩,
    ⟨(some 29), none, .mv (.t 7)⟩,
    ⟨(some 30), none, .call 27 [(.t 28), (.t 29)]⟩,
    ⟨(some 27), none, .mv (.t 30)⟩,
    ⟨(some 31), none, .ext (.t 27) 0⟩,
    ⟨(some 32), none, .ext (.t 27) 1⟩,
    ⟨(some 8), none, .mv (.t 31)⟩,
    ⟨(some 9), none, .mv (.t 32)⟩])
  (.seq (.seq (.ops [
    ⟨(some 33), none, .mv (.t 8)⟩,
    ⟨(some 34), none, .mv (.t 5)⟩,
    ⟨(some 35), none, .call 20 [(.t 33), (.t 34)]⟩,
    ⟨(some 36), none, .un .not (.t 35)⟩,
    ⟨(some 37), none, .mv (.t 36)⟩,
    ⟨(some 38), (some (37, false)), .mv (.t 9)⟩,
    ⟨(some 39), (some (37, false)), .mv (.t 6)⟩,
    ⟨(some 40), (some (37, false)), .bin .neq false (.t 38) (.t 39)⟩,
    ⟨(some 41), none, .pick (.t 37) (.c (.raw (.bool true))) (.t 40)⟩])
  (.cond (.t 41)
   (.seq (.ops [
     ⟨(some 4), none, .mv (.c (.raw (.bool false)))⟩])
   .ret)
   .skip))
  (.seq (.seq (.ops [
    ⟨(some 42), none, .mv (.t 7)⟩,
    ⟨(some 43), none, .mv (.t 1)⟩,
    ⟨(some 44), none, .call 18 [(.t 43)]⟩,
    ⟨(some 45), none, .call 20 [(.t 42), (.t 44)]⟩,
    ⟨(some 46), none, .un .not (.t 45)⟩])
  (.cond (.t 46)
   (.seq (.ops [
     ⟨(some 4), none, .mv (.c (.raw (.bool false)))⟩])
   .ret)
   .skip))
  (.seq (.ops [
    ⟨(some 10), none, .mv (.c (.raw (.int .i64 (1))))⟩])
  (.seq (.ops [
    ⟨(some 47), none, .mv (.t 7)⟩,
    ⟨(some 48), none, .mv (.t 10)⟩,
    ⟨(some 49), none, .call 28 [(.t 47), (.t 48)]⟩,
    ⟨(some 10), none, .mv (.t 49)⟩])
  (.seq (.seq (.ops [
    ⟨(some 50), none, .mv (.t 10)⟩,
    ⟨(some 51), none, .bin .lss false (.t 50) (.c (.raw (.int .i64 (0))))⟩,
    ⟨(some 52), none, .mv (.t 51)⟩,
    ⟨(some 53), (some (52, false)), .mv (.t 8)⟩,
    ⟨(some 54), (some (52, false)), .mv (.t 5)⟩,
    ⟨(some 55), (some (52, false)), .call 20 [(.t 53), (.t 54)]⟩,
    ⟨(some 56), (some (52, false)), .un .not (.t 55)⟩,
    ⟨(some 57), none, .pick (.t 52) (.c (.raw (.bool true))) (.t 56)⟩,
    ⟨(some 58), none, .mv (.t 57)⟩,
    ⟨(some 59), (some (58, false)), .mv (.t 9)⟩,
    ⟨(some 60), (some (58, false)), .mv (.t 6)⟩,
    ⟨(some 61), (some (58, false)), .bin .neq false (.t 59) (.t 60)⟩,
    ⟨(some 62), none, .pick (.t 58) (.c (.raw (.bool true))) (.t 61)⟩])
  (.cond (.t 62)
   (.seq (.ops [
     ⟨(some 4), none, .mv (.c (.raw (.bool false)))⟩])
   .ret)
   .skip))
  (.seq (.ops [
    ⟨(some 11), none, .mv (.c (.raw (.int .i64 (1))))⟩])
  (.seq (.ops [
    ⟨(some 63), none, .mv (.t 8)⟩,
    ⟨(some 64), none, .mv (.t 11)⟩,
    ⟨(some 65), none, .call 28 [(.t 63), (.t 64)]⟩,
    ⟨(some 11), none, .mv (.t 65)⟩])
  (.seq (.ops [
    ⟨(some 12), none, .mv (.c (.raw (.int .i64 (1))))⟩])
  (.seq (.ops [
    ⟨(some 66), none, .mv (.t 8)⟩,
    ⟨(some 67), none, .mv (.t 12)⟩,
    ⟨(some 68), none, .call 29 [(.t 66), (.t 67)]⟩,
    ⟨(some 12), none, .mv (.t 68)⟩])
  (.seq (.seq (.ops [
    ⟨(some 69), none, .mv (.t 12)⟩,
    ⟨(some 70), none, .bin .lss false (.t 69) (.c (.raw (.int .i64 (0))))⟩])
  (.cond (.t 70)
   (.seq (.ops [
     ⟨(some 4), none, .mv (.c (.raw (.bool false)))⟩])
   .ret)
   .skip))
  (.seq (.seq (.ops [
    ⟨(some 71), none, .mv (.t 12)⟩,
    ⟨(some 72), none, .mv (.t 11)⟩,
    ⟨(some 73), none, .bin .neq false (.t 71) (.t 72)⟩])
  (.cond (.t 73)
   (.seq (.ops [
     ⟨(some 4), none, .mv (.c (.raw (.bool false)))⟩])
   .ret)
   .skip))
  (.seq (.ops [
    ⟨(some 75), none, .mv (.t 0)⟩,
    ⟨(some 76), none, .mv (.t 1)⟩,
    ⟨(some 77), none, .call 18 [(.t 76)]⟩,
    ⟨(some 78), none, .call 27 [(.t 75), (.t 77)]⟩,
    ⟨(some 74), none, .mv (.t 78)⟩,
    ⟨(some 79), none, .ext (.t 74) 0⟩,
    ⟨(some 80), none, .ext (.t 74) 1⟩,
    ⟨(some 13), none, .mv (.t 79)⟩,
    ⟨(some 14), none, .mv (.t 80)⟩])
  (.seq (.seq (.ops [
    ⟨(some 81), none, .mv (.t 13)⟩,
    ⟨(some 82), none, .mv (.t 5)⟩,
    ⟨(some 83), none, .call 20 [(.t 81), (.t 82)]⟩,
    ⟨(some 84), none, .un .not (.t 83)⟩,
    ⟨(some 85), none, .mv (.t 84)⟩,
    ⟨(some 86), (some (85, false)), .mv (.t 14)⟩,
    ⟨(some 87), (some (85, false)), .mv (.t 6)⟩,
    ⟨(some 88), (some (85, false)), .bin .neq false (.t 86) (.t 87)⟩,
    ⟨(some 89), none, .pick (.t 85) (.c (.raw (.bool true))) (.t 88)⟩])
  (.cond (.t 89)
   (.seq (.ops [
     ⟨(some 4), none, .mv (.c (.raw (.bool false)))⟩])
   .ret)
   .skip))
  (.seq (.ops [
    ⟨(some 12), none, .mv (.c (.raw (.int .i64 (1))))⟩])
  (.seq (.ops [
    ⟨(some 90), none, .mv (.t 8)⟩,
    ⟨(some 91), none, .mv (.t 12)⟩,
    ⟨(some 92), none, .call 29 [(.t 90), (.t 91)]⟩,
    ⟨(some 12), none, .mv (.t 92)⟩])
  (.seq (.seq (.ops [
    ⟨(some 93), none, .mv (.t 12)⟩,
    ⟨(some 94), none, .bin .lss false (.t 93) (.c (.raw (.int .i64 (0))))⟩])
  (.cond (.t 94)
   (.seq (.ops [
     ⟨(some 4), none, .mv (.c (.raw (.bool false)))⟩])
   .ret)
   .skip))
  (.seq (.seq (.ops [
    ⟨(some 95), none, .mv (.t 12)⟩,
    ⟨(some 96), none, .mv (.t 11)⟩,
    ⟨(some 97), none, .bin .neq false (.t 95) (.t 96)⟩])
  (.cond (.t 97)
   (.seq (.ops [
     ⟨(some 4), none, .mv (.c (.raw (.bool false)))⟩])
   .ret)
   .skip))
  (.seq (.ops [
    ⟨(some 4), none, .mv (.c (.raw (.bool true)))⟩])
  .ret)))))))))))))))))))))))
def f8 : DFn := ⟨d8, [.tmp 4], 98⟩
theorem h8 : decFn Try.prog 8 = some f8 := by kernel_rfl

def d9 : DCode :=
  (.seq (.ops [
    ⟨(some 4), none, .mv (.c (.raw (.bool false)))⟩])
  (.seq (.seq (.ops [
    ⟨(some 15), none, .mv (.t 1)⟩,
    ⟨(some 16), none, .len (.t 15)⟩,
    ⟨(some 17), none, .bin .gtr false (.t 16) (.c (.raw (.int .i64 (1048576))))⟩])
  (.cond (.t 17)
   (.seq (.ops [
     ⟨(some 4), none, .mv (.c (.raw (.bool true)))⟩])
   .ret)
   .skip))
  (.seq (.ops [
    ⟨(some 19), none, .mv (.t 0)⟩,
    ⟨(some 20), none, .mv (.t 1)⟩,
    ⟨(some 21), none, .call 18 [(.t 20)]⟩,
    ⟨(some 22), none, .call 30 [(.t 19), (.t 21)]⟩,
    ⟨(some 18), none, .mv (.t 22)⟩,
    ⟨(some 23), none, .ext (.t 18) 0⟩,
    ⟨(some 24), none, .ext (.t 18) 1⟩,
    ⟨(some 5), none, .mv (.t 23)⟩,
    ⟨(some 6), none, .mv (.t 24)⟩])
  (.seq (.ops [
    ⟨(some 25), none, .mv (.t 1)⟩,
    ⟨(some 26), none, .call 18 [(.t 25)]⟩,
    ⟨(some 7), none, .mv (.t 26)⟩])
  (.seq (.ops [
    ⟨(some 28), none, .mv (.t 0)⟩,
    ⟨(some 29), none, .mv (.t 7)⟩,
    ⟨(some 30), none, .call 31 [(.t 28), (.t 29)]⟩,
    ⟨(some 27), none, .mv (.t 30)⟩,
    ⟨(some 31), none, .ext (.t 27) 0⟩,
    ⟨(some 32), none, .ext (.t 27) 1⟩,
    ⟨(some 8), none, .mv (.t 31)⟩,
    ⟨(some 9), none, .mv (.t 32)⟩])
  (.seq (.seq (.ops [
    ⟨(some 33), none, .mv (.t 8)⟩,
    ⟨(some 34), none, .mv (.t 5)⟩,
    ⟨(some 35), none, .call 20 [(.t 33), (.t 34)]⟩,
    ⟨(some 36), none, .un .not (.t 35)⟩,
    ⟨(some 37), none, .mv (.t 36)⟩,
    ⟨(some 38), (some (37, false)), .mv (.t 9)⟩,
    ⟨(some 39), (some (37, false)), .mv (.t 6)⟩,
    ⟨(some 40), (some (37, false)), .bin .neq false (.t 38) (.t 39)⟩,
    ⟨(some 41), none, .pick (.t 37) (.c (.raw (.bool true))) (.t 40)⟩])
  (.cond (.t 41)
   (.seq (.ops [
     ⟨(some 4), none, .mv (.c (.raw (.bool false)))⟩])
   .ret)
   .skip))
  (.seq (.seq (.ops [
    ⟨(some 42), none, .mv (.t 7)⟩,
    ⟨(some 43), none, .mv (.t 1)⟩,
    ⟨(some 44), none, .call 18 [(.t 43)]⟩,
    ⟨(some 45), none, .call 20 [(.t 42), (.t 44)]⟩,
    ⟨(some 46), none, .un .not (.t 45)⟩])
  (.cond (.t 46)
   (.seq (.ops [
     ⟨(some 4), none, .mv (.c (.raw (.bool false)))⟩])
   .ret)
   .skip))
  (.seq (.ops [
    ⟨(some 10), none, .mv (.c (.raw (.int .i64 (1))))⟩])
  (.seq (.ops [
    ⟨(some 47), none, .mv (.t 7)⟩,
    ⟨(some 48), none, .mv (.t 10)⟩,
    ⟨(some 49), none, .call 28 [(.t 47), (.t 48)]⟩,
    ⟨(some 10), none, .mv (.t 49)⟩])
  (.seq (.seq (.ops [
    ⟨(some 50), none, .mv (.t 10)⟩,
    ⟨(some 51), none, .bin .lss false (.t 50) (.c (.raw (.int .i64 (0))))⟩,
    ⟨(some 52), none, .mv (.t 51)⟩,
    ⟨(some 53), (some (52, false)), .mv (.t 8)⟩,
    ⟨(some 54), (some (52, false)), .mv (.t 5)⟩,
    ⟨(some 55), (some (52, false)), .call 20 [(.t 53), (.t 54)]⟩,
    ⟨(some 56), (some (52, false)), .un .not (.t 55)⟩,
    ⟨(some 57), none, .pick (.t 52) (.c (.raw (.bool true))) (.t 56)⟩,
    ⟨(some 58), none, .mv (.t 57)⟩,
    ⟨(some 59), (some (58, false)), .mv (.t 9)⟩,
    ⟨(some 60), (some (58, false)), .mv (.t 6)⟩,
    ⟨(some 61), (some (58, false)), .bin .neq false (.t 59) (.t 60)⟩,
    ⟨(some 62), none, .pick (.t 58) (.c (.raw (.bool true))) (.t 61)⟩])
  (.cond (.t 62)
   (.seq (.ops [
     ⟨(some 4), none, .mv (.c (.raw (.bool false)))⟩])
   .ret)
   .skip))
  (.seq (.ops [
    ⟨(some 11), none, .mv (.c (.raw (.int .i64 (1))))⟩])
  (.seq (.ops [
    ⟨(some 63), none, .mv (.t 8)⟩,
    ⟨(some 64), none, .mv (.t 11)⟩,
    ⟨(some 65), none, .call 28 [(.t 63), (.t 64)]⟩,
    ⟨(some 11), none, .mv (.t 65)⟩])
  (.seq (.ops [
    ⟨(some 12), none, .mv (.c (.raw (.int .i64 (1))))⟩])
  (.seq (.ops [
    ⟨(some 66), none, .mv (.t 8)⟩,
    ⟨(some 67), none, .mv (.t 12)⟩,
    ⟨(some 68), none, .call 29 [(.t 66), (.t 67)]⟩,
    ⟨(some 12), none, .mv (.t 68)⟩])
  (.seq (.seq (.ops [
    ⟨(some 69), none, .mv (.t 12)⟩,
    ⟨(some 70), none, .bin .lss false (.t 69) (.c (.raw (.int .i64 (0))))⟩])
  (.cond (.t 70)
   (.seq (.ops [
     ⟨(some 4), none, .mv (.c (.raw (.bool false)))⟩])
   .ret)
   .skip))
  (.seq (.seq (.ops [
    ⟨(some 71), none, .mv (.t 12)⟩,
    ⟨(some 72), none, .mv (.t 11)⟩,
    ⟨(some 73), none, .bin .neq false (.t 71) (.t 72)⟩])
  (.cond (.t 73)
   (.seq (.ops [
     ⟨(some 4), none, .mv (.c (.raw (.bool false)))⟩])
   .ret)
   .skip))
  (.seq (.ops [
    ⟨(some 75), none, .mv (.t 0)⟩,
    ⟨(some 76), none, .mv (.t 1)⟩,
    ⟨(some 77), none, .call 18 [(.t 76)]⟩,
    ⟨(some 78), none, .call 31 [(.t 75), (.t 77)]⟩,
    ⟨(some 74), none, .mv (.t 78)⟩,
    ⟨(some 79), none, .ext (.t 74) 0⟩,
    ⟨(some 80), none, .ext (.t 74) 1⟩,
    ⟨(some 13), none, .mv (.t 79)⟩,
    ⟨(some 14), none, .mv (.t 80)⟩])
  (.seq (.seq (.ops [
    ⟨(some 81), none, .mv (.t 13)⟩,
    ⟨(some 82), none, .mv (.t 5)⟩,
    ⟨(some 83), none, .call 20 [(.t 81), (.t 82)]⟩,
    ⟨(some 84), none, .un .not (.t 83)⟩,
    ⟨(some 85), none, .mv (.t 84)⟩,
    ⟨(some 86), (some (85, false)), .mv (.t 14)⟩,
    ⟨(some 87), (some (85, false)), .mv (.t 6)⟩,
    ⟨(some 88), (some (85, false)), .bin .neq false (.t 86) (.t 87)⟩,
    ⟨(some 89), none, .pick (.t 85) (.c (.raw (.bool true))) (.t 88)⟩])
  (.cond (.t 89)
   (.seq (.ops [
     ⟨(some 4), none, .mv (.c (.raw (.bool false)))⟩])
   .ret)
   .skip))
  (.seq (.ops [
    ⟨(some 12), none, .mv (.c (.raw (.int .i64 (1))))⟩])
  (.seq (.ops [
    ⟨(some 90), none, .mv (.t 8)⟩,
    ⟨(some 91), none, .mv (.t 12)⟩,
    ⟨(some 92), none, .call 29 [(.t 90), (.t 91)]⟩,
    ⟨(some 12), none, .mv (.t 92)⟩])
  (.seq (.seq (.ops [
    ⟨(some 93), none, .mv (.t 12)⟩,
    ⟨(some 94), none, .bin .lss false (.t 93) (.c (.raw (.int .i64 (0))))⟩])
  (.cond (.t 94)
   (.seq (.ops [
     ⟨(some 4), none, .mv (.c (.raw (.bool false)))⟩])
   .ret)
   .skip))
  (.seq (.seq (.ops [
    ⟨(some 95), none, .mv (.t 12)⟩,
    ⟨(some 96), none, .mv (.t 11)⟩,
    ⟨(some 97), none, .bin .neq false (.t 95) (.t 96)⟩])
  (.cond (.t 97)
   (.seq (.ops [
     ⟨(some 4), none, .mv (.c (.raw (.bool false)))⟩])
   .ret)
   .skip))
  (.seq (.ops [
    ⟨(some 4), none, .mv (.c (.raw (.bool true)))⟩])
  .ret)))))))))))))))))))))))
def f9 : DFn := ⟨d9, [.tmp 4], 98⟩
theorem h9 : decFn Try.prog 9 = some f9 := by kernel_rfl

def d10 : DCode :=
  (.seq (.ops [
    ⟨(some 6), none, .mv (.c (.raw (.bool false)))⟩])
  (.seq (.ops [
    ⟨(some 7), none, .mv (.c (.raw (.int .i64 (1048576))))⟩])
  (.seq (.ops [
    ⟨(some 18), none, .mv (.t 2)⟩,
    ⟨(some 19), none, .mv (.t 7)⟩,
    ⟨(some 20), none, .call 32 [(.t 18), (.t 19)]⟩,
    ⟨(some 7), none, .mv (.t 20)⟩])
  (.seq (.seq (.ops [
    ⟨(some 21), none, .mv (.t 7)⟩,
    ⟨(some 22), none, .bin .lss false (.t 21) (.c (.raw (.int .i64 (0))))⟩])
  (.cond (.t 22)
   (.seq (.ops [
     ⟨(some 6), none, .mv (.c (.raw (.bool true)))⟩])
   .ret)
   .skip))
  (.seq (.ops [
    ⟨(some 24), none, .mv (.t 0)⟩,
    ⟨(some 25), none, .mv (.t 1)⟩,
    ⟨(some 26), none, .mv (.t 2)⟩,
    ⟨(some 27), none, .call 34 [(.t 26)]⟩,
    ⟨(some 28), none, .call 33 [(.t 24), (.t 25), (.t 27)]⟩,
    ⟨(some 23), none, .mv (.t 28)⟩,
    ⟨(some 29), none, .ext (.t 23) 0⟩,
    ⟨(some 30), none, .ext (.t 23) 1⟩,
    ⟨(some 8), none, .mv (.t 29)⟩,
    ⟨(some 9), none, .mv (.t 30)⟩])
  (.seq (.ops [
    ⟨(some 31), none, .mv (.t 2)⟩,
    ⟨(some 32), none, .call 34 [(.t 31)]⟩,
    ⟨(some 10), none, .mv (.t 32)⟩])
  (.seq (.ops [
    ⟨(some 34), none, .mv (.t 0)⟩,
    ⟨(some 35), none, .mv (.t 1)⟩,
    ⟨(some 36), none, .mv (.t 10)⟩,
    ⟨(some 37), none, .call 35 [(.t 34), (.t 35), (.t 36)]⟩,
    ⟨(some 33), none, .mv (.t 37)⟩,
    ⟨(some 38), none, .ext (.t 33) 0⟩,
    ⟨(some 39), none, .ext (.t 33) 1⟩,
    ⟨(some 11), none, .mv (.t 38)⟩,
    ⟨(some 12), none, .mv (.t 39)⟩])
  (.seq (.seq (.ops [
    ⟨(some 40), none, .mv (.t 11)⟩,
    ⟨(some 41), none, .mv (.t 8)⟩,
    ⟨(some 42), none, .call 20 [(.t 40), (.t 41)]⟩,
    ⟨(some 43), none, .un .not (.t 42)⟩,
    ⟨(some 44), none, .mv (.t 43)⟩,
    ⟨(some 45), (some (44, false)), .mv (.t 12)⟩,
    ⟨(some 46), (some (44, false)), .mv (.t 9)⟩,
    ⟨(some 47), (some (44, false)), .bin .neq false (.t 45) (.t 46)⟩,
    ⟨(some 48), none, .pick (.t 44) (.c (.raw (.bool true))) (.t 47)⟩])
  (.cond (.t 48)
   (.seq (.ops [
     ⟨(some 6), none, .mv (.c (.raw (.bool false)))⟩])
   .ret)
   .skip))
  (.seq (.seq (.ops [
    ⟨(some 49), none, .mv (.t 10)⟩,
    ⟨(some 50), none, .mv (.t 2)⟩,
    ⟨(some 51), none, .call 34 [(.t 50)]⟩,
    ⟨(some 52), none, .call 23 [(.t 49), (.t 51)]⟩,
    ⟨(some 53), none, .un .not (.t 52)⟩])
  (.cond (.t 53)
   (.seq (.ops [
     ⟨(some 6), none, .mv (.c (.raw (.bool false)))⟩])
   .ret)
   .skip))
  (.seq (.ops [
    ⟨(some 13), none, .mv (.c (.raw (.int .i64 (1))))⟩])
  (.seq (.ops [
    ⟨(some 54), none, .mv (.t 10)⟩,
    ⟨(some 55), none, .mv (.t 13)⟩,
    ⟨(some 56), none, .call 24 [(.t 54), (.t 55)]⟩,
    ⟨(some 13), none, .mv (.t 56)⟩])
  (.seq (.seq (.ops [
    ⟨(some 57), none, .mv (.t 13)⟩,
    ⟨(some 58), none, .bin .lss false (.t 57) (.c (.raw (.int .i64 (0))))⟩,
    ⟨(some 59), none, .mv (.t 58)⟩,
    ⟨(some 60), (some (59, false)), .mv (.t 11)⟩,
    ⟨(some 61), (some (59, false)), .mv (.t 8)⟩,
    ⟨(some 62), (some (59, false)), .call 20 [(.t 60), (.t 61)]⟩,
    ⟨(some 63), (some (59, false)), .un .not (.t 62)⟩,
    ⟨(some 64), none, .pick (.t 59) (.c (.raw (.bool true))) (.t 63)⟩,
    ⟨(some 65), none, .mv (.t 64)⟩,
    ⟨(some 66), (some (65, false)), .mv (.t 12)⟩,
    ⟨(some 67), (some (65, false)), .mv (.t 9)⟩,
    ⟨(some 68), (some (65, false)), .bin .neq false (.t 66) (.t 67)⟩,
    ⟨(some 69), none, .pick (.t 65) (.c (.raw (.bool true))) (.t 68)⟩])
  (.cond (.t 69)
   (.seq (.ops [
     ⟨(some 6), none, .mv (.c (.raw (.bool false)))⟩])
   .ret)
   .skip))
  (.seq (.ops [
    ⟨(some 14), none, .mv (.c (.raw (.int .i64 (1))))⟩])
  (.seq (.ops [
    ⟨(some 70), none, .mv (.t 11)⟩,
    ⟨(some 71), none, .mv (.t 14)⟩,
    ⟨(some 72), none, .call 28 [(.t 70), (.t 71)]⟩,
    ⟨(some 14), none, .mv (.t 72)⟩])
  (.seq (.ops [
    ⟨(some 15), none, .mv (.c (.raw (.int .i64 (1))))⟩])
  (.seq (.ops [
    ⟨(some 73), none, .mv (.t 11)⟩,
    ⟨(some 74), none, .mv (.t 15)⟩,
    ⟨(some 75), none, .call 29 [(.t 73), (.t 74)]⟩,
    ⟨(some 15), none, .mv (.t 75)⟩])
  (.seq (.seq (.ops [
    ⟨(some 76), none, .mv (.t 15)⟩,
    ⟨(some 77), none, .bin .lss false (.t 76) (.c (.raw (.int .i64 (0))))⟩])
  (.cond (.t 77)
   (.seq (.ops [
     ⟨(some 6), none, .mv (.c (.raw (.bool false)))⟩])
   .ret)
   .skip))
  (.seq (.seq (.ops [
    ⟨(some 78), none, .mv (.t 15)⟩,
    ⟨(some 79), none, .mv (.t 14)⟩,
    ⟨(some 80), none, .bin .neq false (.t 78) (.t 79)⟩])
  (.cond (.t 80)
   (.seq (.ops [
     ⟨(some 6), none, .mv (.c (.raw (.bool false)))⟩])
   .ret)
   .skip))
  (.seq (.ops [
    ⟨(some 82), none, .mv (.t 0)⟩,
    ⟨(some 83), none, .mv (.t 1)⟩,
    ⟨(some 84), none, .mv (.t 2)⟩,
    ⟨(some 85), none, .call 34 [(.t 84)]⟩,
    ⟨(some 86), none, .call 35 [(.t 82), (.t 83), (.t 85)]⟩,
    ⟨(some 81), none, .mv (.t 86)⟩,
    ⟨(some 87), none, .ext (.t 81) 0⟩,
    ⟨(some 88), none, .ext (.t 81) 1⟩,
    ⟨(some 16), none, .mv (.t 87)⟩,
    ⟨(some 17), none, .mv (.t 88)⟩])
  (.seq (.seq (.ops [
    ⟨(some 89), none, .mv (.t 16)⟩,
    ⟨(some 90), none, .mv (.t 8)⟩,
    ⟨(some 91), none, .call 20 [(.t 89), (.t 90)]⟩,
    ⟨(some 92), none, .un .not (.t 91)⟩,
    ⟨(some 93), none, .mv (.t 92)⟩,
    ⟨(some 94), (some (93, false)), .mv (.t 17)⟩,
    ⟨(some 95), (some (93, false)), .mv (.t 9)⟩,
    ⟨(some 96), (some (93, false)), .bin .neq false (.t 94) (.t 95)⟩,
    ⟨(some 97), none, .pick (.t 93) (.c (.raw (.bool true))) (.t 96)⟩])
  (.cond (.t 97)
   (.seq (.ops [
     ⟨(some 6), none, .mv (.c (.raw (.bool false)))⟩])
   .ret)
   .skip))
  (.seq (.ops [
    ⟨(some 15), none, .mv (.c (.raw (.int .i64 (1))))⟩])
  (.seq (.ops [
    ⟨(some 98), none, .mv (.t 11)⟩,
    ⟨(some 99), none, .mv (.t 15)⟩,
    ⟨(some 100), none, .call 29 [(.t 98), (.t 99)]⟩,
    ⟨(some 15), none, .mv (.t 100)⟩])
  (.seq (.seq (.ops [
    ⟨(some 101), none, .mv (.t 15)⟩,
    ⟨(some 102), none, .bin .lss false (.t 101) (.c (.raw (.int .i64 (0))))⟩])
  (.cond (.t 102)
   (.seq (.ops [
     ⟨(some 6), none, .mv (.c (.raw (.bool false)))⟩])
   .ret)
   .skip))
  (.seq (.seq (.ops [
    ⟨(some 103), none, .mv (.t 15)⟩,
    ⟨(some 104), none, .mv (.t 14)⟩,
    ⟨(some 105), none, .bin .neq false (.t 103) (.t 104)⟩])
  (.cond (.t 105)
   (.seq (.ops [
     ⟨(some 6), none, .mv (.c (.raw (.bool false)))⟩])
   .ret)
   .skip))
  (.seq (.ops [
    ⟨(some 6), none, .mv (.c (.raw (.bool true)))⟩])
  .ret)))))))))))))))))))))))))
def f10 : DFn := ⟨d10, [.tmp 6], 106⟩
theorem h10 : decFn Try.prog 10 = some f10 := by kernel_rfl

def d11 : DCode :=
  (.seq (.ops [
    ⟨(some 4), none, .mv (.c (.raw (.bool false)))⟩])
  (.seq (.seq (.ops [
    ⟨(some 15), none, .mv (.t 1)⟩,
    ⟨(some 16), none, .len (.t 15)⟩,
    ⟨(some 17), none, .bin .gtr false (.t 16) (.c (.raw (.int .i64 (1048576))))⟩])
  (.cond (.t 17)
   (.seq (.ops [
     ⟨(some 4), none, .mv (.c (.raw (.bool true)))⟩])
   .ret)
   .skip))
  (.seq (.ops [
    ⟨(some 19), none, .mv (.t 0)⟩,
    ⟨(some 20), none, .mv (.t 1)⟩,
    ⟨(some 21), none, .call 18 [(.t 20)]⟩,
    ⟨(some 22), none, .call 36 [(.t 19), (.t 21)]⟩,
    ⟨(some 18), none, .mv (.t 22)⟩,
    ⟨(some 23), none, .ext (.t 18) 0⟩,
    ⟨(some 24), none, .ext (.t 18) 1⟩,
    ⟨(some 5), none, .mv (.t 23)⟩,
    ⟨(some 6), none, .mv (.t 24)⟩])
  (.seq (.ops [
    ⟨(some 25), none, .mv (.t 1)⟩,
    ⟨(some 26), none, .call 18 [(.t 25)]⟩,
    ⟨(some 7), none, .mv (.t 26)⟩])
  (.seq (.ops [
    ⟨(some 28), none, .mv (.t 0)⟩,
    ⟨(some 29), none, .mv (.t 7)⟩,
    ⟨(some 30), none, .call 37 [(.t 28), (.t 29)]⟩,
    ⟨(some 27), none, .mv (.t 30)⟩,
    ⟨(some 31), none, .ext (.t 27) 0⟩,
    ⟨(some 32), none, .ext (.t 27) 1⟩,
    ⟨(some 8), none, .mv (.t 31)⟩,
    ⟨(some 9), none, .mv (.t 32)⟩])
  (.seq (.seq (.ops [
    ⟨(some 33), none, .mv (.t 8)⟩,
    ⟨(some 34), none, .mv (.t 5)⟩,
    ⟨(some 35), none, .call 20 [(.t 33), (.t 34)]⟩,
    ⟨(some 36), none, .un .not (.t 35)⟩,
    ⟨(some 37), none, .mv (.t 36)⟩,
    ⟨(some 38), (some (37, false)), .mv (.t 9)⟩,
    ⟨(some 39), (some (37, false)), .mv (.t 6)⟩,
    ⟨(some 40), (some (37, false)), .bin .neq false (.t 38) (.t 39)⟩,
    ⟨(some 41), none, .pick (.t 37) (.c (.raw (.bool true))) (.t 40)⟩])
  (.cond (.t 41)
   (.seq (.ops [
     ⟨(some 4), none, .mv (.c (.raw (.bool false)))⟩])
   .ret)
   .skip))
  (.seq (.seq (.ops [
    ⟨(some 42), none, .mv (.t 7)⟩,
    ⟨(some 43), none, .mv (.t 1)⟩,
    ⟨(some 44), none, .call 18 [(.t 43)]⟩,
    ⟨(some 45), none, .call 20 [(.t 42), (.t 44)]⟩,
    ⟨(some 46), none, .un .not (.t 45)⟩])
  (.cond (.t 46)
   (.seq (.ops [
     ⟨(some 4), none, .mv (.c (.raw (.bool false)))⟩])
   .ret)
   .skip))
  (.seq (.ops [
    ⟨(some 10), none, .mv (.c (.raw (.int .i64 (1))))⟩])
  (.seq (.ops [
    ⟨(some 47), none, .mv (.t 7)⟩,
    ⟨(some 48), none, .mv (.t 10)⟩,
    ⟨(some 49), none, .call 28 [(.t 47), (.t 48)]⟩,
    ⟨(some 10), none, .mv (.t 49)⟩])
  (.seq (.seq (.ops [
    ⟨(some 50), none, .mv (.t 10)⟩,
    ⟨(some 51), none, .bin .lss false (.t 50) (.c (.raw (.int .i64 (0))))⟩,
    ⟨(some 52), none, .mv (.t 51)⟩,
    ⟨(some 53), (some (52, false)), .mv (.t 8)⟩,
    ⟨(some 54), (some (52, false)), .mv (.t 5)⟩,
    ⟨(some 55), (some (52, false)), .call 20 [(.t 53), (.t 54)]⟩,
    ⟨(some 56), (some (52, false)), .un .not (.t 55)⟩,
    ⟨(some 57), none, .pick (.t 52) (.c (.raw (.bool true))) (.t 56)⟩,
    ⟨(some 58), none, .mv (.t 57)⟩,
    ⟨(some 59), (some (58, false)), .mv (.t 9)⟩,
    ⟨(some 60), (some (58, false)), .mv (.t 6)⟩,
    ⟨(some 61), (some (58, false)), .bin .neq false (.t 59) (.t 60)⟩,
    ⟨(some 62), none, .pick (.t 58) (.c (.raw (.bool true))) (.t 61)⟩])
  (.cond (.t 62)
   (.seq (.ops [
     ⟨(some 4), none, .mv (.c (.raw (.bool false)))⟩])
   .ret)
   .skip))
  (.seq (.ops [
    ⟨(some 11), none, .mv (.c (.raw (.int .i64 (1))))⟩])
  (.seq (.ops [
    ⟨(some 63), none, .mv (.t 8)⟩,
    ⟨(some 64), none, .mv (.t 11)⟩,
    ⟨(some 65), none, .call 28 [(.t 63), (.t 64)]⟩,
    ⟨(some 11), none, .mv (.t 65)⟩])
  (.seq (.ops [
    ⟨(some 12), none, .mv (.c (.raw (.int .i64 (1))))⟩])
  (.seq (.ops [
    ⟨(some 66), none, .mv (.t 8)⟩,
    ⟨(some 67), none, .mv (.t 12)⟩,
    ⟨(some 68), none, .call 29 [(.t 66), (.t 67)]⟩,
    ⟨(some 12), none, .mv (.t 68)⟩])
  (.seq (.seq (.ops [
    ⟨(some 69), none, .mv (.t 12)⟩,
    ⟨(some 70), none, .bin .lss false (.t 69) (.c (.raw (.int .i64 (0))))⟩])
  (.cond (.t 70)
   (.seq (.ops [
     ⟨(some 4), none, .mv (.c (.raw (.bool false)))⟩])
   .ret)
   .skip))
  (.seq (.seq (.ops [
    ⟨(some 71), none, .mv (.t 12)⟩,
    ⟨(some 72), none, .mv (.t 11)⟩,
    ⟨(some 73), none, .bin .neq false (.t 71) (.t 72)⟩])
  (.cond (.t 73)
   (.seq (.ops [
     ⟨(some 4), none, .mv (.c (.raw (.bool false)))⟩])
   .ret)
   .skip))
  (.seq (.ops [
    ⟨(some 75), none, .mv (.t 0)⟩,
    ⟨(some 76), none, .mv (.t 1)⟩,
    ⟨(some 77), none, .call 18 [(.t 76)]⟩,
    ⟨(some 78), none, .call 37 [(.t 75), (.t 77)]⟩,
    ⟨(some 74), none, .mv (.t 78)⟩,
    ⟨(some 79), none, .ext (.t 74) 0⟩,
    ⟨(some 80), none, .ext (.t 74) 1⟩,
    ⟨(some 13), none, .mv (.t 79)⟩,
    ⟨(some 14), none, .mv (.t 80)⟩])
  (.seq (.seq (.ops [
    ⟨(some 81), none, .mv (.t 13)⟩,
    ⟨(some 82), none, .mv (.t 5)⟩,
    ⟨(some 83), none, .call 20 [(.t 81), (.t 82)]⟩,
    ⟨(some 84), none, .un .not (.t 83)⟩,
    ⟨(some 85), none, .mv (.t 84)⟩,
    ⟨(some 86), (some (85, false)), .mv (.t 14)⟩,
    ⟨(some 87), (some (85, false)), .mv (.t 6)⟩,
    ⟨(some 88), (some (85, false)), .bin .neq false (.t 86) (.t 87)⟩,
    ⟨(some 89), none, .pick (.t 85) (.c (.raw (.bool true))) (.t 88)⟩])
  (.cond (.t 89)
   (.seq (.ops [
     ⟨(some 4), none, .mv (.c (.raw (.bool false)))⟩])
   .ret)
   .skip))
  (.seq (.ops [
    ⟨(some 12), none, .mv (.c (.raw (.int .i64 (1))))⟩])
  (.seq (.ops [
    ⟨(some 90), none, .mv (.t 8)⟩,
    ⟨(some 91), none, .mv (.t 12)⟩,
    ⟨(some 92), none, .call 29 [(.t 90), (.t 91)]⟩,
    ⟨(some 12), none, .mv (.t 92)⟩])
  (.seq (.seq (.ops [
    ⟨(some 93), none, .mv (.t 12)⟩,
    ⟨(some 94), none, .bin .lss false (.t 93) (.c (.raw (.int .i64 (0))))⟩])
  (.cond (.t 94)
   (.seq (.ops [
     ⟨(some 4), none, .mv (.c (.raw (.bool false)))⟩])
   .ret)
   .skip))
  (.seq (.seq (.ops [
    ⟨(some 95), none, .mv (.t 12)⟩,
    ⟨(some 96), none, .mv (.t 11)⟩,
    ⟨(some 97), none, .bin .neq false (.t 95) (.t 96)⟩])
  (.cond (.t 97)
   (.seq (.ops [
     ⟨(some 4), none, .mv (.c (.raw (.bool false)))⟩])
   .ret)
   .skip))
  (.seq (.ops [
    ⟨(some 4), none, .mv (.c (.raw (.bool true)))⟩])
  .ret)))))))))))))))))))))))
def f11 : DFn := ⟨d11, [.tmp 4], 98⟩
theorem h11 : decFn Try.prog 11 = some f11 := by kernel_rfl

def d12 : DCode :=
  (.seq (.ops [
    ⟨(some 4), none, .mv (.c (.raw (.bool false)))⟩])
  (.seq (.seq (.ops [
    ⟨(some 15), none, .mv (.t 1)⟩,
    ⟨(some 16), none, .len (.t 15)⟩,
    ⟨(some 17), none, .bin .gtr false (.t 16) (.c (.raw (.int .i64 (1048576))))⟩])
  (.cond (.t 17)
   (.seq (.ops [
     ⟨(some 4), none, .mv (.c (.raw (.bool true)))⟩])
   .ret)
   .skip))
  (.seq (.ops [
    ⟨(some 19), none, .mv (.t 0)⟩,
    ⟨(some 20), none, .mv (.t 1)⟩,
    ⟨(some 21), none, .call 18 [(.t 20)]⟩,
    ⟨(some 22), none, .call 38 [(.t 19), (.t 21)]⟩,
    ⟨(some 18), none, .mv (.t 22)⟩,
    ⟨(some 23), none, .ext (.t 18) 0⟩,
    ⟨(some 24), none, .ext (.t 18) 1⟩,
    ⟨(some 5), none, .mv (.t 23)⟩,
    ⟨(some 6), none, .mv (.t 24)⟩])
  (.seq (.ops [
    ⟨(some 25), none, .mv (.t 1)⟩,
    ⟨(some 26), none, .call 18 [(.t 25)]⟩,
    ⟨(some 7), none, .mv (.t 26)⟩])
  (.seq (.ops [
    ⟨(some 28), none, .mv (.t 0)⟩,
    ⟨(some 29), none, .mv (.t 7)⟩,
    ⟨(some 30), none, .call 39 [(.t 28), (.t 29)]⟩,
    ⟨(some 27), none, .mv (.t 30)⟩,
    ⟨(some 31), none, .ext (.t 27) 0⟩,
    ⟨(some 32), none, .ext (.t 27) 1⟩,
    ⟨(some 8), none, .mv (.t 31)⟩,
    ⟨(some 9), none, .mv (.t 32)⟩])
  (.seq (.seq (.ops [
    ⟨(some 33), none, .mv (.t 8)⟩,
    ⟨(some 34), none, .mv (.t 5)⟩,
    ⟨(some 35), none, .call 20 [(.t 33), (.t 34)]⟩,
    ⟨(some 36), none, .un .not (.t 35)⟩,
    ⟨(some 37), none, .mv (.t 36)⟩,
    ⟨(some 38), (some (37, false)), .mv (.t 9)⟩,
    ⟨(some 39), (some (37, false)), .mv (.t 6)⟩,
    ⟨(some 40), (some (37, false)), .bin .neq false (.t 38) (.t 39)⟩,
    ⟨(some 41), none, .pick (.t 37) (.c (.raw (.bool true))) (.t 40)⟩])
  (.cond (.t 41)
   (.seq (.ops [
     ⟨(some 4), none, .mv (.c (.raw (.bool false)))⟩])
   .ret)
   .skip))
  (.seq (.seq (.ops [
    ⟨(some 42), none, .mv (.t 7)⟩,
    ⟨(some 43), none, .mv (.t 1)⟩,
    ⟨(some 44), none, .call 18 [(.t 43)]⟩,
    ⟨(some 45), none, .call 20 [(.t 42), (.t 44)]⟩,
    ⟨(some 46), none, .un .not (.t 45)⟩])
  (.cond (.t 46)
   (.seq (.ops [
     ⟨(some 4), none, .mv (.c (.raw (.bool false)))⟩])
   .ret)
   .skip))
  (.seq (.ops [
    ⟨(some 10), none, .mv (.c (.raw (.int .i64 (1))))⟩])
  (.seq (.ops [
    ⟨(some 47), none, .mv (.t 7)⟩,
    ⟨(some 48), none, .mv (.t 10)⟩,
    ⟨(some 49), none, .call 28 [(.t 47), (.t 48)]⟩,
    ⟨(some 10), none, .mv (.t 49)⟩])
  (.seq (.seq (.ops [
    ⟨(some 50), none, .mv (.t 10)⟩,
    ⟨(some 51), none, .bin .lss false (.t 50) (.c (.raw (.int .i64 (0))))⟩,
    ⟨(some 52), none, .mv (.t 51)⟩,
    ⟨(some 53), (some (52, false)), .mv (.t 8)⟩,
    ⟨(some 54), (some (52, false)), .mv (.t 5)⟩,
    ⟨(some 55), (some (52, false)), .call 20 [(.t 53), (.t 54)]⟩,
    ⟨(some 56), (some (52, false)), .un .not (.t 55)⟩,
    ⟨(some 57), none, .pick (.t 52) (.c (.raw (.bool true))) (.t 56)⟩,
    ⟨(some 58), none, .mv (.t 57)⟩,
    ⟨(some 59), (some (58, false)), .mv (.t 9)⟩,
    ⟨(some 60), (some (58, false)), .mv (.t 6)⟩,
    ⟨(some 61), (some (58, false)), .bin .neq false (.t 59) (.t 60)⟩,
    ⟨(some 62), none, .pick (.t 58) (.c (.raw (.bool true))) (.t 61)⟩])
  (.cond (.t 62)
   (.seq (.ops [
     ⟨(some 4), none, .mv (.c (.raw (.bool false)))⟩])
   .ret)
   .skip))
  (.seq (.ops [
    ⟨(some 11), none, .mv (.c (.raw (.int .i64 (1))))⟩])
  (.seq (.ops [
    ⟨(some 63), none, .mv (.t 8)⟩,
    ⟨(some 64), none, .mv (.t 11)⟩,
    ⟨(some 65), none, .call 28 [(.t 63), (.t 64)]⟩,
    ⟨(some 11), none, .mv (.t 65)⟩])
  (.seq (.ops [
    ⟨(some 12), none, .mv (.c (.raw (.int .i64 (1))))⟩])
  (.seq (.ops [
    ⟨(some 66), none, .mv (.t 8)⟩,
    ⟨(some 67), none, .mv (.t 12)⟩,
    ⟨(some 68), none, .call 29 [(.t 66), (.t 67)]⟩,
    ⟨(some 12), none, .mv (.t 68)⟩])
  (.seq (.seq (.ops [
    ⟨(some 69), none, .mv (.t 12)⟩,
    ⟨(some 70), none, .bin .lss false (.t 69) (.c (.raw (.int .i64 (0))))⟩])
  (.cond (.t 70)
   (.seq (.ops [
     ⟨(some 4), none, .mv (.c (.raw (.bool false)))⟩])
   .ret)
   .skip))
  (.seq (.seq (.ops [
    ⟨(some 71), none, .mv (.t 12)⟩,
    ⟨(some 72), none, .mv (.t 11)⟩,
    ⟨(some 73), none, .bin .neq false (.t 71) (.t 72)⟩])
  (.cond (.t 73)
   (.seq (.ops [
     ⟨(some 4), none, .mv (.c (.raw (.bool false)))⟩])
   .ret)
   .skip))
  (.seq (.ops [
    ⟨(some 75), none, .mv (.t 0)⟩,
    ⟨(some 76), none, .mv (.t 1)⟩,
    ⟨(some 77), none, .call 18 [(.t 76)]⟩,
    ⟨(some 78), none, .call 39 [(.t 75), (.t 77)]⟩,
    ⟨(some 74), none, .mv (.t 78)⟩,
    ⟨(some 79), none, .ext (.t 74) 0⟩,
    ⟨(some 80), none, .ext (.t 74) 1⟩,
    ⟨(some 13), none, .mv (.t 79)⟩,
    ⟨(some 14), none, .mv (.t 80)⟩])
  (.seq (.seq (.ops [
    ⟨(some 81), none, .mv (.t 13)⟩,
    ⟨(some 82), none, .mv (.t 5)⟩,
    ⟨(some 83), none, .call 20 [(.t 81), (.t 82)]⟩,
    ⟨(some 84), none, .un .not (.t 83)⟩,
    ⟨(some 85), none, .mv (.t 84)⟩,
    ⟨(some 86), (some (85, false)), .mv (.t 14)⟩,
    ⟨(some 87), (some (85, false)), .mv (.t 6)⟩,
    ⟨(some 88), (some (85, false)), .bin .neq false (.t 86) (.t 87)⟩,
    ⟨(some 89), none, .pick (.t 85) (.c (.raw (.bool true))) (.t 88)⟩])
  (.cond (.t 89)
   (.seq (.ops [
     ⟨(some 4), none, .mv (.c (.raw (.bool false)))⟩])
   .ret)
   .skip))
  (.seq (.ops [
    ⟨(some 12), none, .mv (.c (.raw (.int .i64 (1))))⟩])
  (.seq (.ops [
    ⟨(some 90), none, .mv (.t 8)⟩,
    ⟨(some 91), none, .mv (.t 12)⟩,
    ⟨(some 92), none, .call 29 [(.t 90), (.t 91)]⟩,
    ⟨(some 12), none, .mv (.t 92)⟩])
  (.seq (.seq (.ops [
    ⟨(some 93), none, .mv (.t 12)⟩,
    ⟨(some 94), none, .bin .lss false (.t 93) (.c (.raw (.int .i64 (0))))⟩])
  (.cond (.t 94)
   (.seq (.ops [
     ⟨(some 4), none, .mv (.c (.raw (.bool false)))⟩])
   .ret)
   .skip))
  (.seq (.seq (.ops [
    ⟨(some 95), none, .mv (.t 12)⟩,
    ⟨(some 96), none, .mv (.t 11)⟩,
    ⟨(some 97), none, .bin .neq false (.t 95) (.t 96)⟩])
  (.cond (.t 97)
   (.seq (.ops [
     ⟨(some 4), none, .mv (.c (.raw (.bool false)))⟩])
   .ret)
   .skip))
  (.seq (.ops [
    ⟨(some 4), none, .mv (.c (.raw (.bool true)))⟩])
  .ret)))))))))))))))))))))))
def f12 : DFn := ⟨d12, [.tmp 4], 98⟩
theorem h12 : decFn Try.prog 12 = some f12 := by kernel_rfl

def d13 : DCode :=
  (.seq (.ops [
    ⟨(some 4), none, .mv (.c (.raw (.int .i64 (0))))⟩,
    ⟨(some 5), none, .mv (.c (.raw (.int .i64 (0))))⟩])
  (.seq (.seq (.ops [
    ⟨(some 6), none, .mv (.t 0)⟩,
    ⟨(some 7), none, .call 40 [(.t 6), (.c (.raw (.int .i64 (-100000)))), (.c (.raw (.int .i64 (100000))))]⟩,
    ⟨(some 8), none, .un .not (.t 7)⟩,
    ⟨(some 9), none, .mv (.t 8)⟩,
    ⟨(some 10), (some (9, false)), .mv (.t 1)⟩,
    ⟨(some 11), (some (9, false)), .call 40 [(.t 10), (.c (.raw (.int .i64 (-100000)))), (.c (.raw (.int .i64 (100000))))]⟩,
    ⟨(some 12), (some (9, false)), .un .not (.t 11)⟩,
    ⟨(some 13), none, .pick (.t 9) (.c (.raw (.bool true))) (.t 12)⟩])
  (.cond (.t 13)
   (.seq (.ops [
     ⟨(some 4), none, .mv (.c (.raw (.int .i64 (0))))⟩,
     ⟨(some 5), none, .mv (.c (.raw (.int .i64 (2))))⟩])
   .ret)
   .skip))
  (.seq (.ops [
    ⟨(some 14), none, .mv (.t 0)⟩,
    ⟨(some 15), none, .mv (.t 1)⟩,
    ⟨(some 16), none, .call 41 [(.t 14), (.t 15)]⟩,
    ⟨(some 4), none, .mv (.t 16)⟩,
    ⟨(some 5), none, .mv (.c (.raw (.int .i64 (0))))⟩])
  .ret)))
def f13 : DFn := ⟨d13, [.tmp 4, .tmp 5], 17⟩
theorem h13 : decFn Try.prog 13 = some f13 := by kernel_rfl

def d14 : DCode :=
  (.seq (.ops [
    ⟨(some 4), none, .mv (.c (.raw (.int .i64 (0))))⟩,
    ⟨(some 5), none, .mv (.c (.raw (.int .i64 (0))))⟩])
  (.seq (.seq (.ops [
    ⟨(some 6), none, .mv (.t 0)⟩,
    ⟨(some 7), none, .call 42 [(.t 6)]⟩,
    ⟨(some 8), none, .un .not (.t 7)⟩,
    ⟨(some 9), none, .mv (.t 8)⟩,
    ⟨(some 10), (some (9, false)), .mv (.t 1)⟩,
    ⟨(some 11), (some (9, false)), .call 42 [(.t 10)]⟩,
    ⟨(some 12), (some (9, false)), .un .not (.t 11)⟩,
    ⟨(some 13), none, .pick (.t 9) (.c (.raw (.bool true))) (.t 12)⟩])
  (.cond (.t 13)
   (.seq (.ops [
     ⟨(some 4), none, .mv (.c (.raw (.int .i64 (0))))⟩,
     ⟨(some 5), none, .mv (.c (.raw (.int .i64 (2))))⟩])
   .ret)
   .skip))
  (.seq (.ops [
    ⟨(some 14), none, .mv (.t 0)⟩,
    ⟨(some 15), none, .mv (.t 1)⟩,
    ⟨(some 16), none, .call 43 [(.t 14), (.t 15)]⟩,
    ⟨(some 4), none, .mv (.t 16)⟩,
    ⟨(some 5), none, .mv (.c (.raw (.int .i64 (0))))⟩])
  .ret)))
def f14 : DFn := ⟨d14, [.tmp 4, .tmp 5], 17⟩
theorem h14 : decFn Try.prog 14 = some f14 := by kernel_rfl

def d15 : DCode :=
  (.seq (.ops [
    ⟨(some 4), none, .mv (.c (.raw (.int .i64 (0))))⟩,
    ⟨(some 5), none, .mv (.c (.raw (.int .i64 (0))))⟩])
  (.seq (.seq (.ops [
    ⟨(some 6), none, .mv (.t 0)⟩,
    ⟨(some 7), none, .call 44 [(.t 6)]⟩,
    ⟨(some 8), none, .un .not (.t 7)⟩,
    ⟨(some 9), none, .mv (.t 8)⟩,
    ⟨(some 10), (some (9, false)), .mv (.t 1)⟩,
    ⟨(some 11), (some (9, false)), .mv (.t 0)⟩,
    ⟨(some 12), (some (9, false)), .bin .sub false (.t 11) (.c (.raw (.int .i64 (1))))⟩,
    ⟨(some 13), (some (9, false)), .call 40 [(.t 10), (.c (.raw (.int .i64 (0)))), (.t 12)]⟩,
    ⟨(some 14), (some (9, false)), .un .not (.t 13)⟩,
    ⟨(some 15), none, .pick (.t 9) (.c (.raw (.bool true))) (.t 14)⟩])
  (.cond (.t 15)
   (.seq (.ops [
     ⟨(some 4), none, .mv (.c (.raw (.int .i64 (0))))⟩,
     ⟨(some 5), none, .mv (.c (.raw (.int .i64 (2))))⟩])
   .ret)
   .skip))
  (.seq (.ops [
    ⟨(some 16), none, .mv (.t 0)⟩,
    ⟨(some 17), none, .mv (.t 1)⟩,
    ⟨(some 18), none, .call 45 [(.t 16), (.t 17)]⟩,
    ⟨(some 4), none, .mv (.t 18)⟩,
    ⟨(some 5), none, .mv (.c (.raw (.int .i64 (0))))⟩])
  .ret)))
def f15 : DFn := ⟨d15, [.tmp 4, .tmp 5], 19⟩
theorem h15 : decFn Try.prog 15 = some f15 := by kernel_rfl

def d16 : DCode :=
  (.seq (.ops [
    ⟨(some 4), none, .mv (.c (.raw (.int .i64 (0))))⟩,
    ⟨(some 5), none, .mv (.c (.raw (.int .i64 (0))))⟩])
  (.seq (.seq (.ops [
    ⟨(some 6), none, .mv (.t 0)⟩,
    ⟨(some 7), none, .call 46 [(.t 6)]⟩,
    ⟨(some 8), none, .un .not (.t 7)⟩,
    ⟨(some 9), none, .mv (.t 8)⟩,
    ⟨(some 10), (some (9, false)), .mv (.t 1)⟩,
    ⟨(some 11), (some (9, false)), .mv (.t 0)⟩,
    ⟨(some 12), (some (9, false)), .bin .sub false (.t 11) (.c (.raw (.int .i64 (1))))⟩,
    ⟨(some 13), (some (9, false)), .call 47 [(.t 10), (.c (.raw (.int .i64 (0)))), (.t 12)]⟩,
    ⟨(some 14), (some (9, false)), .un .not (.t 13)⟩,
    ⟨(some 15), none, .pick (.t 9) (.c (.raw (.bool true))) (.t 14)⟩])
  (.cond (.t 15)
   (.seq (.ops [
     ⟨(some 4), none, .mv (.c (.raw (.int .i64 (0))))⟩,
     ⟨(some 5), none, .mv (.c (.raw (.int .i64 (2))))⟩])
   .ret)
   .skip))
  (.seq (.ops [
    ⟨(some 16), none, .mv (.t 0)⟩,
    ⟨(some 17), none, .mv (.t 1)⟩,
    ⟨(some 18), none, .call 48 [(.t 16), (.t 17)]⟩,
    ⟨(some 4), none, .mv (.t 18)⟩,
    ⟨(some 5), none, .mv (.c (.raw (.int .i64 (0))))⟩])
  .ret)))
def f16 : DFn := ⟨d16, [.tmp 4, .tmp 5], 19⟩
theorem h16 : decFn Try.prog 16 = some f16 := by kernel_rfl

def d17 : DCode :=
  (.seq (.ops [
    ⟨(some 4), none, .mv (.c (.raw (.bool false)))⟩])
  (.seq (.ops [
    ⟨(some 5), none, .mv (.t 0)⟩,
    ⟨(some 6), none, .mv (.t 1)⟩,
    ⟨(some 7), none, .call 49 [(.t 5), (.t 6)]⟩,
    ⟨(some 4), none, .mv (.t 7)⟩])
  .ret))
def f17 : DFn := ⟨d17, [.tmp 4], 8⟩
theorem h17 : decFn Try.prog 17 = some f17 := by kernel_rfl

def d18 : DCode :=
  (.seq (.ops [
    ⟨(some 2), none, .mv (.c (nilS 1))⟩])
  (.seq (.ops [
    ⟨(some 5), none, .mv (.t 0)⟩,
    ⟨(some 6), none, .len (.t 5)⟩,
    ⟨(some 7), none, .mks .i (.t 6) (.t 6)⟩,
    ⟨(some 3), none, .mv (.t 7)⟩])
  (.seq (.seq (.ops [
    ⟨(some 4), none, .mv (.c (.raw (.int .i64 (0))))⟩])
  (.block 0
   (.loop
    (.seq (.seq (.ops [
      ⟨(some 8), none, .mv (.t 4)⟩,
      ⟨(some 9), none, .mv (.t 0)⟩,
      ⟨(some 10), none, .len (.t 9)⟩,
      ⟨(some 11), none, .bin .lss false (.t 8) (.t 10)⟩])
    (.cond (.t 11)
     .skip
     (.exit 0)))
    (.seq (.block 1
     (.ops [
       ⟨(some 14), none, .mv (.t 3)⟩,
       ⟨(some 15), none, .mv (.t 4)⟩,
       ⟨(some 16), none, .mv (.t 0)⟩,
       ⟨(some 17), none, .mv (.t 4)⟩,
       ⟨(some 18), none, .ias 1 (.t 16) (.t 17)⟩,
       ⟨(some 19), none, .load false 1 (.t 18)⟩,
       ⟨(some 20), none, .ias 1 (.t 14) (.t 15)⟩,
       ⟨none, none, .store 1 (.t 20) (.t 19)⟩]))
    (.ops [
      ⟨(some 12), none, .mv (.t 4)⟩,
      ⟨(some 13), none, .bin .add false (.t 12) (.c (.raw (.int .i64 (1))))⟩,
      ⟨(some 4), none, .mv (.t 13)⟩]))))))
  (.seq (.ops [
    ⟨(some 21), none, .mv (.t 3)⟩,
    ⟨(some 2), none, .mv (.t 21)⟩])
  .ret))))
def f18 : DFn := ⟨d18, [.tmp 2], 22⟩
theorem h18 : decFn Try.prog 18 = some f18 := by kernel_rfl

def d19 : DCode :=
  (.seq (.ops [
    ⟨(some 4), none, .mv (.c (.raw (.bool false)))⟩])
  (.seq (.ops [
    ⟨(some 5), none, .mv (.t 0)⟩,
    ⟨(some 6), none, .call 46 [(.t 5)]⟩,
    ⟨(some 7), none, .mv (.t 6)⟩,
    ⟨(some 8), (some (7, true)), .mv (.t 1)⟩,
    ⟨(some 9), (some (7, true)), .len (.t 8)⟩,
    ⟨(some 10), (some (7, true)), .mv (.t 0)⟩,
    ⟨(some 11), (some (7, true)), .mv (.t 0)⟩,
    ⟨(some 12), (some (7, true)), .bin .mul false (.t 10) (.t 11)⟩,
    ⟨(some 13), (some (7, true)), .bin .eql false (.t 9) (.t 12)⟩,
    ⟨(some 14), none, .pick (.t 7) (.t 13) (.c (.raw (.bool false)))⟩,
    ⟨(some 15), none, .mv (.t 14)⟩,
    ⟨(some 16), (some (15, true)), .mv (.t 1)⟩,
    ⟨(some 17), (some (15, true)), .call 50 [(.t 16), (.c (.fn 51 []))]⟩,
    ⟨(some 18), (some (15, true)), .un .not (.t 17)⟩,
    ⟨(some 19), none, .pick (.t 15) (.t 18) (.c (.raw (.bool false)))⟩,
    ⟨(some 4), none, .mv (.t 19)⟩])
  .ret))
def f19 : DFn := ⟨d19, [.tmp 4], 20⟩
theorem h19 : decFn Try.prog 19 = some f19 := by kernel_rfl

def d20 : DCode :=
  (.seq (.ops [
    ⟨(some 4), none, .mv (.c (.raw (.bool false)))⟩])
  (.seq (.seq (.ops [
    ⟨(some 6), none, .mv (.t 0)⟩,
    ⟨(some 7), none, .len (.t 6)⟩,
    ⟨(some 8), none, .mv (.t 1)⟩,
    ⟨(some 9), none, .len (.t 8)⟩,
    ⟨(some 10), none, .bin .neq false (.t 7) (.t 9)⟩])
  (.cond (.t 10)
   (.seq (.ops [
     ⟨(some 4), none, .mv (.c (.raw (.bool false)))⟩])
   .ret)
   .skip))
  (.seq (.seq (.ops [
    ⟨(some 5), none, .mv (.c (.raw (.int .i64 (0))))⟩])
  (.block 0
   (.loop
    (.seq (.seq (.ops [
      ⟨(some 11), none, .mv (.t 5)⟩,
      ⟨(some 12), none, .mv (.t 0)⟩,
      ⟨(some 13), none, .len (.t 12)⟩,
      ⟨(some 14), none, .bin .lss false (.t 11) (.t 13)⟩])
    (.cond (.t 14)
     .skip
     (.exit 0)))
    (.seq (.block 1
     (.seq (.drw [
       ⟨(some 17), none, .mv (.t 0)⟩,
       ⟨(some 18), none, .mv (.t 5)⟩,
       ⟨(some 19), none, .ias 1 (.t 17) (.t 18)⟩,
       ⟨(some 20), none, .load false 1 (.t 19)⟩,
       ⟨(some 21), none, .mv (.t 1)⟩,
       ⟨(some 22), none, .mv (.t 5)⟩,
       ⟨(some 23), none, .ias 1 (.t 21) (.t 22)⟩,
       ⟨(some 24), none, .load false 1 (.t 23)⟩,
       ⟨(some 25), none, .bin .neq false (.t 20) (.t 24)⟩] [
       ])
     (.cond (.t 25)
      (.seq (.ops [
        ⟨(some 4), none, .mv (.c (.raw (.bool false)))⟩])
      .ret)
      .skip)))
    (.ops [
      ⟨(some 15), none, .mv (.t 5)⟩,
      ⟨(some 16), none, .bin .add false (.t 15) (.c (.raw (.int .i64 (1))))⟩,
      ⟨(some 5), none, .mv (.t 16)⟩]))))))
  (.seq (.ops [
    ⟨(some 4), none, .mv (.c (.raw (.bool true)))⟩])
  .ret))))
def f20 : DFn := ⟨d20, [.tmp 4], 26⟩
theorem h20 : decFn Try.prog 20 = some f20 := by kernel_rfl

def d21 : DCode :=
  (.seq (.ops [
    ⟨(some 4), none, .mv (.c (nilS 1))⟩,
    ⟨(some 5), none, .mv (.c (.raw (.int .i64 (0))))⟩])
  (.seq (.seq (.ops [
    ⟨(some 9), none, .mv (.t 0)⟩,
    ⟨(some 10), none, .call 44 [(.t 9)]⟩,
    ⟨(some 11), none, .un .not (.t 10)⟩,
    ⟨(some 12), none, .mv (.t 11)⟩,
    ⟨(some 13), (some (12, false)), .mv (.t 1)⟩,
    ⟨(some 14), (some (12, false)), .bin .lss false (.t 13) (.c (.raw (.int .i64 (1))))⟩,
    ⟨(some 15), none, .pick (.t 12) (.c (.raw (.bool true))) (.t 14)⟩])
  (.cond (.t 15)
   (.seq (.ops [
     ⟨(some 4), none, .mv (.c (nilS 1))⟩,
     ⟨(some 5), none, .mv (.c (.raw (.int .i64 (2))))⟩])
   .ret)
   .skip))
  (.seq (.ops [
    ⟨(some 16), none, .bsl .p 0 []⟩,
    ⟨(some 6), none, .mv (.t 16)⟩])
  (.seq (.seq (.ops [
    ⟨(some 7), none, .mv (.c (.raw (.int .i64 (0))))⟩])
  (.block 0
   (.loop
    (.seq (.seq (.ops [
      ⟨(some 17), none, .mv (.t 7)⟩,
      ⟨(some 18), none, .mv (.t 0)⟩,
      ⟨(some 19), none, .bin .lss false (.t 17) (.t 18)⟩])
    (.cond (.t 19)
     .skip
     (.exit 0)))
    (.seq (.block 1
     (.seq (.ops [
       ⟨(some 8), none, .mv (.c (.raw (.int .i64 (0))))⟩])
     (.block 2
      (.loop
       (.seq (.seq (.ops [
         ⟨(some 22), none, .mv (.t 8)⟩,
         ⟨(some 23), none, .mv (.t 0)⟩,
         ⟨(some 24), none, .bin .lss false (.t 22) (.t 23)⟩])
       (.cond (.t 24)
        .skip
        (.exit 2)))
       (.seq (.block 3
        (.seq (.ops [
          ⟨(some 27), none, .mv (.t 7)⟩,
          ⟨(some 28), none, .mv (.t 1)⟩,
          ⟨(some 29), none, .bin .rem false (.t 27) (.t 28)⟩,
          ⟨(some 30), none, .bin .eql false (.t 29) (.c (.raw (.int .i64 (0))))⟩,
          ⟨(some 31), none, .mv (.t 30)⟩,
          ⟨(some 32), (some (31, true)), .mv (.t 8)⟩,
          ⟨(some 33), (some (31, true)), .mv (.t 1)⟩,
          ⟨(some 34), (some (31, true)), .bin .rem false (.t 32) (.t 33)⟩,
          ⟨(some 35), (some (31, true)), .bin .eql false (.t 34) (.c (.raw (.int .i64 (0))))⟩,
          ⟨(some 36), none, .pick (.t 31) (.t 35) (.c (.raw (.bool false)))⟩])
        (.cond (.t 36)
         (.ops [
           ⟨(some 37), none, .mv (.t 6)⟩,
           ⟨(some 38), none, .mv (.t 7)⟩,
           ⟨(some 39), none, .mv (.t 8)⟩,
           ⟨(some 40), none, .build [(.raw (.int .i64 (0))), (.raw (.int .i64 (0)))] [(0, 0, 1, (.t 38)), (1, 1, 1, (.t 39))]⟩,
           ⟨(some 41), none, .bsl .p 1 [(0, (.t 40))]⟩,
           ⟨(some 42), none, .app .p (.t 37) (.t 41)⟩,
           ⟨(some 6), none, .mv (.t 42)⟩])
         .skip)))
       (.ops [
         ⟨(some 25), none, .mv (.t 8)⟩,
         ⟨(some 26), none, .bin .add false (.t 25) (.c (.raw (.int .i64 (1))))⟩,
         ⟨(some 8), none, .mv (.t 26)⟩])))))))
    (.ops [
      ⟨(some 20), none, .mv (.t 7)⟩,
      ⟨(some 21), none, .bin .add false (.t 20) (.c (.raw (.int .i64 (1))))⟩,
      ⟨(some 7), none, .mv (.t 21)⟩]))))))
  (.seq (.seq (.ops [
    ⟨(some 43), none, .mv (.t 6)⟩,
    ⟨(some 44), none, .len (.t 43)⟩,
    ⟨(some 45), none, .bin .gtr false (.t 44) (.c (.raw (.int .i64 (20))))⟩])
  (.cond (.t 45)
   (.seq (.ops [
     ⟨(some 4), none, .mv (.c (nilS 1))⟩,
     ⟨(some 5), none, .mv (.c (.raw (.int .i64 (2))))⟩])
   .ret)
   .skip))
  (.seq (.ops [
    ⟨(some 46), none, .mv (.t 6)⟩,
    ⟨(some 4), none, .mv (.t 46)⟩,
    ⟨(some 5), none, .mv (.c (.raw (.int .i64 (0))))⟩])
  .ret))))))
def f21 : DFn := ⟨d21, [.tmp 4, .tmp 5], 47⟩
theorem h21 : decFn Try.prog 21 = some f21 := by kernel_rfl

def d22 : DCode :=
  (.seq (.ops [
    ⟨(some 4), none, .mv (.c (nilS 1))⟩,
    ⟨(some 5), none, .mv (.c (.raw (.int .i64 (0))))⟩])
  (.seq (.seq (.ops [
    ⟨(some 9), none, .mv (.t 0)⟩,
    ⟨(some 10), none, .call 46 [(.t 9)]⟩,
    ⟨(some 11), none, .un .not (.t 10)⟩,
    ⟨(some 12), none, .mv (.t 11)⟩,
    ⟨(some 13), (some (12, false)), .mv (.t 1)⟩,
    ⟨(some 14), (some (12, false)), .bin .lss false (.t 13) (.c (.raw (.int .i64 (1))))⟩,
    ⟨(some 15), none, .pick (.t 12) (.c (.raw (.bool true))) (.t 14)⟩])
  (.cond (.t 15)
   (.seq (.ops [
     ⟨(some 4), none, .mv (.c (nilS 1))⟩,
     ⟨(some 5), none, .mv (.c (.raw (.int .i64 (2))))⟩])
   .ret)
   .skip))
  (.seq (.ops [
    ⟨(some 16), none, .bsl .p 0 []⟩,
    ⟨(some 6), none, .mv (.t 16)⟩])
  (.seq (.seq (.ops [
    ⟨(some 17), none, .mv (.t 0)⟩,
    ⟨(some 18), none, .mv (.c (.raw (.int .i64 (0))))⟩])
  (.block 0
   (.loop
    (.seq (.ops [
      ⟨(some 19), none, .bin .lss false (.t 18) (.t 17)⟩])
    (.seq (.cond (.t 19)
     .skip
     (.exit 0))
    (.seq (.block 1
     (.seq (.ops [
       ⟨(some 20), none, .mv (.t 18)⟩,
       ⟨(some 7), none, .mv (.t 20)⟩])
     (.seq (.ops [
       ⟨(some 21), none, .mv (.t 0)⟩,
       ⟨(some 22), none, .mv (.c (.raw (.int .i64 (0))))⟩])
     (.block 2
      (.loop
       (.seq (.ops [
         ⟨(some 23), none, .bin .lss false (.t 22) (.t 21)⟩])
       (.seq (.cond (.t 23)
        .skip
        (.exit 2))
       (.seq (.block 3
        (.seq (.ops [
          ⟨(some 24), none, .mv (.t 22)⟩,
          ⟨(some 8), none, .mv (.t 24)⟩])
        (.seq (.ops [
          ⟨(some 25), none, .mv (.t 7)⟩,
          ⟨(some 26), none, .mv (.t 1)⟩,
          ⟨(some 27), none, .bin .rem false (.t 25) (.t 26)⟩,
          ⟨(some 28), none, .bin .eql false (.t 27) (.c (.raw (.int .i64 (0))))⟩,
          ⟨(some 29), none, .mv (.t 28)⟩,
          ⟨(some 30), (some (29, true)), .mv (.t 8)⟩,
          ⟨(some 31), (some (29, true)), .mv (.t 1)⟩,
          ⟨(some 32), (some (29, true)), .bin .rem false (.t 30) (.t 31)⟩,
          ⟨(some 33), (some (29, true)), .bin .eql false (.t 32) (.c (.raw (.int .i64 (0))))⟩,
          ⟨(some 34), none, .pick (.t 29) (.t 33) (.c (.raw (.bool false)))⟩])
        (.cond (.t 34)
         (.ops [
           ⟨(some 35), none, .mv (.t 6)⟩,
           ⟨(some 36), none, .mv (.t 7)⟩,
           ⟨(some 37), none, .mv (.t 8)⟩,
           ⟨(some 38), none, .build [(.raw (.int .i64 (0))), (.raw (.int .i64 (0)))] [(0, 0, 1, (.t 36)), (1, 1, 1, (.t 37))]⟩,
           ⟨(some 39), none, .bsl .p 1 [(0, (.t 38))]⟩,
           ⟨(some 40), none, .app .p (.t 35) (.t 39)⟩,
           ⟨(some 6), none, .mv (.t 40)⟩])
         .skip))))
       (.ops [
         ⟨(some 41), none, .bin .add false (.t 22) (.c (.raw (.int .i64 (1))))⟩,
         ⟨(some 22), none, .mv (.t 41)⟩])))))))))
    (.ops [
      ⟨(some 42), none, .bin .add false (.t 18) (.c (.raw (.int .i64 (1))))⟩,
      ⟨(some 18), none, .mv (.t 42)⟩])))))))
  (.seq (.seq (.ops [
    ⟨(some 43), none, .mv (.t 6)⟩,
    ⟨(some 44), none, .len (.t 43)⟩,
    ⟨(some 45), none, .bin .gtr false (.t 44) (.c (.raw (.int .i64 (20))))⟩])
  (.cond (.t 45)
   (.seq (.ops [
     ⟨(some 4), none, .mv (.c (nilS 1))⟩,
     ⟨(some 5), none, .mv (.c (.raw (.int .i64 (2))))⟩])
   .ret)
   .skip))
  (.seq (.ops [
    ⟨(some 46), none, .mv (.t 6)⟩,
    ⟨(some 4), none, .mv (.t 46)⟩,
    ⟨(some 5), none, .mv (.c (.raw (.int .i64 (0))))⟩])
  .ret))))))
def f22 : DFn := ⟨d22, [.tmp 4, .tmp 5], 47⟩
theorem h22 : decFn Try.prog 22 = some f22 := by kernel_rfl

def d23 : DCode :=
  (.seq (.ops [
    ⟨(some 4), none, .mv (.c (.raw (.bool false)))⟩])
  (.seq (.seq (.ops [
    ⟨(some 6), none, .mv (.t 0)⟩,
    ⟨(some 7), none, .len (.t 6)⟩,
    ⟨(some 8), none, .mv (.t 1)⟩,
    ⟨(some 9), none, .len (.t 8)⟩,
    ⟨(some 10), none, .bin .neq false (.t 7) (.t 9)⟩])
  (.cond (.t 10)
   (.seq (.ops [
     ⟨(some 4), none, .mv (.c (.raw (.bool false)))⟩])
   .ret)
   .skip))
  (.seq (.seq (.ops [
    ⟨(some 5), none, .mv (.c (.raw (.int .i64 (0))))⟩])
  (.block 0
   (.loop
    (.seq (.seq (.ops [
      ⟨(some 11), none, .mv (.t 5)⟩,
      ⟨(some 12), none, .mv (.t 0)⟩,
      ⟨(some 13), none, .len (.t 12)⟩,
      ⟨(some 14), none, .bin .lss false (.t 11) (.t 13)⟩])
    (.cond (.t 14)
     .skip
     (.exit 0)))
    (.seq (.block 1
     (.seq (.drw [
       ⟨(some 17), none, .mv (.t 0)⟩,
       ⟨(some 18), none, .mv (.t 5)⟩,
       ⟨(some 19), none, .ias 2 (.t 17) (.t 18)⟩,
       ⟨(some 20), none, .load true 2 (.t 19)⟩,
       ⟨(some 21), none, .mv (.t 1)⟩,
       ⟨(some 22), none, .mv (.t 5)⟩,
       ⟨(some 23), none, .ias 2 (.t 21) (.t 22)⟩,
       ⟨(some 24), none, .load true 2 (.t 23)⟩,
       ⟨(some 25), none, .call 52 [(.t 20), (.t 24)]⟩,
       ⟨(some 26), none, .un .not (.t 25)⟩] [
       ])
     (.cond (.t 26)
      (.seq (.ops [
        ⟨(some 4), none, .mv (.c (.raw (.bool false)))⟩])
      .ret)
      .skip)))
    (.ops [
      ⟨(some 15), none, .mv (.t 5)⟩,
      ⟨(some 16), none, .bin .add false (.t 15) (.c (.raw (.int .i64 (1))))⟩,
      ⟨(some 5), none, .mv (.t 16)⟩]))))))
  (.seq (.ops [
    ⟨(some 4), none, .mv (.c (.raw (.bool true)))⟩])
  .ret))))
def f23 : DFn := ⟨d23, [.tmp 4], 27⟩
theorem h23 : decFn Try.prog 23 = some f23 := by kernel_rfl

def d24 : DCode :=
  (.seq (.ops [
    ⟨(some 4), none, .mv (.c (.raw (.int .i64 (0))))⟩])
  (.seq (.seq (.ops [
    ⟨(some 5), none, .mv (.c (.raw (.int .i64 (0))))⟩])
  (.block 0
   (.loop
    (.seq (.seq (.ops [
      ⟨(some 6), none, .mv (.t 5)⟩,
      ⟨(some 7), none, .mv (.t 0)⟩,
      ⟨(some 8), none, .len (.t 7)⟩,
      ⟨(some 9), none, .bin .lss false (.t 6) (.t 8)⟩])
    (.cond (.t 9)
     .skip
     (.exit 0)))
    (.seq (.block 1
     (.seq (.ops [
       ⟨(some 12), none, .mv (.t 0)⟩,
       ⟨(some 13), none, .mv (.t 5)⟩,
       ⟨(some 14), none, .mv (.t 1)⟩,
       ⟨(some 15), none, .ias 2 (.t 12) (.t 13)⟩,
       ⟨(some 16), none, .fad (.t 15) 0 0⟩,
       ⟨none, none, .store 1 (.t 16) (.t 14)⟩])
     (.seq (.ops [
       ⟨(some 17), none, .mv (.t 1)⟩,
       ⟨(some 18), none, .bin .add false (.t 17) (.c (.raw (.int .i64 (1))))⟩,
       ⟨(some 1), none, .mv (.t 18)⟩])
     (.seq (.ops [
       ⟨(some 19), none, .mv (.t 0)⟩,
       ⟨(some 20), none, .mv (.t 5)⟩,
       ⟨(some 21), none, .mv (.t 1)⟩,
       ⟨(some 22), none, .ias 2 (.t 19) (.t 20)⟩,
       ⟨(some 23), none, .fad (.t 22) 1 1⟩,
       ⟨none, none, .store 1 (.t 23) (.t 21)⟩])
     (.ops [
       ⟨(some 24), none, .mv (.t 1)⟩,
       ⟨(some 25), none, .bin .add false (.t 24) (.c (.raw (.int .i64 (1))))⟩,
       ⟨(some 1), none, .mv (.t 25)⟩])))))
    (.ops [
      ⟨(some 10), none, .mv (.t 5)⟩,
      ⟨(some 11), none, .bin .add false (.t 10) (.c (.raw (.int .i64 (1))))⟩,
      ⟨(some 5), none, .mv (.t 11)⟩]))))))
  (.seq (.ops [
    ⟨(some 26), none, .mv (.t 1)⟩,
    ⟨(some 4), none, .mv (.t 26)⟩])
  .ret)))
def f24 : DFn := ⟨d24, [.tmp 4], 27⟩
theorem h24 : decFn Try.prog 24 = some f24 := by kernel_rfl

def d25 : DCode :=
  (.seq (.ops [
    ⟨(some 4), none, .mv (.c (.raw (.int .i64 (0))))⟩])
  (.seq (.seq (.ops [
    ⟨(some 5), none, .mv (.c (.raw (.int .i64 (0))))⟩])
  (.block 0
   (.loop
    (.seq (.seq (.ops [
      ⟨(some 6), none, .mv (.t 5)⟩,
      ⟨(some 7), none, .mv (.t 0)⟩,
      ⟨(some 8), none, .len (.t 7)⟩,
      ⟨(some 9), none, .bin .lss false (.t 6) (.t 8)⟩])
    (.cond (.t 9)
     .skip
     (.exit 0)))
    (.seq (.block 1
     (.seq (.seq (.ops [
       ⟨(some 12), none, .mv (.t 0)⟩,
       ⟨(some 13), none, .mv (.t 5)⟩,
       ⟨(some 14), none, .ias 2 (.t 12) (.t 13)⟩,
       ⟨(some 15), none, .fad (.t 14) 0 0⟩,
       ⟨(some 16), none, .load false 1 (.t 15)⟩,
       ⟨(some 17), none, .mv (.t 1)⟩,
       ⟨(some 18), none, .bin .neq false (.t 16) (.t 17)⟩])
     (.cond (.t 18)
      (.seq (.ops [
        ⟨(some 4), none, .mv (.c (.raw (.int .i64 (-1))))⟩])
      .ret)
      .skip))
     (.seq (.ops [
       ⟨(some 19), none, .mv (.t 1)⟩,
       ⟨(some 20), none, .bin .add false (.t 19) (.c (.raw (.int .i64 (1))))⟩,
       ⟨(some 1), none, .mv (.t 20)⟩])
     (.seq (.seq (.ops [
       ⟨(some 21), none, .mv (.t 0)⟩,
       ⟨(some 22), none, .mv (.t 5)⟩,
       ⟨(some 23), none, .ias 2 (.t 21) (.t 22)⟩,
       ⟨(some 24), none, .fad (.t 23) 1 1⟩,
       ⟨(some 25), none, .load false 1 (.t 24)⟩,
       ⟨(some 26), none, .mv (.t 1)⟩,
       ⟨(some 27), none, .bin .neq false (.t 25) (.t 26)⟩])
     (.cond (.t 27)
      (.seq (.ops [
        ⟨(some 4), none, .mv (.c (.raw (.int .i64 (-1))))⟩])
      .ret)
      .skip))
     (.ops [
       ⟨(some 28), none, .mv (.t 1)⟩,
       ⟨(some 29), none, .bin .add false (.t 28) (.c (.raw (.int .i64 (1))))⟩,
       ⟨(some 1), none, .mv (.t 29)⟩])))))
    (.ops [
      ⟨(some 10), none, .mv (.t 5)⟩,
      ⟨(some 11), none, .bin .add false (.t 10) (.c (.raw (.int .i64 (1))))⟩,
      ⟨(some 5), none, .mv (.t 11)⟩]))))))
  (.seq (.ops [
    ⟨(some 30), none, .mv (.t 1)⟩,
    ⟨(some 4), none, .mv (.t 30)⟩])
  .ret)))
def f25 : DFn := ⟨d25, [.tmp 4], 31⟩
theorem h25 : decFn Try.prog 25 = some f25 := by kernel_rfl

def d26 : DCode :=
  (.seq (.ops [
    ⟨(some 4), none, .mv (.c (nilS 1))⟩,
    ⟨(some 5), none, .mv (.c (.raw (.int .i64 (0))))⟩])
  (.seq (.seq (.ops [
    ⟨(some 8), none, .mv (.t 0)⟩,
    ⟨(some 9), none, .mv (.t 1)⟩,
    ⟨(some 10), none, .call 49 [(.t 8), (.t 9)]⟩,
    ⟨(some 11), none, .un .not (.t 10)⟩])
  (.cond (.t 11)
   (.seq (.ops [
     ⟨(some 4), none, .mv (.c (nilS 1))⟩,
     ⟨(some 5), none, .mv (.c (.raw (.int .i64 (1))))⟩])
   .ret)
   .skip))
  (.seq (.ops [
    ⟨(some 12), none, .bsl .i 0 []⟩,
    ⟨(some 6), none, .mv (.t 12)⟩])
  (.seq (.seq (.ops [
    ⟨(some 7), none, .mv (.c (.raw (.int .i64 (0))))⟩])
  (.block 0
   (.loop
    (.seq (.seq (.ops [
      ⟨(some 13), none, .mv (.t 7)⟩,
      ⟨(some 14), none, .mv (.t 1)⟩,
      ⟨(some 15), none, .len (.t 14)⟩,
      ⟨(some 16), none, .bin .lss false (.t 13) (.t 15)⟩])
    (.cond (.t 16)
     .skip
     (.exit 0)))
    (.seq (.block 1
     (.ops [
       ⟨(some 19), none, .mv (.t 6)⟩,
       ⟨(some 20), none, .mv (.t 1)⟩,
       ⟨(some 21), none, .mv (.t 7)⟩,
       ⟨(some 22), none, .ias 1 (.t 20) (.t 21)⟩,
       ⟨(some 23), none, .load false 1 (.t 22)⟩,
       ⟨(some 24), none, .call 53 [(.t 23)]⟩,
       ⟨(some 25), none, .bsl .i 1 [(0, (.t 24))]⟩,
       ⟨(some 26), none, .app .i (.t 19) (.t 25)⟩,
       ⟨(some 6), none, .mv (.t 26)⟩]))
    (.ops [
      ⟨(some 17), none, .mv (.t 7)⟩,
      ⟨(some 18), none, .bin .add false (.t 17) (.c (.raw (.int .i64 (1))))⟩,
      ⟨(some 7), none, .mv (.t 18)⟩]))))))
  (.seq (.ops [
    ⟨(some 27), none, .mv (.t 6)⟩,
    ⟨(some 4), none, .mv (.t 27)⟩,
    ⟨(some 5), none, .mv (.c (.raw (.int .i64 (0))))⟩])
  .ret)))))
def f26 : DFn := ⟨d26, [.tmp 4, .tmp 5], 28⟩
theorem h26 : decFn Try.prog 26 = some f26 := by kernel_rfl

def d27 : DCode :=
  (.seq (.ops [
    ⟨(some 4), none, .mv (.c (nilS 1))⟩,
    ⟨(some 5), none, .mv (.c (.raw (.int .i64 (0))))⟩])
  (.seq (.seq (.ops [
    ⟨(some 9), none, .mv (.t 0)⟩,
    ⟨(some 10), none, .mv (.t 1)⟩,
    ⟨(some 11), none, .call 19 [(.t 9), (.t 10)]⟩,
    ⟨(some 12), none, .un .not (.t 11)⟩])
  (.cond (.t 12)
   (.seq (.ops [
     ⟨(some 4), none, .mv (.c (nilS 1))⟩,
     ⟨(some 5), none, .mv (.c (.raw (.int .i64 (1))))⟩])
   .ret)
   .skip))
  (.seq (.ops [
    ⟨(some 13), none, .bsl .i 0 []⟩,
    ⟨(some 6), none, .mv (.t 13)⟩])
  (.seq (.seq (.ops [
    ⟨(some 14), none, .mv (.t 1)⟩,
    ⟨(some 15), none, .len (.t 14)⟩,
    ⟨(some 16), none, .mv (.c (.raw (.int .i64 (0))))⟩])
  (.block 0
   (.loop
    (.seq (.ops [
      ⟨(some 17), none, .bin .lss false (.t 16) (.t 15)⟩])
    (.seq (.cond (.t 17)
     .skip
     (.exit 0))
    (.seq (.block 1
     (.seq (.ops [
       ⟨(some 18), none, .ias 1 (.t 14) (.t 16)⟩,
       ⟨(some 19), none, .load false 1 (.t 18)⟩,
       ⟨(some 8), none, .mv (.t 19)⟩])
     (.ops [
       ⟨(some 20), none, .mv (.t 6)⟩,
       ⟨(some 21), none, .mv (.t 8)⟩,
       ⟨(some 22), none, .call 54 [(.t 21), (.c (.raw (.int .i64 (64))))]⟩,
       ⟨(some 23), none, .bsl .i 1 [(0, (.t 22))]⟩,
       ⟨(some 24), none, .app .i (.t 20) (.t 23)⟩,
       ⟨(some 6), none, .mv (.t 24)⟩])))
    (.ops [
      ⟨(some 25), none, .bin .add false (.t 16) (.c (.raw (.int .i64 (1))))⟩,
      ⟨(some 16), none, .mv (.t 25)⟩])))))))
  (.seq (.ops [
    ⟨(some 26), none, .mv (.t 6)⟩,
    ⟨(some 4), none, .mv (.t 26)⟩,
    ⟨(some 5), none, .mv (.c (.raw (.int .i64 (0))))⟩])
  .ret)))))
def f27 : DFn := ⟨d27, [.tmp 4, .tmp 5], 27⟩
theorem h27 : decFn Try.prog 27 = some f27 := by kernel_rfl

def d28 : DCode :=
  (.seq (.ops [
    ⟨(some 4), none, .mv (.c (.raw (.int .i64 (0))))⟩])
  (.seq (.seq (.ops [
    ⟨(some 5), none, .mv (.c (.raw (.int .i64 (0))))⟩])
  (.block 0
   (.loop
    (.seq (.seq (.ops [
      ⟨(some 6), none, .mv (.t 5)⟩,
      ⟨(some 7), none, .mv (.t 0)⟩,
      ⟨(some 8), none, .len (.t 7)⟩,
      ⟨(some 9), none, .bin .lss false (.t 6) (.t 8)⟩])
    (.cond (.t 9)
     .skip
     (.exit 0)))
    (.seq (.block 1
     (.seq (.ops [
       ⟨(some 12), none, .mv (.t 0)⟩,
       ⟨(some 13), none, .mv (.t 5)⟩,
       ⟨(some 14), none, .mv (.t 1)⟩,
       ⟨(some 15), none, .ias 1 (.t 12) (.t 13)⟩,
       ⟨none, none, .store 1 (.t 15) (.t 14)⟩])
     (.ops [
       ⟨(some 16), none, .mv (.t 1)⟩,
       ⟨(some 17), none, .bin .add false (.t 16) (.c (.raw (.int .i64 (1))))⟩,
       ⟨(some 1), none, .mv (.t 17)⟩])))
    (.ops [
      ⟨(some 10), none, .mv (.t 5)⟩,
      ⟨(some 11), none, .bin .add false (.t 10) (.c (.raw (.int .i64 (1))))⟩,
      ⟨(some 5), none, .mv (.t 11)⟩]))))))
  (.seq (.ops [
    ⟨(some 18), none, .mv (.t 1)⟩,
    ⟨(some 4), none, .mv (.t 18)⟩])
  .ret)))
def f28 : DFn := ⟨d28, [.tmp 4], 19⟩
theorem h28 : decFn Try.prog 28 = some f28 := by kernel_rfl

def d29 : DCode :=
  (.seq (.ops [
    ⟨(some 4), none, .mv (.c (.raw (.int .i64 (0))))⟩])
  (.seq (.seq (.ops [
    ⟨(some 5), none, .mv (.c (.raw (.int .i64 (0))))⟩])
  (.block 0
   (.loop
    (.seq (.seq (.ops [
      ⟨(some 6), none, .mv (.t 5)⟩,
      ⟨(some 7), none, .mv (.t 0)⟩,
      ⟨(some 8), none, .len (.t 7)⟩,
      ⟨(some 9), none, .bin .lss false (.t 6) (.t 8)⟩])
    (.cond (.t 9)
     .skip
     (.exit 0)))
    (.seq (.block 1
     (.seq (.seq (.ops [
       ⟨(some 12), none, .mv (.t 0)⟩,
       ⟨(some 13), none, .mv (.t 5)⟩,
       ⟨(some 14), none, .ias 1 (.t 12) (.t 13)⟩,
       ⟨(some 15), none, .load false 1 (.t 14)⟩,
       ⟨(some 16), none, .mv (.t 1)⟩,
       ⟨(some 17), none, .bin .neq false (.t 15) (.t 16)⟩])
     (.cond (.t 17)
      (.seq (.ops [
        ⟨(some 4), none, .mv (.c (.raw (.int .i64 (-1))))⟩])
      .ret)
      .skip))
     (.ops [
       ⟨(some 18), none, .mv (.t 1)⟩,
       ⟨(some 19), none, .bin .add false (.t 18) (.c (.raw (.int .i64 (1))))⟩,
       ⟨(some 1), none, .mv (.t 19)⟩])))
    (.ops [
      ⟨(some 10), none, .mv (.t 5)⟩,
      ⟨(some 11), none, .bin .add false (.t 10) (.c (.raw (.int .i64 (1))))⟩,
      ⟨(some 5), none, .mv (.t 11)⟩]))))))
  (.seq (.ops [
    ⟨(some 20), none, .mv (.t 1)⟩,
    ⟨(some 4), none, .mv (.t 20)⟩])
  .ret)))
def f29 : DFn := ⟨d29, [.tmp 4], 21⟩
theorem h29 : decFn Try.prog 29 = some f29 := by kernel_rfl

def d30 : DCode :=
  (.seq (.ops [
    ⟨(some 4), none, .mv (.c (nilS 1))⟩,
    ⟨(some 5), none, .mv (.c (.raw (.int .i64 (0))))⟩])
  (.seq (.seq (.ops [
    ⟨(some 14), none, .mv (.t 0)⟩,
    ⟨(some 15), none, .mv (.t 1)⟩,
    ⟨(some 16), none, .call 55 [(.t 14), (.t 15)]⟩,
    ⟨(some 6), none, .mv (.t 16)⟩])
  (.seq (.ops [
    ⟨(some 17), none, .mv (.t 6)⟩,
    ⟨(some 18), none, .bin .neq false (.t 17) (.c (.raw (.int .i64 (0))))⟩])
  (.cond (.t 18)
   (.seq (.ops [
     ⟨(some 19), none, .mv (.t 6)⟩,
     ⟨(some 4), none, .mv (.c (nilS 1))⟩,
     ⟨(some 5), none, .mv (.t 19)⟩])
   .ret)
   .skip)))
  (.seq (.ops [
    ⟨(some 20), none, .bsl .i 0 []⟩,
    ⟨(some 7), none, .mv (.t 20)⟩])
  (.seq (.seq (.ops [
    ⟨(some 8), none, .mv (.c (.raw (.int .i64 (0))))⟩])
  (.block 0
   (.loop
    (.seq (.seq (.ops [
      ⟨(some 21), none, .mv (.t 8)⟩,
      ⟨(some 22), none, .bin .add false (.t 21) (.c (.raw (.int .i64 (1))))⟩,
      ⟨(some 23), none, .mv (.t 0)⟩,
      ⟨(some 24), none, .bin .lss false (.t 22) (.t 23)⟩])
    (.cond (.t 24)
     .skip
     (.exit 0)))
    (.seq (.block 1
     (.seq (.ops [
       ⟨(some 9), none, .mv (.c (.raw (.int .i64 (0))))⟩])
     (.block 2
      (.loop
       (.seq (.seq (.ops [
         ⟨(some 27), none, .mv (.t 9)⟩,
         ⟨(some 28), none, .bin .add false (.t 27) (.c (.raw (.int .i64 (1))))⟩,
         ⟨(some 29), none, .mv (.t 0)⟩,
         ⟨(some 30), none, .bin .lss false (.t 28) (.t 29)⟩])
       (.cond (.t 30)
        .skip
        (.exit 2)))
       (.seq (.block 3
        (.seq (.drw [
          ⟨(some 33), none, .mv (.t 1)⟩,
          ⟨(some 34), none, .mv (.t 0)⟩,
          ⟨(some 35), none, .mv (.t 8)⟩,
          ⟨(some 36), none, .bin .mul false (.t 34) (.t 35)⟩,
          ⟨(some 37), none, .mv (.t 9)⟩,
          ⟨(some 38), none, .bin .add false (.t 36) (.t 37)⟩,
          ⟨(some 39), none, .ias 1 (.t 33) (.t 38)⟩,
          ⟨(some 40), none, .load false 1 (.t 39)⟩,
          ⟨(some 41), none, .mv (.t 1)⟩,
          ⟨(some 42), none, .mv (.t 0)⟩,
          ⟨(some 43), none, .mv (.t 8)⟩,
          ⟨(some 44), none, .bin .mul false (.t 42) (.t 43)⟩,
          ⟨(some 45), none, .mv (.t 9)⟩,
          ⟨(some 46), none, .bin .add false (.t 44) (.t 45)⟩,
          ⟨(some 47), none, .bin .add false (.t 46) (.c (.raw (.int .i64 (1))))⟩,
          ⟨(some 48), none, .ias 1 (.t 41) (.t 47)⟩,
          ⟨(some 49), none, .load false 1 (.t 48)⟩,
          ⟨(some 50), none, .mv (.t 1)⟩,
          ⟨(some 51), none, .mv (.t 0)⟩,
          ⟨(some 52), none, .mv (.t 8)⟩,
          ⟨(some 53), none, .bin .mul false (.t 51) (.t 52)⟩,
          ⟨(some 54), none, .mv (.t 0)⟩,
          ⟨(some 55), none, .bin .add false (.t 53) (.t 54)⟩,
          ⟨(some 56), none, .mv (.t 9)⟩,
          ⟨(some 57), none, .bin .add false (.t 55) (.t 56)⟩,
          ⟨(some 58), none, .bin .add false (.t 57) (.c (.raw (.int .i64 (1))))⟩,
          ⟨(some 59), none, .ias 1 (.t 50) (.t 58)⟩,
          ⟨(some 60), none, .load false 1 (.t 59)⟩,
          ⟨(some 61), none, .mv (.t 1)⟩,
          ⟨(some 62), none, .mv (.t 0)⟩,
          ⟨(some 63), none, .mv (.t 8)⟩,
          ⟨(some 64), none, .bin .mul false (.t 62) (.t 63)⟩,
          ⟨(some 65), none, .mv (.t 0)⟩,
          ⟨(some 66), none, .bin .add false (.t 64) (.t 65)⟩,
          ⟨(some 67), none, .mv (.t 9)⟩,
          ⟨(some 68), none, .bin .add false (.t 66) (.t 67)⟩,
          ⟨(some 69), none, .ias 1 (.t 61) (.t 68)⟩,
          ⟨(some 70), none, .load false 1 (.t 69)⟩,
          ⟨(some 10), none, .mv (.t 40)⟩,
          ⟨(some 11), none, .mv (.t 49)⟩,
          ⟨(some 12), none, .mv (.t 60)⟩,
          ⟨(some 13), none, .mv (.t 70)⟩] [
          ])
        (.ops [
          ⟨(some 71), none, .mv (.t 7)⟩,
          ⟨(some 72), none, .mv (.t 10)⟩,
          ⟨(some 73), none, .mv (.t 11)⟩,
          ⟨(some 74), none, .call 41 [(.t 72), (.t 73)]⟩,
          ⟨(some 75), none, .mv (.t 11)⟩,
          ⟨(some 76), none, .mv (.t 12)⟩,
          ⟨(some 77), none, .call 41 [(.t 75), (.t 76)]⟩,
          ⟨(some 78), none, .bin .add false (.t 74) (.t 77)⟩,
          ⟨(some 79), none, .mv (.t 12)⟩,
          ⟨(some 80), none, .mv (.t 13)⟩,
          ⟨(some 81), none, .call 41 [(.t 79), (.t 80)]⟩,
          ⟨(some 82), none, .bin .add false (.t 78) (.t 81)⟩,
          ⟨(some 83), none, .mv (.t 13)⟩,
          ⟨(some 84), none, .mv (.t 10)⟩,
          ⟨(some 85), none, .call 41 [(.t 83), (.t 84)]⟩,
          ⟨(some 86), none, .bin .add false (.t 82) (.t 85)⟩,
          ⟨(some 87), none, .bin .quo false (.t 86) (.c (.raw (.int .i64 (64))))⟩,
          ⟨(some 88), none, .bsl .i 1 [(0, (.t 87))]⟩,
          ⟨(some 89), none, .app .i (.t 71) (.t 88)⟩,
          ⟨(some 7), none, .mv (.t 89)⟩])))
       (.ops [
         ⟨(some 31), none, .mv (.t 9)⟩,
         ⟨(some 32), none, .bin .add false (.t 31) (.c (.raw (.int .i64 (1))))⟩,
         ⟨(some 9), none, .mv (.t 32)⟩])))))))
    (.ops [
      ⟨(some 25), none, .mv (.t 8)⟩,
      ⟨(some 26), none, .bin .add false (.t 25) (.c (.raw (.int .i64 (1))))⟩,
      ⟨(some 8), none, .mv (.t 26)⟩]))))))
  (.seq (.ops [
    ⟨(some 90), none, .mv (.t 7)⟩,
    ⟨(some 4), none, .mv (.t 90)⟩,
    ⟨(some 5), none, .mv (.c (.raw (.int .i64 (0))))⟩])
  .ret)))))
def f30 : DFn := ⟨d30, [.tmp 4, .tmp 5], 91⟩
theorem h30 : decFn Try.prog 30 = some f30 := by kernel_rfl

def d31 : DCode :=
  (.seq (.ops [
    ⟨(some 4), none, .mv (.c (nilS 1))⟩,
    ⟨(some 5), none, .mv (.c (.raw (.int .i64 (0))))⟩])
  (.seq (.seq (.ops [
    ⟨(some 14), none, .mv (.t 0)⟩,
    ⟨(some 15), none, .mv (.t 1)⟩,
    ⟨(some 16), none, .call 56 [(.t 14), (.t 15)]⟩,
    ⟨(some 6), none, .mv (.t 16)⟩])
  (.seq (.ops [
    ⟨(some 17), none, .mv (.t 6)⟩,
    ⟨(some 18), none, .bin .neq false (.t 17) (.c (.raw (.int .i64 (0))))⟩])
  (.cond (.t 18)
   (.seq (.ops [
     ⟨(some 19), none, .mv (.t 6)⟩,
     ⟨(some 4), none, .mv (.c (nilS 1))⟩,
     ⟨(some 5), none, .mv (.t 19)⟩])
   .ret)
   .skip)))
  (.seq (.ops [
    ⟨(some 20), none, .bsl .i 0 []⟩,
    ⟨(some 7), none, .mv (.t 20)⟩])
  (.seq (.seq (.ops [
    ⟨(some 21), none, .mv (.t 0)⟩,
    ⟨(some 22), none, .bin .sub false (.t 21) (.c (.raw (.int .i64 (1))))⟩,
    ⟨(some 23), none, .mv (.c (.raw (.int .i64 (0))))⟩])
  (.block 0
   (.loop
    (.seq (.ops [
      ⟨(some 24), none, .bin .lss false (.t 23) (.t 22)⟩])
    (.seq (.cond (.t 24)
     .skip
     (.exit 0))
    (.seq (.block 1
     (.seq (.ops [
       ⟨(some 25), none, .mv (.t 23)⟩,
       ⟨(some 8), none, .mv (.t 25)⟩])
     (.seq (.ops [
       ⟨(some 26), none, .mv (.t 0)⟩,
       ⟨(some 27), none, .bin .sub false (.t 26) (.c (.raw (.int .i64 (1))))⟩,
       ⟨(some 28), none, .mv (.c (.raw (.int .i64 (0))))⟩])
     (.block 2
      (.loop
       (.seq (.ops [
         ⟨(some 29), none, .bin .lss false (.t 28) (.t 27)⟩])
       (.seq (.cond (.t 29)
        .skip
        (.exit 2))
       (.seq (.block 3
        (.seq (.ops [
          ⟨(some 30), none, .mv (.t 28)⟩,
          ⟨(some 9), none, .mv (.t 30)⟩])
        (.seq (.drw [
          ⟨(some 31), none, .mv (.t 1)⟩,
          ⟨(some 32), none, .mv (.t 0)⟩,
          ⟨(some 33), none, .mv (.t 8)⟩,
          ⟨(some 34), none, .bin .mul false (.t 32) (.t 33)⟩,
          ⟨(some 35), none, .mv (.t 9)⟩,
          ⟨(some 36), none, .bin .add false (.t 34) (.t 35)⟩,
          ⟨(some 37), none, .ias 1 (.t 31) (.t 36)⟩,
          ⟨(some 38), none, .load false 1 (.t 37)⟩,
          ⟨(some 39), none, .mv (.t 1)⟩,
          ⟨(some 40), none, .mv (.t 0)⟩,
          ⟨(some 41), none, .mv (.t 8)⟩,
          ⟨(some 42), none, .bin .mul false (.t 40) (.t 41)⟩,
          ⟨(some 43), none, .mv (.t 9)⟩,
          ⟨(some 44), none, .bin .add false (.t 42) (.t 43)⟩,
          ⟨(some 45), none, .bin .add false (.t 44) (.c (.raw (.int .i64 (1))))⟩,
          ⟨(some 46), none, .ias 1 (.t 39) (.t 45)⟩,
          ⟨(some 47), none, .load false 1 (.t 46)⟩,
          ⟨(some 48), none, .mv (.t 1)⟩,
          ⟨(some 49), none, .mv (.t 0)⟩,
          ⟨(some 50), none, .mv (.t 8)⟩,
          ⟨(some 51), none, .bin .mul false (.t 49) (.t 50)⟩,
          ⟨(some 52), none, .mv (.t 0)⟩,
          ⟨(some 53), none, .bin .add false (.t 51) (.t 52)⟩,
          ⟨(some 54), none, .mv (.t 9)⟩,
          ⟨(some 55), none, .bin .add false (.t 53) (.t 54)⟩,
          ⟨(some 56), none, .bin .add false (.t 55) (.c (.raw (.int .i64 (1))))⟩,
          ⟨(some 57), none, .ias 1 (.t 48) (.t 56)⟩,
          ⟨(some 58), none, .load false 1 (.t 57)⟩,
          ⟨(some 59), none, .mv (.t 1)⟩,
          ⟨(some 60), none, .mv (.t 0)⟩,
          ⟨(some 61), none, .mv (.t 8)⟩,
          ⟨(some 62), none, .bin .mul false (.t 60) (.t 61)⟩,
          ⟨(some 63), none, .mv (.t 0)⟩,
          ⟨(some 64), none, .bin .add false (.t 62) (.t 63)⟩,
          ⟨(some 65), none, .mv (.t 9)⟩,
          ⟨(some 66), none, .bin .add false (.t 64) (.t 65)⟩,
          ⟨(some 67), none, .ias 1 (.t 59) (.t 66)⟩,
          ⟨(some 68), none, .load false 1 (.t 67)⟩,
          ⟨(some 10), none, .mv (.t 38)⟩,
          ⟨(some 11), none, .mv (.t 47)⟩,
          ⟨(some 12), none, .mv (.t 58)⟩,
          ⟨(some 13), none, .mv (.t 68)⟩] [
          ])
        (.ops [
          ⟨(some 69), none, .mv (.t 7)⟩,
          ⟨(some 70), none, .mv (.t 10)⟩,
          ⟨(some 71), none, .mv (.t 11)⟩,
          ⟨(some 72), none, .call 43 [(.t 70), (.t 71)]⟩,
          ⟨(some 73), none, .mv (.t 11)⟩,
          ⟨(some 74), none, .mv (.t 12)⟩,
          ⟨(some 75), none, .call 43 [(.t 73), (.t 74)]⟩,
          ⟨(some 76), none, .bin .add false (.t 72) (.t 75)⟩,
          ⟨(some 77), none, .mv (.t 12)⟩,
          ⟨(some 78), none, .mv (.t 13)⟩,
          ⟨(some 79), none, .call 43 [(.t 77), (.t 78)]⟩,
          ⟨(some 80), none, .bin .add false (.t 76) (.t 79)⟩,
          ⟨(some 81), none, .mv (.t 13)⟩,
          ⟨(some 82), none, .mv (.t 10)⟩,
          ⟨(some 83), none, .call 43 [(.t 81), (.t 82)]⟩,
          ⟨(some 84), none, .bin .add false (.t 80) (.t 83)⟩,
          ⟨(some 85), none, .bin .quo false (.t 84) (.c (.raw (.int .i64 (64))))⟩,
          ⟨(some 86), none, .bsl .i 1 [(0, (.t 85))]⟩,
          ⟨(some 87), none, .app .i (.t 69) (.t 86)⟩,
          ⟨(some 7), none, .mv (.t 87)⟩]))))
       (.ops [
         ⟨(some 88), none, .bin .add false (.t 28) (.c (.raw (.int .i64 (1))))⟩,
         ⟨(some 28), none, .mv (.t 88)⟩])))))))))
    (.ops [
      ⟨(some 89), none, .bin .add false (.t 23) (.c (.raw (.int .i64 (1))))⟩,
      ⟨(some 23), none, .mv (.t 89)⟩])))))))
  (.seq (.ops [
    ⟨(some 90), none, .mv (.t 7)⟩,
    ⟨(some 4), none, .mv (.t 90)⟩,
    ⟨(some 5), none, .mv (.c (.raw (.int .i64 (0))))⟩])
  .ret)))))
def f31 : DFn := ⟨d31, [.tmp 4, .tmp 5], 91⟩
theorem h31 : decFn Try.prog 31 = some f31 := by kernel_rfl

def d32 : DCode :=
  (.seq (.ops [
    ⟨(some 4), none, .mv (.c (.raw (.int .i64 (0))))⟩])
  (.seq (.ops [
    ⟨(some 5), none, .mv (.t 1)⟩,
    ⟨(some 6), none, .mv (.t 0)⟩,
    ⟨(some 7), none, .len (.t 6)⟩,
    ⟨(some 8), none, .bin .sub false (.t 5) (.t 7)⟩,
    ⟨(some 1), none, .mv (.t 8)⟩])
  (.seq (.seq (.ops [
    ⟨(some 9), none, .mv (.t 1)⟩,
    ⟨(some 10), none, .bin .lss false (.t 9) (.c (.raw (.int .i64 (0))))⟩])
  (.cond (.t 10)
   (.seq (.ops [
     ⟨(some 4), none, .mv (.c (.raw (.int .i64 (-1))))⟩])
   .ret)
   .skip))
  (.seq (.ops [
    ⟨(some 11), none, .mv (.t 1)⟩,
    ⟨(some 4), none, .mv (.t 11)⟩])
  .ret))))
def f32 : DFn := ⟨d32, [.tmp 4], 12⟩
theorem h32 : decFn Try.prog 32 = some f32 := by kernel_rfl

def d33 : DCode :=
  (.seq (.ops [
    ⟨(some 6), none, .mv (.c (nilS 1))⟩,
    ⟨(some 7), none, .mv (.c (.raw (.int .i64 (0))))⟩])
  (.seq (.seq (.ops [
    ⟨(some 12), none, .mv (.t 0)⟩,
    ⟨(some 13), none, .call 44 [(.t 12)]⟩,
    ⟨(some 14), none, .un .not (.t 13)⟩,
    ⟨(some 15), none, .mv (.t 14)⟩,
    ⟨(some 16), (some (15, false)), .mv (.t 1)⟩,
    ⟨(some 17), (some (15, false)), .call 44 [(.t 16)]⟩,
    ⟨(some 18), (some (15, false)), .un .not (.t 17)⟩,
    ⟨(some 19), none, .pick (.t 15) (.c (.raw (.bool true))) (.t 18)⟩,
    ⟨(some 20), none, .mv (.t 19)⟩,
    ⟨(some 21), (some (20, false)), .mv (.t 1)⟩,
    ⟨(some 22), (some (20, false)), .mv (.t 0)⟩,
    ⟨(some 23), (some (20, false)), .bin .gtr false (.t 21) (.t 22)⟩,
    ⟨(some 24), none, .pick (.t 20) (.c (.raw (.bool true))) (.t 23)⟩,
    ⟨(some 25), none, .mv (.t 24)⟩,
    ⟨(some 26), (some (25, false)), .mv (.t 2)⟩,
    ⟨(some 27), (some (25, false)), .len (.t 26)⟩,
    ⟨(some 28), (some (25, false)), .bin .gtr false (.t 27) (.c (.raw (.int .i64 (20))))⟩,
    ⟨(some 29), none, .pick (.t 25) (.c (.raw (.bool true))) (.t 28)⟩])
  (.cond (.t 29)
   (.seq (.ops [
     ⟨(some 6), none, .mv (.c (nilS 1))⟩,
     ⟨(some 7), none, .mv (.c (.raw (.int .i64 (2))))⟩])
   .ret)
   .skip))
  (.seq (.ops [
    ⟨(some 30), none, .mv (.t 0)⟩,
    ⟨(some 31), none, .mv (.t 0)⟩,
    ⟨(some 32), none, .bin .mul false (.t 30) (.t 31)⟩,
    ⟨(some 33), none, .mks .i (.t 32) (.t 32)⟩,
    ⟨(some 8), none, .mv (.t 33)⟩])
  (.seq (.seq (.ops [
    ⟨(some 9), none, .mv (.c (.raw (.int .i64 (0))))⟩])
  (.block 0
   (.loop
    (.seq (.seq (.ops [
      ⟨(some 34), none, .mv (.t 9)⟩,
      ⟨(some 35), none, .mv (.t 2)⟩,
      ⟨(some 36), none, .len (.t 35)⟩,
      ⟨(some 37), none, .bin .lss false (.t 34) (.t 36)⟩])
    (.cond (.t 37)
     .skip
     (.exit 0)))
    (.seq (.block 1
     (.seq (.seq (.ops [
       ⟨(some 40), none, .mv (.t 0)⟩,
       ⟨(some 41), none, .mv (.t 2)⟩,
       ⟨(some 42), none, .mv (.t 9)⟩,
       ⟨(some 43), none, .ias 2 (.t 41) (.t 42)⟩,
       ⟨(some 44), none, .load true 2 (.t 43)⟩,
       ⟨(some 45), none, .call 57 [(.t 40), (.t 44)]⟩,
       ⟨(some 46), none, .un .not (.t 45)⟩])
     (.cond (.t 46)
      (.seq (.ops [
        ⟨(some 6), none, .mv (.c (nilS 1))⟩,
        ⟨(some 7), none, .mv (.c (.raw (.int .i64 (2))))⟩])
      .ret)
      .skip))
     (.seq (.ops [
       ⟨(some 10), none, .mv (.c (.raw (.int .i64 (0))))⟩])
     (.block 2
      (.loop
       (.seq (.seq (.ops [
         ⟨(some 47), none, .mv (.t 10)⟩,
         ⟨(some 48), none, .mv (.t 1)⟩,
         ⟨(some 49), none, .bin .lss false (.t 47) (.t 48)⟩])
       (.cond (.t 49)
        .skip
        (.exit 2)))
       (.seq (.block 3
        (.seq (.ops [
          ⟨(some 11), none, .mv (.c (.raw (.int .i64 (0))))⟩])
        (.block 4
         (.loop
          (.seq (.seq (.ops [
            ⟨(some 52), none, .mv (.t 11)⟩,
            ⟨(some 53), none, .mv (.t 1)⟩,
            ⟨(some 54), none, .bin .lss false (.t 52) (.t 53)⟩])
          (.cond (.t 54)
           .skip
           (.exit 4)))
          (.seq (.block 5
           (.drw [
             ⟨(some 57), none, .mv (.t 8)⟩,
             ⟨(some 58), none, .mv (.t 0)⟩,
             ⟨(some 59), none, .mv (.t 2)⟩,
             ⟨(some 60), none, .mv (.t 9)⟩,
             ⟨(some 61), none, .ias 2 (.t 59) (.t 60)⟩,
             ⟨(some 62), none, .fad (.t 61) 0 0⟩,
             ⟨(some 63), none, .load false 1 (.t 62)⟩,
             ⟨(some 64), none, .mv (.t 10)⟩,
             ⟨(some 65), none, .bin .add false (.t 63) (.t 64)⟩,
             ⟨(some 66), none, .mv (.t 0)⟩,
             ⟨(some 67), none, .bin .rem false (.t 65) (.t 66)⟩,
             ⟨(some 68), none, .bin .mul false (.t 58) (.t 67)⟩,
             ⟨(some 69), none, .mv (.t 2)⟩,
             ⟨(some 70), none, .mv (.t 9)⟩,
             ⟨(some 71), none, .ias 2 (.t 69) (.t 70)⟩,
             ⟨(some 72), none, .fad (.t 71) 1 1⟩,
             ⟨(some 73), none, .load false 1 (.t 72)⟩,
             ⟨(some 74), none, .mv (.t 11)⟩,
             ⟨(some 75), none, .bin .add false (.t 73) (.t 74)⟩,
             ⟨(some 76), none, .mv (.t 0)⟩,
             ⟨(some 77), none, .bin .rem false (.t 75) (.t 76)⟩,
             ⟨(some 78), none, .bin .add false (.t 68) (.t 77)⟩,
             ⟨(some 79), none, .ias 1 (.t 57) (.t 78)⟩,
             ⟨(some 80), none, .load false 1 (.t 79)⟩,
             ⟨(some 81), none, .bin .add false (.t 80) (.c (.raw (.int .i64 (1))))⟩,
             ⟨(some 82), none, .ias 1 (.t 57) (.t 78)⟩] [
             ⟨none, none, .store 1 (.t 82) (.t 81)⟩]))
          (.ops [
            ⟨(some 55), none, .mv (.t 11)⟩,
            ⟨(some 56), none, .bin .add false (.t 55) (.c (.raw (.int .i64 (1))))⟩,
            ⟨(some 11), none, .mv (.t 56)⟩])))))))
       (.ops [
         ⟨(some 50), none, .mv (.t 10)⟩,
         ⟨(some 51), none, .bin .add false (.t 50) (.c (.raw (.int .i64 (1))))⟩,
         ⟨(some 10), none, .mv (.t 51)⟩]))))))))
    (.ops [
      ⟨(some 38), none, .mv (.t 9)⟩,
      ⟨(some 39), none, .bin .add false (.t 38) (.c (.raw (.int .i64 (1))))⟩,
      ⟨(some 9), none, .mv (.t 39)⟩]))))))
  (.seq (.ops [
    ⟨(some 83), none, .mv (.t 8)⟩,
    ⟨(some 6), none, .mv (.t 83)⟩,
    ⟨(some 7), none, .mv (.c (.raw (.int .i64 (0))))⟩])
  .ret)))))
def f33 : DFn := ⟨d33, [.tmp 6, .tmp 7], 84⟩
theorem h33 : decFn Try.prog 33 = some f33 := by kernel_rfl

def d34 : DCode :=
  (.seq (.ops [
    ⟨(some 2), none, .mv (.c (nilS 1))⟩])
  (.seq (.ops [
    ⟨(some 5), none, .mv (.t 0)⟩,
    ⟨(some 6), none, .len (.t 5)⟩,
    ⟨(some 7), none, .mks .p (.t 6) (.t 6)⟩,
    ⟨(some 3), none, .mv (.t 7)⟩])
  (.seq (.seq (.ops [
    ⟨(some 4), none, .mv (.c (.raw (.int .i64 (0))))⟩])
  (.block 0
   (.loop
    (.seq (.seq (.ops [
      ⟨(some 8), none, .mv (.t 4)⟩,
      ⟨(some 9), none, .mv (.t 0)⟩,
      ⟨(some 10), none, .len (.t 9)⟩,
      ⟨(some 11), none, .bin .lss false (.t 8) (.t 10)⟩])
    (.cond (.t 11)
     .skip
     (.exit 0)))
    (.seq (.block 1
     (.ops [
       ⟨(some 14), none, .mv (.t 3)⟩,
       ⟨(some 15), none, .mv (.t 4)⟩,
       ⟨(some 16), none, .mv (.t 0)⟩,
       ⟨(some 17), none, .mv (.t 4)⟩,
       ⟨(some 18), none, .ias 2 (.t 16) (.t 17)⟩,
       ⟨(some 19), none, .load true 2 (.t 18)⟩,
       ⟨(some 20), none, .call 58 [(.t 19)]⟩,
       ⟨(some 21), none, .ias 2 (.t 14) (.t 15)⟩,
       ⟨none, none, .store 2 (.t 21) (.t 20)⟩]))
    (.ops [
      ⟨(some 12), none, .mv (.t 4)⟩,
      ⟨(some 13), none, .bin .add false (.t 12) (.c (.raw (.int .i64 (1))))⟩,
      ⟨(some 4), none, .mv (.t 13)⟩]))))))
  (.seq (.ops [
    ⟨(some 22), none, .mv (.t 3)⟩,
    ⟨(some 2), none, .mv (.t 22)⟩])
  .ret))))
def f34 : DFn := ⟨d34, [.tmp 2], 23⟩
theorem h34 : decFn Try.prog 34 = some f34 := by kernel_rfl

def d35 : DCode :=
  (.seq (.ops [
    ⟨(some 6), none, .mv (.c (nilS 1))⟩,
    ⟨(some 7), none, .mv (.c (.raw (.int .i64 (0))))⟩])
  (.seq (.seq (.ops [
    ⟨(some 12), none, .mv (.t 0)⟩,
    ⟨(some 13), none, .mv (.t 1)⟩,
    ⟨(some 14), none, .call 59 [(.t 12), (.t 13)]⟩,
    ⟨(some 15), none, .un .not (.t 14)⟩,
    ⟨(some 16), none, .mv (.t 15)⟩,
    ⟨(some 17), (some (16, false)), .mv (.t 0)⟩,
    ⟨(some 18), (some (16, false)), .mv (.t 2)⟩,
    ⟨(some 19), (some (16, false)), .call 60 [(.t 17), (.t 18)]⟩,
    ⟨(some 20), (some (16, false)), .un .not (.t 19)⟩,
    ⟨(some 21), none, .pick (.t 16) (.c (.raw (.bool true))) (.t 20)⟩])
  (.cond (.t 21)
   (.seq (.ops [
     ⟨(some 6), none, .mv (.c (nilS 1))⟩,
     ⟨(some 7), none, .mv (.c (.raw (.int .i64 (2))))⟩])
   .ret)
   .skip))
  (.seq (.ops [
    ⟨(some 22), none, .mv (.t 0)⟩,
    ⟨(some 23), none, .mv (.t 0)⟩,
    ⟨(some 24), none, .bin .mul false (.t 22) (.t 23)⟩,
    ⟨(some 25), none, .mks .i (.t 24) (.t 24)⟩,
    ⟨(some 8), none, .mv (.t 25)⟩])
  (.seq (.seq (.ops [
    ⟨(some 26), none, .mv (.t 2)⟩,
    ⟨(some 27), none, .len (.t 26)⟩,
    ⟨(some 28), none, .mv (.c (.raw (.int .i64 (0))))⟩])
  (.block 0
   (.loop
    (.seq (.ops [
      ⟨(some 29), none, .bin .lss false (.t 28) (.t 27)⟩])
    (.seq (.cond (.t 29)
     .skip
     (.exit 0))
    (.seq (.block 1
     (.seq (.ops [
       ⟨(some 30), none, .ias 2 (.t 26) (.t 28)⟩,
       ⟨(some 31), none, .load true 2 (.t 30)⟩,
       ⟨(some 10), none, .alloc (.st [(.raw (.int .i64 (0))), (.raw (.int .i64 (0)))])⟩,
       ⟨none, none, .store 2 (.t 10) (.t 31)⟩])
     (.seq (.ops [
       ⟨(some 32), none, .mv (.t 1)⟩,
       ⟨(some 33), none, .mv (.t 1)⟩,
       ⟨(some 34), none, .bin .mul false (.t 32) (.t 33)⟩,
       ⟨(some 35), none, .mv (.c (.raw (.int .i64 (0))))⟩])
     (.block 2
      (.loop
       (.seq (.ops [
         ⟨(some 36), none, .bin .lss false (.t 35) (.t 34)⟩])
       (.seq (.cond (.t 36)
        .skip
        (.exit 2))
       (.seq (.block 3
        (.seq (.ops [
          ⟨(some 37), none, .mv (.t 35)⟩,
          ⟨(some 11), none, .mv (.t 37)⟩])
        (.drw [
          ⟨(some 38), none, .mv (.t 8)⟩,
          ⟨(some 39), none, .mv (.t 0)⟩,
          ⟨(some 40), none, .load true 2 (.t 10)⟩,
          ⟨(some 41), none, .mv (.t 11)⟩,
          ⟨(some 42), none, .mv (.t 1)⟩,
          ⟨(some 43), none, .bin .quo false (.t 41) (.t 42)⟩,
          ⟨(some 44), none, .mv (.t 11)⟩,
          ⟨(some 45), none, .mv (.t 1)⟩,
          ⟨(some 46), none, .bin .rem false (.t 44) (.t 45)⟩,
          ⟨(some 47), none, .call 61 [(.t 39), (.t 40), (.t 43), (.t 46)]⟩,
          ⟨(some 48), none, .ias 1 (.t 38) (.t 47)⟩,
          ⟨(some 49), none, .load false 1 (.t 48)⟩,
          ⟨(some 50), none, .bin .add false (.t 49) (.c (.raw (.int .i64 (1))))⟩,
          ⟨(some 51), none, .ias 1 (.t 38) (.t 47)⟩] [
          ⟨none, none, .store 1 (.t 51) (.t 50)⟩])))
       (.ops [
         ⟨(some 52), none, .bin .add false (.t 35) (.c (.raw (.int .i64 (1))))⟩,
         ⟨(some 35), none, .mv (.t 52)⟩])))))))))
    (.ops [
      ⟨(some 53), none, .bin .add false (.t 28) (.c (.raw (.int .i64 (1))))⟩,
      ⟨(some 28), none, .mv (.t 53)⟩])))))))
  (.seq (.ops [
    ⟨(some 54), none, .mv (.t 8)⟩,
    ⟨(some 6), none, .mv (.t 54)⟩,
    ⟨(some 7), none, .mv (.c (.raw (.int .i64 (0))))⟩])
  .ret)))))
def f35 : DFn := ⟨d35, [.tmp 6, .tmp 7], 55⟩
theorem h35 : decFn Try.prog 35 = some f35 := by kernel_rfl

def d36 : DCode :=
  (.seq (.ops [
    ⟨(some 4), none, .mv (.c (nilS 1))⟩,
    ⟨(some 5), none, .mv (.c (.raw (.int .i64 (0))))⟩])
  (.seq (.seq (.ops [
    ⟨(some 9), none, .mv (.t 0)⟩,
    ⟨(some 10), none, .mv (.t 1)⟩,
    ⟨(some 11), none, .call 55 [(.t 9), (.t 10)]⟩,
    ⟨(some 6), none, .mv (.t 11)⟩])
  (.seq (.ops [
    ⟨(some 12), none, .mv (.t 6)⟩,
    ⟨(some 13), none, .bin .neq false (.t 12) (.c (.raw (.int .i64 (0))))⟩])
  (.cond (.t 13)
   (.seq (.ops [
     ⟨(some 14), none, .mv (.t 6)⟩,
     ⟨(some 4), none, .mv (.c (nilS 1))⟩,
     ⟨(some 5), none, .mv (.t 14)⟩])
   .ret)
   .skip)))
  (.seq (.ops [
    ⟨(some 15), none, .bsl .i 0 []⟩,
    ⟨(some 7), none, .mv (.t 15)⟩])
  (.seq (.seq (.ops [
    ⟨(some 8), none, .mv (.c (.raw (.int .i64 (0))))⟩])
  (.block 0
   (.loop
    (.seq (.seq (.ops [
      ⟨(some 16), none, .mv (.t 8)⟩,
      ⟨(some 17), none, .mv (.t 0)⟩,
      ⟨(some 18), none, .mv (.t 0)⟩,
      ⟨(some 19), none, .bin .mul false (.t 17) (.t 18)⟩,
      ⟨(some 20), none, .bin .lss false (.t 16) (.t 19)⟩])
    (.cond (.t 20)
     .skip
     (.exit 0)))
    (.seq (.block 1
     (.block 2
      (.seq (.ops [
        ⟨(some 43), none, .mv (.t 8)⟩,
        ⟨(some 44), none, .bin .eql false (.t 43) (.c (.raw (.int .i64 (0))))⟩,
        ⟨(some 42), none, .mv (.t 44)⟩])
      (.cond (.t 42)
       (.ops [
         ⟨(some 45), none, .mv (.t 7)⟩,
         ⟨(some 46), none, .mv (.t 1)⟩,
         ⟨(some 47), none, .ias 1 (.t 46) (.c (.raw (.int .i64 (0))))⟩,
         ⟨(some 48), none, .load false 1 (.t 47)⟩,
         ⟨(some 49), none, .bsl .i 1 [(0, (.t 48))]⟩,
         ⟨(some 50), none, .app .i (.t 45) (.t 49)⟩,
         ⟨(some 7), none, .mv (.t 50)⟩])
       (.seq (.ops [
         ⟨(some 52), none, .mv (.t 8)⟩,
         ⟨(some 53), none, .mv (.t 0)⟩,
         ⟨(some 54), none, .bin .rem false (.t 52) (.t 53)⟩,
         ⟨(some 55), none, .bin .eql false (.t 54) (.c (.raw (.int .i64 (0))))⟩,
         ⟨(some 51), none, .mv (.t 55)⟩])
       (.cond (.t 51)
        (.drg [
          ⟨(some 56), none, .mv (.t 7)⟩,
          ⟨(some 57), none, .mv (.t 7)⟩,
          ⟨(some 58), none, .mv (.t 8)⟩,
          ⟨(some 59), none, .mv (.t 0)⟩,
          ⟨(some 60), none, .bin .sub false (.t 58) (.t 59)⟩,
          ⟨(some 61), none, .ias 1 (.t 57) (.t 60)⟩,
          ⟨(some 62), none, .load false 1 (.t 61)⟩,
          ⟨(some 63), none, .mv (.t 1)⟩,
          ⟨(some 64), none, .mv (.t 8)⟩,
          ⟨(some 65), none, .mv (.t 0)⟩,
          ⟨(some 66), none, .bin .sub false (.t 64) (.t 65)⟩,
          ⟨(some 67), none, .ias 1 (.t 63) (.t 66)⟩,
          ⟨(some 68), none, .load false 1 (.t 67)⟩,
          ⟨(some 69), none, .mv (.t 1)⟩,
          ⟨(some 70), none, .mv (.t 8)⟩,
          ⟨(some 71), none, .ias 1 (.t 69) (.t 70)⟩,
          ⟨(some 72), none, .load false 1 (.t 71)⟩,
          ⟨(some 73), none, .call 41 [(.t 68), (.t 72)]⟩,
          ⟨(some 74), none, .bin .add false (.t 62) (.t 73)⟩] (.bsl .i 1 [(0, (.t 74))]) (some 75) [
          ] [
          ⟨(some 76), none, .app .i (.t 56) (.t 75)⟩,
          ⟨(some 7), none, .mv (.t 76)⟩])
        (.drg [
          ⟨(some 23), none, .mv (.t 7)⟩,
          ⟨(some 24), none, .mv (.t 7)⟩,
          ⟨(some 25), none, .mv (.t 8)⟩,
          ⟨(some 26), none, .bin .sub false (.t 25) (.c (.raw (.int .i64 (1))))⟩,
          ⟨(some 27), none, .ias 1 (.t 24) (.t 26)⟩,
          ⟨(some 28), none, .load false 1 (.t 27)⟩,
          ⟨(some 29), none, .mv (.t 1)⟩,
          ⟨(some 30), none, .mv (.t 8)⟩,
          ⟨(some 31), none, .bin .sub false (.t 30) (.c (.raw (.int .i64 (1))))⟩,
          ⟨(some 32), none, .ias 1 (.t 29) (.t 31)⟩,
          ⟨(some 33), none, .load false 1 (.t 32)⟩,
          ⟨(some 34), none, .mv (.t 1)⟩,
          ⟨(some 35), none, .mv (.t 8)⟩,
          ⟨(some 36), none, .ias 1 (.t 34) (.t 35)⟩,
          ⟨(some 37), none, .load false 1 (.t 36)⟩,
          ⟨(some 38), none, .call 41 [(.t 33), (.t 37)]⟩,
          ⟨(some 39), none, .bin .add false (.t 28) (.t 38)⟩] (.bsl .i 1 [(0, (.t 39))]) (some 40) [
          ] [
          ⟨(some 41), none, .app .i (.t 23) (.t 40)⟩,
          ⟨(some 7), none, .mv (.t 41)⟩])))))))
    (.ops [
      ⟨(some 21), none, .mv (.t 8)⟩,
      ⟨(some 22), none, .bin .add false (.t 21) (.c (.raw (.int .i64 (1))))⟩,
      ⟨(some 8), none, .mv (.t 22)⟩]))))))
  (.seq (.ops [
    ⟨(some 77), none, .mv (.t 7)⟩,
    ⟨(some 4), none, .mv (.t 77)⟩,
    ⟨(some 5), none, .mv (.c (.raw (.int .i64 (0))))⟩])
  .ret)))))
def f36 : DFn := ⟨d36, [.tmp 4, .tmp 5], 78⟩
theorem h36 : decFn Try.prog 36 = some f36 := by kernel_rfl

def d37 : DCode :=
  (.seq (.ops [
    ⟨(some 4), none, .mv (.c (nilS 1))⟩,
    ⟨(some 5), none, .mv (.c (.raw (.int .i64 (0))))⟩])
  (.seq (.seq (.ops [
    ⟨(some 10), none, .mv (.t 0)⟩,
    ⟨(some 11), none, .mv (.t 1)⟩,
    ⟨(some 12), none, .call 56 [(.t 10), (.t 11)]⟩,
    ⟨(some 6), none, .mv (.t 12)⟩])
  (.seq (.ops [
    ⟨(some 13), none, .mv (.t 6)⟩,
    ⟨(some 14), none, .bin .neq false (.t 13) (.c (.raw (.int .i64 (0))))⟩])
  (.cond (.t 14)
   (.seq (.ops [
     ⟨(some 15), none, .mv (.t 6)⟩,
     ⟨(some 4), none, .mv (.c (nilS 1))⟩,
     ⟨(some 5), none, .mv (.t 15)⟩])
   .ret)
   .skip)))
  (.seq (.ops [
    ⟨(some 16), none, .mv (.t 1)⟩,
    ⟨(some 17), none, .call 62 [(.t 16)]⟩,
    ⟨(some 7), none, .mv (.t 17)⟩])
  (.seq (.seq (.ops [
    ⟨(some 8), none, .mv (.c (.raw (.int .i64 (1))))⟩])
  (.block 0
   (.loop
    (.seq (.seq (.ops [
      ⟨(some 18), none, .mv (.t 8)⟩,
      ⟨(some 19), none, .mv (.t 0)⟩,
      ⟨(some 20), none, .mv (.t 0)⟩,
      ⟨(some 21), none, .bin .mul false (.t 19) (.t 20)⟩,
      ⟨(some 22), none, .bin .lss false (.t 18) (.t 21)⟩])
    (.cond (.t 22)
     .skip
     (.exit 0)))
    (.seq (.block 1
     (.seq (.ops [
       ⟨(some 25), none, .mv (.t 8)⟩,
       ⟨(some 26), none, .bin .sub false (.t 25) (.c (.raw (.int .i64 (1))))⟩,
       ⟨(some 9), none, .mv (.t 26)⟩])
     (.seq (.seq (.ops [
       ⟨(some 27), none, .mv (.t 8)⟩,
       ⟨(some 28), none, .mv (.t 0)⟩,
       ⟨(some 29), none, .bin .rem false (.t 27) (.t 28)⟩,
       ⟨(some 30), none, .bin .eql false (.t 29) (.c (.raw (.int .i64 (0))))⟩])
     (.cond (.t 30)
      (.ops [
        ⟨(some 31), none, .mv (.t 8)⟩,
        ⟨(some 32), none, .mv (.t 0)⟩,
        ⟨(some 33), none, .bin .sub false (.t 31) (.t 32)⟩,
        ⟨(some 9), none, .mv (.t 33)⟩])
      .skip))
     (.drw [
       ⟨(some 34), none, .mv (.t 7)⟩,
       ⟨(some 35), none, .mv (.t 8)⟩,
       ⟨(some 36), none, .mv (.t 7)⟩,
       ⟨(some 37), none, .mv (.t 9)⟩,
       ⟨(some 38), none, .ias 1 (.t 36) (.t 37)⟩,
       ⟨(some 39), none, .load false 1 (.t 38)⟩,
       ⟨(some 40), none, .mv (.t 1)⟩,
       ⟨(some 41), none, .mv (.t 9)⟩,
       ⟨(some 42), none, .ias 1 (.t 40) (.t 41)⟩,
       ⟨(some 43), none, .load false 1 (.t 42)⟩,
       ⟨(some 44), none, .mv (.t 1)⟩,
       ⟨(some 45), none, .mv (.t 8)⟩,
       ⟨(some 46), none, .ias 1 (.t 44) (.t 45)⟩,
       ⟨(some 47), none, .load false 1 (.t 46)⟩,
       ⟨(some 48), none, .call 43 [(.t 43), (.t 47)]⟩,
       ⟨(some 49), none, .bin .add false (.t 39) (.t 48)⟩,
       ⟨(some 50), none, .ias 1 (.t 34) (.t 35)⟩] [
       ⟨none, none, .store 1 (.t 50) (.t 49)⟩]))))
    (.ops [
      ⟨(some 23), none, .mv (.t 8)⟩,
      ⟨(some 24), none, .bin .add false (.t 23) (.c (.raw (.int .i64 (1))))⟩,
      ⟨(some 8), none, .mv (.t 24)⟩]))))))
  (.seq (.ops [
    ⟨(some 51), none, .mv (.t 7)⟩,
    ⟨(some 52), none, .call 63 [(.t 51)]⟩,
    ⟨(some 53), none, .ext (.t 52) 0⟩,
    ⟨(some 54), none, .ext (.t 52) 1⟩,
    ⟨(some 4), none, .mv (.t 53)⟩,
    ⟨(some 5), none, .mv (.t 54)⟩])
  .ret)))))
def f37 : DFn := ⟨d37, [.tmp 4, .tmp 5], 55⟩
theorem h37 : decFn Try.prog 37 = some f37 := by kernel_rfl

def d38 : DCode :=
  (.seq (.ops [
    ⟨(some 4), none, .mv (.c (nilS 1))⟩,
    ⟨(some 5), none, .mv (.c (.raw (.int .i64 (0))))⟩])
  (.seq (.seq (.ops [
    ⟨(some 9), none, .mv (.t 0)⟩,
    ⟨(some 10), none, .mv (.t 1)⟩,
    ⟨(some 11), none, .call 49 [(.t 9), (.t 10)]⟩,
    ⟨(some 12), none, .un .not (.t 11)⟩])
  (.cond (.t 12)
   (.seq (.ops [
     ⟨(some 4), none, .mv (.c (nilS 1))⟩,
     ⟨(some 5), none, .mv (.c (.raw (.int .i64 (1))))⟩])
   .ret)
   .skip))
  (.seq (.ops [
    ⟨(some 13), none, .bsl .i 0 []⟩,
    ⟨(some 14), none, .bsl .i 0 []⟩,
    ⟨(some 6), none, .mv (.t 13)⟩,
    ⟨(some 7), none, .mv (.t 14)⟩])
  (.seq (.seq (.ops [
    ⟨(some 8), none, .mv (.c (.raw (.int .i64 (0))))⟩])
  (.block 0
   (.loop
    (.seq (.seq (.ops [
      ⟨(some 15), none, .mv (.t 8)⟩,
      ⟨(some 16), none, .mv (.t 0)⟩,
      ⟨(some 17), none, .mv (.t 0)⟩,
      ⟨(some 18), none, .bin .mul false (.t 16) (.t 17)⟩,
      ⟨(some 19), none, .bin .lss false (.t 15) (.t 18)⟩])
    (.cond (.t 19)
     .skip
     (.exit 0)))
    (.seq (.block 1
     (.seq (.seq (.ops [
       ⟨(some 22), none, .mv (.t 8)⟩,
       ⟨(some 23), none, .mv (.t 0)⟩,
       ⟨(some 24), none, .bin .rem false (.t 22) (.t 23)⟩,
       ⟨(some 25), none, .mv (.t 0)⟩,
       ⟨(some 26), none, .bin .sub false (.t 25) (.c (.raw (.int .i64 (1))))⟩,
       ⟨(some 27), none, .bin .lss false (.t 24) (.t 26)⟩])
     (.cond (.t 27)
      (.drg [
        ⟨(some 28), none, .mv (.t 6)⟩,
        ⟨(some 29), none, .mv (.t 1)⟩,
        ⟨(some 30), none, .mv (.t 8)⟩,
        ⟨(some 31), none, .bin .add false (.t 30) (.c (.raw (.int .i64 (1))))⟩,
        ⟨(some 32), none, .ias 1 (.t 29) (.t 31)⟩,
        ⟨(some 33), none, .load false 1 (.t 32)⟩,
        ⟨(some 34), none, .mv (.t 1)⟩,
        ⟨(some 35), none, .mv (.t 8)⟩,
        ⟨(some 36), none, .ias 1 (.t 34) (.t 35)⟩,
        ⟨(some 37), none, .load false 1 (.t 36)⟩,
        ⟨(some 38), none, .bin .sub false (.t 33) (.t 37)⟩] (.bsl .i 1 [(0, (.t 38))]) (some 39) [
        ] [
        ⟨(some 40), none, .app .i (.t 28) (.t 39)⟩,
        ⟨(some 6), none, .mv (.t 40)⟩])
      .skip))
     (.seq (.ops [
       ⟨(some 41), none, .mv (.t 8)⟩,
       ⟨(some 42), none, .mv (.t 0)⟩,
       ⟨(some 43), none, .bin .quo false (.t 41) (.t 42)⟩,
       ⟨(some 44), none, .mv (.t 0)⟩,
       ⟨(some 45), none, .bin .sub false (.t 44) (.c (.raw (.int .i64 (1))))⟩,
       ⟨(some 46), none, .bin .lss false (.t 43) (.t 45)⟩])
     (.cond (.t 46)
      (.drg [
        ⟨(some 47), none, .mv (.t 7)⟩,
        ⟨(some 48), none, .mv (.t 1)⟩,
        ⟨(some 49), none, .mv (.t 8)⟩,
        ⟨(some 50), none, .mv (.t 0)⟩,
        ⟨(some 51), none, .bin .add false (.t 49) (.t 50)⟩,
        ⟨(some 52), none, .ias 1 (.t 48) (.t 51)⟩,
        ⟨(some 53), none, .load false 1 (.t 52)⟩,
        ⟨(some 54), none, .mv (.t 1)⟩,
        ⟨(some 55), none, .mv (.t 8)⟩,
        ⟨(some 56), none, .ias 1 (.t 54) (.t 55)⟩,
        ⟨(some 57), none, .load false 1 (.t 56)⟩,
        ⟨(some 58), none, .bin .sub false (.t 53) (.t 57)⟩] (.bsl .i 1 [(0, (.t 58))]) (some 59) [
        ] [
        ⟨(some 60), none, .app .i (.t 47) (.t 59)⟩,
        ⟨(some 7), none, .mv (.t 60)⟩])
      .skip))))
    (.ops [
      ⟨(some 20), none, .mv (.t 8)⟩,
      ⟨(some 21), none, .bin .add false (.t 20) (.c (.raw (.int .i64 (1))))⟩,
      ⟨(some 8), none, .mv (.t 21)⟩]))))))
  (.seq (.ops [
    ⟨(some 61), none, .mv (.t 6)⟩,
    ⟨(some 62), none, .call 64 [(.t 61)]⟩,
    ⟨(some 63), none, .mv (.t 7)⟩,
    ⟨(some 64), none, .call 64 [(.t 63)]⟩,
    ⟨(some 65), none, .bsl .i 2 [(0, (.t 62)), (1, (.t 64))]⟩,
    ⟨(some 4), none, .mv (.t 65)⟩,
    ⟨(some 5), none, .mv (.c (.raw (.int .i64 (0))))⟩])
  .ret)))))
def f38 : DFn := ⟨d38, [.tmp 4, .tmp 5], 66⟩
theorem h38 : decFn Try.prog 38 = some f38 := by kernel_rfl

def d39 : DCode :=
  (.seq (.ops [
    ⟨(some 4), none, .mv (.c (nilS 1))⟩,
    ⟨(some 5), none, .mv (.c (.raw (.int .i64 (0))))⟩])
  (.seq (.seq (.ops [
    ⟨(some 10), none, .mv (.t 0)⟩,
    ⟨(some 11), none, .mv (.t 1)⟩,
    ⟨(some 12), none, .call 19 [(.t 10), (.t 11)]⟩,
    ⟨(some 13), none, .un .not (.t 12)⟩])
  (.cond (.t 13)
   (.seq (.ops [
     ⟨(some 4), none, .mv (.c (nilS 1))⟩,
     ⟨(some 5), none, .mv (.c (.raw (.int .i64 (1))))⟩])
   .ret)
   .skip))
  (.seq (.ops [
    ⟨(some 14), none, .bsl .i 0 []⟩,
    ⟨(some 15), none, .bsl .i 0 []⟩,
    ⟨(some 6), none, .mv (.t 14)⟩,
    ⟨(some 7), none, .mv (.t 15)⟩])
  (.seq (.seq (.ops [
    ⟨(some 16), none, .mv (.t 1)⟩,
    ⟨(some 17), none, .len (.t 16)⟩,
    ⟨(some 18), none, .mv (.c (.raw (.int .i64 (0))))⟩])
  (.block 0
   (.loop
    (.seq (.ops [
      ⟨(some 19), none, .bin .lss false (.t 18) (.t 17)⟩])
    (.seq (.cond (.t 19)
     .skip
     (.exit 0))
    (.seq (.block 1
     (.seq (.ops [
       ⟨(some 20), none, .mv (.t 18)⟩,
       ⟨(some 21), none, .ias 1 (.t 16) (.t 18)⟩,
       ⟨(some 22), none, .load false 1 (.t 21)⟩,
       ⟨(some 8), none, .mv (.t 20)⟩,
       ⟨(some 9), none, .mv (.t 22)⟩])
     (.seq (.seq (.ops [
       ⟨(some 23), none, .mv (.t 8)⟩,
       ⟨(some 24), none, .mv (.t 0)⟩,
       ⟨(some 25), none, .bin .rem false (.t 23) (.t 24)⟩,
       ⟨(some 26), none, .mv (.t 0)⟩,
       ⟨(some 27), none, .bin .sub false (.t 26) (.c (.raw (.int .i64 (1))))⟩,
       ⟨(some 28), none, .bin .lss false (.t 25) (.t 27)⟩])
     (.cond (.t 28)
      (.ops [
        ⟨(some 29), none, .mv (.t 6)⟩,
        ⟨(some 30), none, .mv (.t 1)⟩,
        ⟨(some 31), none, .mv (.t 8)⟩,
        ⟨(some 32), none, .bin .add false (.t 31) (.c (.raw (.int .i64 (1))))⟩,
        ⟨(some 33), none, .ias 1 (.t 30) (.t 32)⟩,
        ⟨(some 34), none, .load false 1 (.t 33)⟩,
        ⟨(some 35), none, .mv (.t 9)⟩,
        ⟨(some 36), none, .bin .sub false (.t 34) (.t 35)⟩,
        ⟨(some 37), none, .bsl .i 1 [(0, (.t 36))]⟩,
        ⟨(some 38), none, .app .i (.t 29) (.t 37)⟩,
        ⟨(some 6), none, .mv (.t 38)⟩])
      .skip))
     (.seq (.ops [
       ⟨(some 39), none, .mv (.t 8)⟩,
       ⟨(some 40), none, .mv (.t 0)⟩,
       ⟨(some 41), none, .bin .quo false (.t 39) (.t 40)⟩,
       ⟨(some 42), none, .mv (.t 0)⟩,
       ⟨(some 43), none, .bin .sub false (.t 42) (.c (.raw (.int .i64 (1))))⟩,
       ⟨(some 44), none, .bin .lss false (.t 41) (.t 43)⟩])
     (.cond (.t 44)
      (.ops [
        ⟨(some 45), none, .mv (.t 7)⟩,
        ⟨(some 46), none, .mv (.t 1)⟩,
        ⟨(some 47), none, .mv (.t 8)⟩,
        ⟨(some 48), none, .mv (.t 0)⟩,
        ⟨(some 49), none, .bin .add false (.t 47) (.t 48)⟩,
        ⟨(some 50), none, .ias 1 (.t 46) (.t 49)⟩,
        ⟨(some 51), none, .load false 1 (.t 50)⟩,
        ⟨(some 52), none, .mv (.t 9)⟩,
        ⟨(some 53), none, .bin .sub false (.t 51) (.t 52)⟩,
        ⟨(some 54), none, .bsl .i 1 [(0, (.t 53))]⟩,
        ⟨(some 55), none, .app .i (.t 45) (.t 54)⟩,
        ⟨(some 7), none, .mv (.t 55)⟩])
      .skip)))))
    (.ops [
      ⟨(some 56), none, .bin .add false (.t 18) (.c (.raw (.int .i64 (1))))⟩,
      ⟨(some 18), none, .mv (.t 56)⟩])))))))
  (.seq (.ops [
    ⟨(some 57), none, .mv (.t 6)⟩,
    ⟨(some 58), none, .call 65 [(.t 57)]⟩,
    ⟨(some 59), none, .mv (.t 7)⟩,
    ⟨(some 60), none, .call 65 [(.t 59)]⟩,
    ⟨(some 61), none, .bsl .i 2 [(0, (.t 58)), (1, (.t 60))]⟩,
    ⟨(some 4), none, .mv (.t 61)⟩,
    ⟨(some 5), none, .mv (.c (.raw (.int .i64 (0))))⟩])
  .ret)))))
def f39 : DFn := ⟨d39, [.tmp 4, .tmp 5], 62⟩
theorem h39 : decFn Try.prog 39 = some f39 := by kernel_rfl

def d40 : DCode :=
  (.seq (.ops [
    ⟨(some 6), none, .mv (.c (.raw (.bool false)))⟩])
  (.seq (.ops [
    ⟨(some 7), none, .mv (.t 0)⟩,
    ⟨(some 8), none, .mv (.t 1)⟩,
    ⟨(some 9), none, .bin .geq false (.t 7) (.t 8)⟩,
    ⟨(some 10), none, .mv (.t 9)⟩,
    ⟨(some 11), (some (10, true)), .mv (.t 0)⟩,
    ⟨(some 12), (some (10, true)), .mv (.t 2)⟩,
    ⟨(some 13), (some (10, true)), .bin .leq false (.t 11) (.t 12)⟩,
    ⟨(some 14), none, .pick (.t 10) (.t 13) (.c (.raw (.bool false)))⟩,
    ⟨(some 6), none, .mv (.t 14)⟩])
  .ret))
def f40 : DFn := ⟨d40, [.tmp 6], 15⟩
theorem h40 : decFn Try.prog 40 = some f40 := by kernel_rfl

def d41 : DCode :=
  (.seq (.ops [
    ⟨(some 4), none, .mv (.c (.raw (.int .i64 (0))))⟩])
  (.seq (.ops [
    ⟨(some 5), none, .mv (.t 1)⟩,
    ⟨(some 6), none, .mv (.t 0)⟩,
    ⟨(some 7), none, .bin .sub false (.t 5) (.t 6)⟩,
    ⟨(some 8), none, .bin .add false (.t 7) (.c (.raw (.int .i64 (32))))⟩,
    ⟨(some 9), none, .call 53 [(.t 8)]⟩,
    ⟨(some 10), none, .bin .sub false (.t 9) (.c (.raw (.int .i64 (32))))⟩,
    ⟨(some 4), none, .mv (.t 10)⟩])
  .ret))
def f41 : DFn := ⟨d41, [.tmp 4], 11⟩
theorem h41 : decFn Try.prog 41 = some f41 := by kernel_rfl

def d42 : DCode :=
  (.seq (.ops [
    ⟨(some 2), none, .mv (.c (.raw (.bool false)))⟩])
  (.seq (.ops [
    ⟨(some 3), none, .mv (.t 0)⟩,
    ⟨(some 4), none, .call 47 [(.t 3), (.c (.raw (.int .i64 (-100000)))), (.c (.raw (.int .i64 (100000))))]⟩,
    ⟨(some 2), none, .mv (.t 4)⟩])
  .ret))
def f42 : DFn := ⟨d42, [.tmp 2], 5⟩
theorem h42 : decFn Try.prog 42 = some f42 := by kernel_rfl

def d43 : DCode :=
  (.seq (.ops [
    ⟨(some 4), none, .mv (.c (.raw (.int .i64 (0))))⟩])
  (.seq (.ops [
    ⟨(some 5), none, .mv (.t 1)⟩,
    ⟨(some 6), none, .mv (.t 0)⟩,
    ⟨(some 7), none, .bin .sub false (.t 5) (.t 6)⟩,
    ⟨(some 8), none, .bin .add false (.t 7) (.c (.raw (.int .i64 (32))))⟩,
    ⟨(some 9), none, .call 54 [(.t 8), (.c (.raw (.int .i64 (64))))]⟩,
    ⟨(some 10), none, .bin .sub false (.t 9) (.c (.raw (.int .i64 (32))))⟩,
    ⟨(some 4), none, .mv (.t 10)⟩])
  .ret))
def f43 : DFn := ⟨d43, [.tmp 4], 11⟩
theorem h43 : decFn Try.prog 43 = some f43 := by kernel_rfl

def d44 : DCode :=
  (.seq (.ops [
    ⟨(some 2), none, .mv (.c (.raw (.bool false)))⟩])
  (.seq (.ops [
    ⟨(some 3), none, .mv (.t 0)⟩,
    ⟨(some 4), none, .bin .eql false (.t 3) (.c (.raw (.int .i64 (1))))⟩,
    ⟨(some 5), none, .mv (.t 4)⟩,
    ⟨(some 6), (some (5, false)), .mv (.t 0)⟩,
    ⟨(some 7), (some (5, false)), .bin .eql false (.t 6) (.c (.raw (.int .i64 (2))))⟩,
    ⟨(some 8), none, .pick (.t 5) (.c (.raw (.bool true))) (.t 7)⟩,
    ⟨(some 9), none, .mv (.t 8)⟩,
    ⟨(some 10), (some (9, false)), .mv (.t 0)⟩,
    ⟨(some 11), (some (9, false)), .bin .eql false (.t 10) (.c (.raw (.int .i64 (4))))⟩,
    ⟨(some 12), none, .pick (.t 9) (.c (.raw (.bool true))) (.t 11)⟩,
    ⟨(some 13), none, .mv (.t 12)⟩,
    ⟨(some 14), (some (13, false)), .mv (.t 0)⟩,
    ⟨(some 15), (some (13, false)), .bin .eql false (.t 14) (.c (.raw (.int .i64 (8))))⟩,
    ⟨(some 16), none, .pick (.t 13) (.c (.raw (.bool true))) (.t 15)⟩,
    ⟨(some 2), none, .mv (.t 16)⟩])
  .ret))
def f44 : DFn := ⟨d44, [.tmp 2], 17⟩
theorem h44 : decFn Try.prog 44 = some f44 := by kernel_rfl

def d45 : DCode :=
  (.seq (.ops [
    ⟨(some 4), none, .mv (.c (.raw (.int .i64 (0))))⟩])
  (.seq (.seq (.ops [
    ⟨(some 5), none, .mv (.t 0)⟩,
    ⟨(some 6), none, .bin .eql false (.t 5) (.c (.raw (.int .i64 (1))))⟩,
    ⟨(some 7), none, .mv (.t 6)⟩,
    ⟨(some 8), (some (7, false)), .mv (.t 1)⟩,
    ⟨(some 9), (some (7, false)), .mv (.t 0)⟩,
    ⟨(some 10), (some (7, false)), .bin .quo false (.t 9) (.c (.raw (.int .i64 (2))))⟩,
    ⟨(some 11), (some (7, false)), .bin .lss false (.t 8) (.t 10)⟩,
    ⟨(some 12), none, .pick (.t 7) (.c (.raw (.bool true))) (.t 11)⟩])
  (.cond (.t 12)
   (.seq (.ops [
     ⟨(some 13), none, .mv (.t 1)⟩,
     ⟨(some 4), none, .mv (.t 13)⟩])
   .ret)
   .skip))
  (.seq (.ops [
    ⟨(some 14), none, .mv (.t 1)⟩,
    ⟨(some 15), none, .mv (.t 0)⟩,
    ⟨(some 16), none, .bin .sub false (.t 14) (.t 15)⟩,
    ⟨(some 4), none, .mv (.t 16)⟩])
  .ret)))
def f45 : DFn := ⟨d45, [.tmp 4], 17⟩
theorem h45 : decFn Try.prog 45 = some f45 := by kernel_rfl

def d46 : DCode :=
  (.seq (.ops [
    ⟨(some 2), none, .mv (.c (.raw (.bool false)))⟩])
  (.seq (.ops [
    ⟨(some 3), none, .mv (.t 0)⟩,
    ⟨(some 4), none, .bin .eql false (.t 3) (.c (.raw (.int .i64 (1))))⟩,
    ⟨(some 5), none, .mv (.t 4)⟩,
    ⟨(some 6), (some (5, false)), .mv (.t 0)⟩,
    ⟨(some 7), (some (5, false)), .bin .eql false (.t 6) (.c (.raw (.int .i64 (2))))⟩,
    ⟨(some 8), none, .pick (.t 5) (.c (.raw (.bool true))) (.t 7)⟩,
    ⟨(some 9), none, .mv (.t 8)⟩,
    ⟨(some 10), (some (9, false)), .mv (.t 0)⟩,
    ⟨(some 11), (some (9, false)), .bin .eql false (.t 10) (.c (.raw (.int .i64 (4))))⟩,
    ⟨(some 12), none, .pick (.t 9) (.c (.raw (.bool true))) (.t 11)⟩,
    ⟨(some 13), none, .mv (.t 12)⟩,
    ⟨(some 14), (some (13, false)), .mv (.t 0)⟩,
    ⟨(some 15), (some (13, false)), .bin .eql false (.t 14) (.c (.raw (.int .i64 (8))))⟩,
    ⟨(some 16), none, .pick (.t 13) (.c (.raw (.bool true))) (.t 15)⟩,
    ⟨(some 2), none, .mv (.t 16)⟩])
  .ret))
def f46 : DFn := ⟨d46, [.tmp 2], 17⟩
theorem h46 : decFn Try.prog 46 = some f46 := by kernel_rfl

def d47 : DCode :=
  (.seq (.ops [
    ⟨(some 6), none, .mv (.c (.raw (.bool false)))⟩])
  (.seq (.ops [
    ⟨(some 7), none, .mv (.t 0)⟩,
    ⟨(some 8), none, .mv (.t 1)⟩,
    ⟨(some 9), none, .bin .geq false (.t 7) (.t 8)⟩,
    ⟨(some 10), none, .mv (.t 9)⟩,
    ⟨(some 11), (some (10, true)), .mv (.t 0)⟩,
    ⟨(some 12), (some (10, true)), .mv (.t 2)⟩,
    ⟨(some 13), (some (10, true)), .bin .leq false (.t 11) (.t 12)⟩,
    ⟨(some 14), none, .pick (.t 10) (.t 13) (.c (.raw (.bool false)))⟩,
    ⟨(some 6), none, .mv (.t 14)⟩])
  .ret))
def f47 : DFn := ⟨d47, [.tmp 6], 15⟩
theorem h47 : decFn Try.prog 47 = some f47 := by kernel_rfl

def d48 : DCode :=
  (.seq (.ops [
    ⟨(some 4), none, .mv (.c (.raw (.int .i64 (0))))⟩])
  (.seq (.seq (.ops [
    ⟨(some 5), none, .mv (.t 0)⟩,
    ⟨(some 6), none, .bin .eql false (.t 5) (.c (.raw (.int .i64 (1))))⟩,
    ⟨(some 7), none, .mv (.t 6)⟩,
    ⟨(some 8), (some (7, false)), .mv (.t 1)⟩,
    ⟨(some 9), (some (7, false)), .mv (.t 0)⟩,
    ⟨(some 10), (some (7, false)), .bin .quo false (.t 9) (.c (.raw (.int .i64 (2))))⟩,
    ⟨(some 11), (some (7, false)), .bin .lss false (.t 8) (.t 10)⟩,
    ⟨(some 12), none, .pick (.t 7) (.c (.raw (.bool true))) (.t 11)⟩])
  (.cond (.t 12)
   (.seq (.ops [
     ⟨(some 13), none, .mv (.t 1)⟩,
     ⟨(some 4), none, .mv (.t 13)⟩])
   .ret)
   .skip))
  (.seq (.ops [
    ⟨(some 14), none, .mv (.t 1)⟩,
    ⟨(some 15), none, .mv (.t 0)⟩,
    ⟨(some 16), none, .bin .sub false (.t 14) (.t 15)⟩,
    ⟨(some 4), none, .mv (.t 16)⟩])
  .ret)))
def f48 : DFn := ⟨d48, [.tmp 4], 17⟩
theorem h48 : decFn Try.prog 48 = some f48 := by kernel_rfl

def d49 : DCode :=
  (.seq (.ops [
    ⟨(some 4), none, .mv (.c (.raw (.bool false)))⟩])
  (.seq (.seq (.ops [
    ⟨(some 6), none, .mv (.t 0)⟩,
    ⟨(some 7), none, .call 44 [(.t 6)]⟩,
    ⟨(some 8), none, .un .not (.t 7)⟩,
    ⟨(some 9), none, .mv (.t 8)⟩,
    ⟨(some 10), (some (9, false)), .mv (.t 1)⟩,
    ⟨(some 11), (some (9, false)), .len (.t 10)⟩,
    ⟨(some 12), (some (9, false)), .mv (.t 0)⟩,
    ⟨(some 13), (some (9, false)), .mv (.t 0)⟩,
    ⟨(some 14), (some (9, false)), .bin .mul false (.t 12) (.t 13)⟩,
    ⟨(some 15), (some (9, false)), .bin .neq false (.t 11) (.t 14)⟩,
    ⟨(some 16), none, .pick (.t 9) (.c (.raw (.bool true))) (.t 15)⟩])
  (.cond (.t 16)
   (.seq (.ops [
     ⟨(some 4), none, .mv (.c (.raw (.bool false)))⟩])
   .ret)
   .skip))
  (.seq (.seq (.ops [
    ⟨(some 5), none, .mv (.c (.raw (.int .i64 (0))))⟩])
  (.block 0
   (.loop
    (.seq (.seq (.ops [
      ⟨(some 17), none, .mv (.t 5)⟩,
      ⟨(some 18), none, .mv (.t 1)⟩,
      ⟨(some 19), none, .len (.t 18)⟩,
      ⟨(some 20), none, .bin .lss false (.t 17) (.t 19)⟩])
    (.cond (.t 20)
     .skip
     (.exit 0)))
    (.seq (.block 1
     (.seq (.ops [
       ⟨(some 23), none, .mv (.t 1)⟩,
       ⟨(some 24), none, .mv (.t 5)⟩,
       ⟨(some 25), none, .ias 1 (.t 23) (.t 24)⟩,
       ⟨(some 26), none, .load false 1 (.t 25)⟩,
       ⟨(some 27), none, .call 40 [(.t 26), (.c (.raw (.int .i64 (-100000)))), (.c (.raw (.int .i64 (100000))))]⟩,
       ⟨(some 28), none, .un .not (.t 27)⟩])
     (.cond (.t 28)
      (.seq (.ops [
        ⟨(some 4), none, .mv (.c (.raw (.bool false)))⟩])
      .ret)
      .skip)))
    (.ops [
      ⟨(some 21), none, .mv (.t 5)⟩,
      ⟨(some 22), none, .bin .add false (.t 21) (.c (.raw (.int .i64 (1))))⟩,
      ⟨(some 5), none, .mv (.t 22)⟩]))))))
  (.seq (.ops [
    ⟨(some 4), none, .mv (.c (.raw (.bool true)))⟩])
  .ret))))
def f49 : DFn := ⟨d49, [.tmp 4], 29⟩
theorem h49 : decFn Try.prog 49 = some f49 := by kernel_rfl

def d50 : DCode :=
  (.seq (.ops [
    ⟨(some 4), none, .mv (.c (.raw (.bool false)))⟩])
  (.seq (.ops [
    ⟨(some 5), none, .mv (.t 0)⟩,
    ⟨(some 6), none, .mv (.t 1)⟩,
    ⟨(some 7), none, .call 66 [(.t 5), (.t 6)]⟩,
    ⟨(some 8), none, .bin .geq false (.t 7) (.c (.raw (.int .i64 (0))))⟩,
    ⟨(some 4), none, .mv (.t 8)⟩])
  .ret))
def f50 : DFn := ⟨d50, [.tmp 4], 9⟩
theorem h50 : decFn Try.prog 50 = some f50 := by kernel_rfl

def d51 : DCode :=
  (.seq (.ops [
    ⟨(some 2), none, .mv (.c (.raw (.bool false)))⟩])
  (.seq (.ops [
    ⟨(some 3), none, .mv (.t 0)⟩,
    ⟨(some 4), none, .call 42 [(.t 3)]⟩,
    ⟨(some 5), none, .un .not (.t 4)⟩,
    ⟨(some 2), none, .mv (.t 5)⟩])
  .ret))
def f51 : DFn := ⟨d51, [.tmp 2], 6⟩
theorem h51 : decFn Try.prog 51 = some f51 := by kernel_rfl

def d52 : DCode :=
  (.seq (.ops [
    ⟨(some 2), none, .box (.t 0)⟩,
    ⟨(some 3), none, .box (.t 1)⟩,
    ⟨(some 4), none, .mv (.c (.raw (.bool false)))⟩])
  (.seq (.seq (.ops [
    ⟨(some 5), none, .fad (.t 2) 0 0⟩,
    ⟨(some 6), none, .load false 1 (.t 5)⟩,
    ⟨(some 7), none, .fad (.t 3) 0 0⟩,
    ⟨(some 8), none, .load false 1 (.t 7)⟩,
    ⟨(some 9), none, .bin .neq false (.t 6) (.t 8)⟩])
  (.cond (.t 9)
   (.seq (.ops [
     ⟨(some 4), none, .mv (.c (.raw (.bool false)))⟩])
   .ret)
   .skip))
  (.seq (.seq (.ops [
    ⟨(some 10), none, .fad (.t 2) 1 1⟩,
    ⟨(some 11), none, .load false 1 (.t 10)⟩,
    ⟨(some 12), none, .fad (.t 3) 1 1⟩,
    ⟨(some 13), none, .load false 1 (.t 12)⟩,
    ⟨(some 14), none, .bin .neq false (.t 11) (.t 13)⟩])
  (.cond (.t 14)
   (.seq (.ops [
     ⟨(some 4), none, .mv (.c (.raw (.bool false)))⟩])
   .ret)
   .skip))
  (.seq (.ops [
    ⟨(some 4), none, .mv (.c (.raw (.bool true)))⟩])
  .ret))))
def f52 : DFn := ⟨d52, [.tmp 4], 15⟩
theorem h52 : decFn Try.prog 52 = some f52 := by kernel_rfl

def d53 : DCode :=
  (.seq (.ops [
    ⟨(some 2), none, .mv (.c (.raw (.int .i64 (0))))⟩])
  (.seq (.ops [
    ⟨(some 3), none, .mv (.t 0)⟩,
    ⟨(some 4), none, .bin .rem false (.t 3) (.c (.raw (.int .i64 (64))))⟩,
    ⟨(some 5), none, .bin .add false (.t 4) (.c (.raw (.int .i64 (64))))⟩,
    ⟨(some 6), none, .bin .rem false (.t 5) (.c (.raw (.int .i64 (64))))⟩,
    ⟨(some 2), none, .mv (.t 6)⟩])
  .ret))
def f53 : DFn := ⟨d53, [.tmp 2], 7⟩
theorem h53 : decFn Try.prog 53 = some f53 := by kernel_rfl

def d54 : DCode :=
  (.seq (.ops [
    ⟨(some 4), none, .mv (.c (.raw (.int .i64 (0))))⟩])
  (.seq (.ops [
    ⟨(some 5), none, .mv (.t 0)⟩,
    ⟨(some 6), none, .mv (.t 1)⟩,
    ⟨(some 7), none, .bin .rem false (.t 5) (.t 6)⟩,
    ⟨(some 8), none, .mv (.t 1)⟩,
    ⟨(some 9), none, .bin .add false (.t 7) (.t 8)⟩,
    ⟨(some 10), none, .mv (.t 1)⟩,
    ⟨(some 11), none, .bin .rem false (.t 9) (.t 10)⟩,
    ⟨(some 4), none, .mv (.t 11)⟩])
  .ret))
def f54 : DFn := ⟨d54, [.tmp 4], 12⟩
theorem h54 : decFn Try.prog 54 = some f54 := by kernel_rfl

def d55 : DCode :=
  (.seq (.ops [
    ⟨(some 4), none, .mv (.c (.raw (.int .i64 (0))))⟩])
  (.seq (.seq (.ops [
    ⟨(some 6), none, .mv (.t 0)⟩,
    ⟨(some 7), none, .mv (.t 1)⟩,
    ⟨(some 8), none, .call 49 [(.t 6), (.t 7)]⟩,
    ⟨(some 9), none, .un .not (.t 8)⟩])
  (.cond (.t 9)
   (.seq (.ops [
     ⟨(some 4), none, .mv (.c (.raw (.int .i64 (1))))⟩])
   .ret)
   .skip))
  (.seq (.seq (.ops [
    ⟨(some 5), none, .mv (.c (.raw (.int .i64 (0))))⟩])
  (.block 0
   (.loop
    (.seq (.seq (.ops [
      ⟨(some 10), none, .mv (.t 5)⟩,
      ⟨(some 11), none, .mv (.t 1)⟩,
      ⟨(some 12), none, .len (.t 11)⟩,
      ⟨(some 13), none, .bin .lss false (.t 10) (.t 12)⟩])
    (.cond (.t 13)
     .skip
     (.exit 0)))
    (.seq (.block 1
     (.seq (.ops [
       ⟨(some 16), none, .mv (.t 1)⟩,
       ⟨(some 17), none, .mv (.t 5)⟩,
       ⟨(some 18), none, .ias 1 (.t 16) (.t 17)⟩,
       ⟨(some 19), none, .load false 1 (.t 18)⟩,
       ⟨(some 20), none, .call 40 [(.t 19), (.c (.raw (.int .i64 (0)))), (.c (.raw (.int .i64 (63))))]⟩,
       ⟨(some 21), none, .un .not (.t 20)⟩])
     (.cond (.t 21)
      (.seq (.ops [
        ⟨(some 4), none, .mv (.c (.raw (.int .i64 (5))))⟩])
      .ret)
      .skip)))
    (.ops [
      ⟨(some 14), none, .mv (.t 5)⟩,
      ⟨(some 15), none, .bin .add false (.t 14) (.c (.raw (.int .i64 (1))))⟩,
      ⟨(some 5), none, .mv (.t 15)⟩]))))))
  (.seq (.ops [
    ⟨(some 4), none, .mv (.c (.raw (.int .i64 (0))))⟩])
  .ret))))
def f55 : DFn := ⟨d55, [.tmp 4], 22⟩
theorem h55 : decFn Try.prog 55 = some f55 := by kernel_rfl

def d56 : DCode :=
  (.seq (.ops [
    ⟨(some 4), none, .mv (.c (.raw (.int .i64 (0))))⟩])
  (.seq (.block 0
   (.seq (.ops [
     ⟨(some 6), none, .mv (.t 0)⟩,
     ⟨(some 7), none, .mv (.t 1)⟩,
     ⟨(some 8), none, .call 19 [(.t 6), (.t 7)]⟩,
     ⟨(some 9), none, .un .not (.t 8)⟩,
     ⟨(some 5), none, .mv (.t 9)⟩])
   (.cond (.t 5)
    (.seq (.ops [
      ⟨(some 4), none, .mv (.c (.raw (.int .i64 (1))))⟩])
    .ret)
    (.seq (.ops [
      ⟨(some 11), none, .mv (.t 1)⟩,
      ⟨(some 12), none, .call 50 [(.t 11), (.c (.fn 67 []))]⟩,
      ⟨(some 10), none, .mv (.t 12)⟩])
    (.cond (.t 10)
     (.seq (.ops [
       ⟨(some 4), none, .mv (.c (.raw (.int .i64 (5))))⟩])
     .ret)
     .skip)))))
  (.seq (.ops [
    ⟨(some 4), none, .mv (.c (.raw (.int .i64 (0))))⟩])
  .ret)))
def f56 : DFn := ⟨d56, [.tmp 4], 13⟩
theorem h56 : decFn Try.prog 56 = some f56 := by kernel_rfl

def d57 : DCode :=
  (.seq (.ops [
    ⟨(some 3), none, .box (.t 1)⟩,
    ⟨(some 4), none, .mv (.c (.raw (.bool false)))⟩])
  (.seq (.ops [
    ⟨(some 5), none, .fad (.t 3) 0 0⟩,
    ⟨(some 6), none, .load false 1 (.t 5)⟩,
    ⟨(some 7), none, .mv (.t 0)⟩,
    ⟨(some 8), none, .bin .sub false (.t 7) (.c (.raw (.int .i64 (1))))⟩,
    ⟨(some 9), none, .call 40 [(.t 6), (.c (.raw (.int .i64 (0)))), (.t 8)]⟩,
    ⟨(some 10), none, .mv (.t 9)⟩,
    ⟨(some 11), (some (10, true)), .fad (.t 3) 1 1⟩,
    ⟨(some 12), (some (10, true)), .load false 1 (.t 11)⟩,
    ⟨(some 13), (some (10, true)), .mv (.t 0)⟩,
    ⟨(some 14), (some (10, true)), .bin .sub false (.t 13) (.c (.raw (.int .i64 (1))))⟩,
    ⟨(some 15), (some (10, true)), .call 40 [(.t 12), (.c (.raw (.int .i64 (0)))), (.t 14)]⟩,
    ⟨(some 16), none, .pick (.t 10) (.t 15) (.c (.raw (.bool false)))⟩,
    ⟨(some 4), none, .mv (.t 16)⟩])
  .ret))
def f57 : DFn := ⟨d57, [.tmp 4], 17⟩
theorem h57 : decFn Try.prog 57 = some f57 := by kernel_rfl

def d58 : DCode :=
  (.seq (.ops [
    ⟨(some 1), none, .box (.t 0)⟩,
    ⟨(some 2), none, .alloc (.st [(.raw (.int .i64 (0))), (.raw (.int .i64 (0)))])⟩])
  (.seq (.ops [
    ⟨(some 3), none, .alloc (.st [(.raw (.int .i64 (0))), (.raw (.int .i64 (0)))])⟩])
  (.seq (.ops [
    ⟨(some 4), none, .fad (.t 1) 0 0⟩,
    ⟨(some 5), none, .load false 1 (.t 4)⟩,
    ⟨(some 6), none, .fad (.t 3) 0 0⟩,
    ⟨none, none, .store 1 (.t 6) (.t 5)⟩])
  (.seq (.ops [
    ⟨(some 7), none, .fad (.t 1) 1 1⟩,
    ⟨(some 8), none, .load false 1 (.t 7)⟩,
    ⟨(some 9), none, .fad (.t 3) 1 1⟩,
    ⟨none, none, .store 1 (.t 9) (.t 8)⟩])
  (.seq (.ops [
    ⟨(some 10), none, .load true 2 (.t 3)⟩,
    ⟨none, none, .store 2 (.t 2) (.t 10)⟩])
  .ret)))))
def f58 : DFn := ⟨d58, [.cell 2 true 2], 11⟩
theorem h58 : decFn Try.prog 58 = some f58 := by kernel_rfl

def d59 : DCode :=
  (.seq (.ops [
    ⟨(some 4), none, .mv (.c (.raw (.bool false)))⟩])
  (.seq (.ops [
    ⟨(some 5), none, .mv (.t 0)⟩,
    ⟨(some 6), none, .call 46 [(.t 5)]⟩,
    ⟨(some 7), none, .mv (.t 6)⟩,
    ⟨(some 8), (some (7, true)), .mv (.t 1)⟩,
    ⟨(some 9), (some (7, true)), .call 46 [(.t 8)]⟩,
    ⟨(some 10), none, .pick (.t 7) (.t 9) (.c (.raw (.bool false)))⟩,
    ⟨(some 11), none, .mv (.t 10)⟩,
    ⟨(some 12), (some (11, true)), .mv (.t 1)⟩,
    ⟨(some 13), (some (11, true)), .mv (.t 0)⟩,
    ⟨(some 14), (some (11, true)), .bin .leq false (.t 12) (.t 13)⟩,
    ⟨(some 15), none, .pick (.t 11) (.t 14) (.c (.raw (.bool false)))⟩,
    ⟨(some 4), none, .mv (.t 15)⟩])
  .ret))
def f59 : DFn := ⟨d59, [.tmp 4], 16⟩
theorem h59 : decFn Try.prog 59 = some f59 := by kernel_rfl

def d60 : DCode :=
  (.seq (.ops [
    ⟨(some 2), none, .box (.t 0)⟩,
    ⟨(some 4), none, .mv (.c (.raw (.bool false)))⟩])
  (.seq (.ops [
    ⟨(some 5), none, .mv (.t 1)⟩,
    ⟨(some 6), none, .len (.t 5)⟩,
    ⟨(some 7), none, .bin .leq false (.t 6) (.c (.raw (.int .i64 (20))))⟩,
    ⟨(some 8), none, .mv (.t 7)⟩,
    ⟨(some 9), (some (8, true)), .mv (.t 1)⟩,
    ⟨(some 10), (some (8, true)), .mkf 70 [(.t 2)]⟩,
    ⟨(some 11), (some (8, true)), .call 69 [(.t 9), (.t 10)]⟩,
    ⟨(some 12), (some (8, true)), .un .not (.t 11)⟩,
    ⟨(some 13), none, .pick (.t 8) (.t 12) (.c (.raw (.bool false)))⟩,
    ⟨(some 4), none, .mv (.t 13)⟩])
  .ret))
def f60 : DFn := ⟨d60, [.tmp 4], 14⟩
theorem h60 : decFn Try.prog 60 = some f60 := by kernel_rfl

def d61 : DCode :=
  (.seq (.ops [
    ⟨(some 5), none, .box (.t 1)⟩,
    ⟨(some 8), none, .mv (.c (.raw (.int .i64 (0))))⟩])
  (.seq (.drw [
    ⟨(some 9), none, .mv (.t 0)⟩,
    ⟨(some 10), none, .fad (.t 5) 0 0⟩,
    ⟨(some 11), none, .load false 1 (.t 10)⟩,
    ⟨(some 12), none, .mv (.t 2)⟩,
    ⟨(some 13), none, .bin .add false (.t 11) (.t 12)⟩,
    ⟨(some 14), none, .mv (.t 0)⟩,
    ⟨(some 15), none, .call 54 [(.t 13), (.t 14)]⟩,
    ⟨(some 16), none, .bin .mul false (.t 9) (.t 15)⟩,
    ⟨(some 17), none, .fad (.t 5) 1 1⟩,
    ⟨(some 18), none, .load false 1 (.t 17)⟩,
    ⟨(some 19), none, .mv (.t 3)⟩,
    ⟨(some 20), none, .bin .add false (.t 18) (.t 19)⟩,
    ⟨(some 21), none, .mv (.t 0)⟩,
    ⟨(some 22), none, .call 54 [(.t 20), (.t 21)]⟩,
    ⟨(some 23), none, .bin .add false (.t 16) (.t 22)⟩,
    ⟨(some 8), none, .mv (.t 23)⟩] [
    ])
  .ret))
def f61 : DFn := ⟨d61, [.tmp 8], 24⟩
theorem h61 : decFn Try.prog 61 = some f61 := by kernel_rfl

def d62 : DCode :=
  (.seq (.ops [
    ⟨(some 2), none, .mv (.c (nilS 1))⟩])
  (.seq (.seq (.ops [
    ⟨(some 3), none, .mv (.t 0)⟩,
    ⟨(some 4), none, .snl (.t 3)⟩])
  (.cond (.t 4)
   (.seq (.ops [
     ⟨(some 2), none, .mv (.c (nilS 1))⟩])
   .ret)
   .skip))
  (.seq (.ops [
    ⟨(some 5), none, .bsl .i 0 []⟩,
    ⟨(some 6), none, .mv (.t 0)⟩,
    ⟨(some 7), none, .app .i (.t 5) (.t 6)⟩,
    ⟨(some 2), none, .mv (.t 7)⟩])
  .ret)))
def f62 : DFn := ⟨d62, [.tmp 2], 8⟩
theorem h62 : decFn Try.prog 62 = some f62 := by kernel_rfl

def d63 : DCode :=
  (.seq (.ops [
    ⟨(some 2), none, .mv (.c (nilS 1))⟩,
    ⟨(some 3), none, .mv (.c (.raw (.int .i64 (0))))⟩])
  (.seq (.seq (.ops [
    ⟨(some 4), none, .mv (.t 0)⟩,
    ⟨(some 5), none, .call 50 [(.t 4), (.c (.fn 71 []))]⟩])
  (.cond (.t 5)
   (.seq (.ops [
     ⟨(some 2), none, .mv (.c (nilS 1))⟩,
     ⟨(some 3), none, .mv (.c (.raw (.int .i64 (3))))⟩])
   .ret)
   .skip))
  (.seq (.ops [
    ⟨(some 6), none, .mv (.t 0)⟩,
    ⟨(some 2), none, .mv (.t 6)⟩,
    ⟨(some 3), none, .mv (.c (.raw (.int .i64 (0))))⟩])
  .ret)))
def f63 : DFn := ⟨d63, [.tmp 2, .tmp 3], 7⟩
theorem h63 : decFn Try.prog 63 = some f63 := by kernel_rfl

def d64 : DCode :=
  (.seq (.ops [
    ⟨(some 2), none, .mv (.c (.raw (.int .i64 (0))))⟩])
  (.seq (.ops [
    ⟨(some 3), none, .mv (.c (.raw (.int .i64 (0))))⟩,
    ⟨(some 4), none, .mv (.c (.raw (.int .i64 (0))))⟩])
  (.seq (.seq (.ops [
    ⟨(some 5), none, .mv (.c (.raw (.int .i64 (0))))⟩])
  (.block 0
   (.loop
    (.seq (.seq (.ops [
      ⟨(some 8), none, .mv (.t 5)⟩,
      ⟨(some 9), none, .mv (.t 0)⟩,
      ⟨(some 10), none, .len (.t 9)⟩,
      ⟨(some 11), none, .bin .lss false (.t 8) (.t 10)⟩])
    (.cond (.t 11)
     .skip
     (.exit 0)))
    (.seq (.block 1
     (.seq (.ops [
       ⟨(some 6), none, .mv (.c (.raw (.int .i64 (0))))⟩])
     (.seq (.seq (.ops [
       ⟨(some 7), none, .mv (.c (.raw (.int .i64 (0))))⟩])
     (.block 2
      (.loop
       (.seq (.seq (.ops [
         ⟨(some 14), none, .mv (.t 7)⟩,
         ⟨(some 15), none, .mv (.t 0)⟩,
         ⟨(some 16), none, .len (.t 15)⟩,
         ⟨(some 17), none, .bin .lss false (.t 14) (.t 16)⟩])
       (.cond (.t 17)
        .skip
        (.exit 2)))
       (.seq (.block 3
        (.seq (.drw [
          ⟨(some 20), none, .mv (.t 0)⟩,
          ⟨(some 21), none, .mv (.t 7)⟩,
          ⟨(some 22), none, .ias 1 (.t 20) (.t 21)⟩,
          ⟨(some 23), none, .load false 1 (.t 22)⟩,
          ⟨(some 24), none, .mv (.t 0)⟩,
          ⟨(some 25), none, .mv (.t 5)⟩,
          ⟨(some 26), none, .ias 1 (.t 24) (.t 25)⟩,
          ⟨(some 27), none, .load false 1 (.t 26)⟩,
          ⟨(some 28), none, .bin .eql false (.t 23) (.t 27)⟩] [
          ])
        (.cond (.t 28)
         (.ops [
           ⟨(some 29), none, .mv (.t 6)⟩,
           ⟨(some 30), none, .bin .add false (.t 29) (.c (.raw (.int .i64 (1))))⟩,
           ⟨(some 6), none, .mv (.t 30)⟩])
         .skip)))
       (.ops [
         ⟨(some 18), none, .mv (.t 7)⟩,
         ⟨(some 19), none, .bin .add false (.t 18) (.c (.raw (.int .i64 (1))))⟩,
         ⟨(some 7), none, .mv (.t 19)⟩]))))))
     (.seq (.ops [
       ⟨(some 31), none, .mv (.t 6)⟩,
       ⟨(some 32), none, .mv (.t 4)⟩,
       ⟨(some 33), none, .bin .gtr false (.t 31) (.t 32)⟩,
       ⟨(some 34), none, .mv (.t 33)⟩,
       ⟨(some 35), (some (34, false)), .mv (.t 6)⟩,
       ⟨(some 36), (some (34, false)), .mv (.t 4)⟩,
       ⟨(some 37), (some (34, false)), .bin .eql false (.t 35) (.t 36)⟩,
       ⟨(some 38), (some (34, false)), .mv (.t 37)⟩,
       ⟨(some 39), (some (38, true)), .mv (.t 0)⟩,
       ⟨(some 40), (some (38, true)), .mv (.t 5)⟩,
       ⟨(some 41), (some (38, true)), .ias 1 (.t 39) (.t 40)⟩,
       ⟨(some 42), (some (38, true)), .load false 1 (.t 41)⟩,
       ⟨(some 43), (some (38, true)), .mv (.t 3)⟩,
       ⟨(some 44), (some (38, true)), .bin .lss false (.t 42) (.t 43)⟩,
       ⟨(some 45), (some (34, false)), .pick (.t 38) (.t 44) (.c (.raw (.bool false)))⟩,
       ⟨(some 46), none, .pick (.t 34) (.c (.raw (.bool true))) (.t 45)⟩])
     (.cond (.t 46)
      (.seq (.ops [
        ⟨(some 47), none, .mv (.t 0)⟩,
        ⟨(some 48), none, .mv (.t 5)⟩,
        ⟨(some 49), none, .ias 1 (.t 47) (.t 48)⟩,
        ⟨(some 50), none, .load false 1 (.t 49)⟩,
        ⟨(some 3), none, .mv (.t 50)⟩])
      (.ops [
        ⟨(some 51), none, .mv (.t 6)⟩,
        ⟨(some 4), none, .mv (.t 51)⟩]))
      .skip)))))
    (.ops [
      ⟨(some 12), none, .mv (.t 5)⟩,
      ⟨(some 13), none, .bin .add false (.t 12) (.c (.raw (.int .i64 (1))))⟩,
      ⟨(some 5), none, .mv (.t 13)⟩]))))))
  (.seq (.ops [
    ⟨(some 52), none, .mv (.t 3)⟩,
    ⟨(some 2), none, .mv (.t 52)⟩])
  .ret))))
def f64 : DFn := ⟨d64, [.tmp 2], 53⟩
theorem h64 : decFn Try.prog 64 = some f64 := by kernel_rfl

def d65 : DCode :=
  (.seq (.ops [
    ⟨(some 2), none, .mv (.c (.raw (.int .i64 (0))))⟩])
  (.seq (.ops [
    ⟨(some 8), none, .mv (.t 0)⟩,
    ⟨(some 9), none, .call 72 [(.t 8)]⟩])
  (.seq (.ops [
    ⟨(some 3), none, .mv (.c (.raw (.int .i64 (0))))⟩,
    ⟨(some 4), none, .mv (.c (.raw (.int .i64 (0))))⟩,
    ⟨(some 5), none, .mv (.c (.raw (.int .i64 (0))))⟩])
  (.seq (.seq (.ops [
    ⟨(some 10), none, .mv (.t 0)⟩,
    ⟨(some 11), none, .len (.t 10)⟩,
    ⟨(some 12), none, .mv (.c (.raw (.int .i64 (0))))⟩])
  (.block 0
   (.loop
    (.seq (.ops [
      ⟨(some 13), none, .bin .lss false (.t 12) (.t 11)⟩])
    (.seq (.cond (.t 13)
     .skip
     (.exit 0))
    (.seq (.block 1
     (.seq (.ops [
       ⟨(some 14), none, .mv (.t 12)⟩,
       ⟨(some 15), none, .ias 1 (.t 10) (.t 12)⟩,
       ⟨(some 16), none, .load false 1 (.t 15)⟩,
       ⟨(some 6), none, .mv (.t 14)⟩,
       ⟨(some 7), none, .mv (.t 16)⟩])
     (.seq (.seq (.ops [
       ⟨(some 17), none, .mv (.t 6)⟩,
       ⟨(some 18), none, .bin .eql false (.t 17) (.c (.raw (.int .i64 (0))))⟩,
       ⟨(some 19), none, .mv (.t 18)⟩,
       ⟨(some 20), (some (19, false)), .mv (.t 7)⟩,
       ⟨(some 21), (some (19, false)), .mv (.t 0)⟩,
       ⟨(some 22), (some (19, false)), .mv (.t 6)⟩,
       ⟨(some 23), (some (19, false)), .bin .sub false (.t 22) (.c (.raw (.int .i64 (1))))⟩,
       ⟨(some 24), (some (19, false)), .ias 1 (.t 21) (.t 23)⟩,
       ⟨(some 25), (some (19, false)), .load false 1 (.t 24)⟩,
       ⟨(some 26), (some (19, false)), .bin .neq false (.t 20) (.t 25)⟩,
       ⟨(some 27), none, .pick (.t 19) (.c (.raw (.bool true))) (.t 26)⟩])
     (.cond (.t 27)
      (.ops [
        ⟨(some 5), none, .mv (.c (.raw (.int .i64 (0))))⟩])
      .skip))
     (.seq (.ops [
       ⟨(some 28), none, .mv (.t 5)⟩,
       ⟨(some 29), none, .bin .add false (.t 28) (.c (.raw (.int .i64 (1))))⟩,
       ⟨(some 5), none, .mv (.t 29)⟩])
     (.seq (.ops [
       ⟨(some 30), none, .mv (.t 5)⟩,
       ⟨(some 31), none, .mv (.t 4)⟩,
       ⟨(some 32), none, .bin .gtr false (.t 30) (.t 31)⟩])
     (.cond (.t 32)
      (.ops [
        ⟨(some 33), none, .mv (.t 7)⟩,
        ⟨(some 34), none, .mv (.t 5)⟩,
        ⟨(some 3), none, .mv (.t 33)⟩,
        ⟨(some 4), none, .mv (.t 34)⟩])
      .skip))))))
    (.ops [
      ⟨(some 35), none, .bin .add false (.t 12) (.c (.raw (.int .i64 (1))))⟩,
      ⟨(some 12), none, .mv (.t 35)⟩])))))))
  (.seq (.ops [
    ⟨(some 36), none, .mv (.t 3)⟩,
    ⟨(some 2), none, .mv (.t 36)⟩])
  .ret)))))
def f65 : DFn := ⟨d65, [.tmp 2], 37⟩
theorem h65 : decFn Try.prog 65 = some f65 := by kernel_rfl

def d66 : DCode :=
  (.seq (.ops [
    ⟨(some 4), none, .mv (.c (.raw (.int .i64 (0))))⟩])
  (.seq (.seq (.ops [
    ⟨(some 6), none, .mv (.t 0)⟩,
    ⟨(some 7), none, .len (.t 6)⟩,
    ⟨(some 8), none, .mv (.c (.raw (.int .i64 (0))))⟩])
  (.block 0
   (.loop
    (.seq (.ops [
      ⟨(some 9), none, .bin .lss false (.t 8) (.t 7)⟩])
    (.seq (.cond (.t 9)
     .skip
     (.exit 0))
    (.seq (.block 1
     (.seq (.ops [
       ⟨(some 10), none, .mv (.t 8)⟩,
       ⟨(some 5), none, .mv (.t 10)⟩])
     (.seq (.ops [
       ⟨(some 11), none, .mv (.t 1)⟩,
       ⟨(some 12), none, .mv (.t 0)⟩,
       ⟨(some 13), none, .mv (.t 5)⟩,
       ⟨(some 14), none, .ias 1 (.t 12) (.t 13)⟩,
       ⟨(some 15), none, .load false 1 (.t 14)⟩,
       ⟨(some 16), none, .callv (.t 11) [(.t 15)]⟩])
     (.cond (.t 16)
      (.seq (.ops [
        ⟨(some 17), none, .mv (.t 5)⟩,
        ⟨(some 4), none, .mv (.t 17)⟩])
      .ret)
      .skip))))
    (.ops [
      ⟨(some 18), none, .bin .add false (.t 8) (.c (.raw (.int .i64 (1))))⟩,
      ⟨(some 8), none, .mv (.t 18)⟩])))))))
  (.seq (.ops [
    ⟨(some 4), none, .mv (.c (.raw (.int .i64 (-1))))⟩])
  .ret)))
def f66 : DFn := ⟨d66, [.tmp 4], 19⟩
theorem h66 : decFn Try.prog 66 = some f66 := by kernel_rfl

def d67 : DCode :=
  (.seq (.ops [
    ⟨(some 2), none, .mv (.c (.raw (.bool false)))⟩])
  (.seq (.ops [
    ⟨(some 3), none, .mv (.t 0)⟩,
    ⟨(some 4), none, .call 68 [(.t 3)]⟩,
    ⟨(some 5), none, .un .not (.t 4)⟩,
    ⟨(some 2), none, .mv (.t 5)⟩])
  .ret))
def f67 : DFn := ⟨d67, [.tmp 2], 6⟩
theorem h67 : decFn Try.prog 67 = some f67 := by kernel_rfl

def d68 : DCode :=
  (.seq (.ops [
    ⟨(some 2), none, .mv (.c (.raw (.bool false)))⟩])
  (.seq (.ops [
    ⟨(some 3), none, .mv (.t 0)⟩,
    ⟨(some 4), none, .call 47 [(.t 3), (.c (.raw (.int .i64 (0)))), (.c (.raw (.int .i64 (63))))]⟩,
    ⟨(some 2), none, .mv (.t 4)⟩])
  .ret))
def f68 : DFn := ⟨d68, [.tmp 2], 5⟩
theorem h68 : decFn Try.prog 68 = some f68 := by kernel_rfl

def d69 : DCode :=
  (.seq (.ops [
    ⟨(some 4), none, .mv (.c (.raw (.bool false)))⟩])
  (.seq (.ops [
    ⟨(some 5), none, .mv (.t 0)⟩,
    ⟨(some 6), none, .mv (.t 1)⟩,
    ⟨(some 7), none, .call 73 [(.t 5), (.t 6)]⟩,
    ⟨(some 8), none, .bin .geq false (.t 7) (.c (.raw (.int .i64 (0))))⟩,
    ⟨(some 4), none, .mv (.t 8)⟩])
  .ret))
def f69 : DFn := ⟨d69, [.tmp 4], 9⟩
theorem h69 : decFn Try.prog 69 = some f69 := by kernel_rfl

def d70 : DCode :=
  (.seq (.ops [
    ⟨(some 2), none, .box (.t 0)⟩,
    ⟨(some 3), none, .mv (.c (.raw (.bool false)))⟩])
  (.seq (.ops [
    ⟨(some 4), none, .fad (.t 2) 0 0⟩,
    ⟨(some 5), none, .load false 1 (.t 4)⟩,
    ⟨(some 6), none, .load false 1 (.t 1)⟩,
    ⟨(some 7), none, .bin .sub false (.t 6) (.c (.raw (.int .i64 (1))))⟩,
    ⟨(some 8), none, .call 47 [(.t 5), (.c (.raw (.int .i64 (0)))), (.t 7)]⟩,
    ⟨(some 9), none, .un .not (.t 8)⟩,
    ⟨(some 10), none, .mv (.t 9)⟩,
    ⟨(some 11), (some (10, false)), .fad (.t 2) 1 1⟩,
    ⟨(some 12), (some (10, false)), .load false 1 (.t 11)⟩,
    ⟨(some 13), (some (10, false)), .load false 1 (.t 1)⟩,
    ⟨(some 14), (some (10, false)), .bin .sub false (.t 13) (.c (.raw (.int .i64 (1))))⟩,
    ⟨(some 15), (some (10, false)), .call 47 [(.t 12), (.c (.raw (.int .i64 (0)))), (.t 14)]⟩,
    ⟨(some 16), (some (10, false)), .un .not (.t 15)⟩,
    ⟨(some 17), none, .pick (.t 10) (.c (.raw (.bool true))) (.t 16)⟩,
    ⟨(some 3), none, .mv (.t 17)⟩])
  .ret))
def f70 : DFn := ⟨d70, [.tmp 3], 18⟩
theorem h70 : decFn Try.prog 70 = some f70 := by kernel_rfl

def d71 : DCode :=
  (.seq (.ops [
    ⟨(some 2), none, .mv (.c (.raw (.bool false)))⟩])
  (.seq (.ops [
    ⟨(some 3), none, .mv (.t 0)⟩,
    ⟨(some 4), none, .call 42 [(.t 3)]⟩,
    ⟨(some 5), none, .un .not (.t 4)⟩,
    ⟨(some 2), none, .mv (.t 5)⟩])
  .ret))
def f71 : DFn := ⟨d71, [.tmp 2], 6⟩
theorem h71 : decFn Try.prog 71 = some f71 := by kernel_rfl

def d72 : DCode :=
  (.seq (.ops [
    ⟨(some 3), none, .mv (.t 0)⟩,
    ⟨(some 4), none, .len (.t 3)⟩,
    ⟨(some 2), none, .mv (.t 4)⟩])
  (.ops [
    ⟨(some 5), none, .mv (.t 0)⟩,
    ⟨(some 6), none, .mv (.t 2)⟩,
    ⟨(some 7), none, .mv (.t 2)⟩,
    ⟨(some 8), none, .cvI .u64 (.t 7)⟩,
    ⟨(some 9), none, .call 75 [(.t 8)]⟩,
    ⟨(some 10), none, .call 74 [(.t 5), (.c (.raw (.int .i64 (0)))), (.t 6), (.t 9)]⟩]))
def f72 : DFn := ⟨d72, [], 11⟩
theorem h72 : decFn Try.prog 72 = some f72 := by kernel_rfl

def d73 : DCode :=
  (.seq (.ops [
    ⟨(some 4), none, .mv (.c (.raw (.int .i64 (0))))⟩])
  (.seq (.seq (.ops [
    ⟨(some 6), none, .mv (.t 0)⟩,
    ⟨(some 7), none, .len (.t 6)⟩,
    ⟨(some 8), none, .mv (.c (.raw (.int .i64 (0))))⟩])
  (.block 0
   (.loop
    (.seq (.ops [
      ⟨(some 9), none, .bin .lss false (.t 8) (.t 7)⟩])
    (.seq (.cond (.t 9)
     .skip
     (.exit 0))
    (.seq (.block 1
     (.seq (.ops [
       ⟨(some 10), none, .mv (.t 8)⟩,
       ⟨(some 5), none, .mv (.t 10)⟩])
     (.seq (.ops [
       ⟨(some 11), none, .mv (.t 1)⟩,
       ⟨(some 12), none, .mv (.t 0)⟩,
       ⟨(some 13), none, .mv (.t 5)⟩,
       ⟨(some 14), none, .ias 2 (.t 12) (.t 13)⟩,
       ⟨(some 15), none, .load true 2 (.t 14)⟩,
       ⟨(some 16), none, .callv (.t 11) [(.t 15)]⟩])
     (.cond (.t 16)
      (.seq (.ops [
        ⟨(some 17), none, .mv (.t 5)⟩,
        ⟨(some 4), none, .mv (.t 17)⟩])
      .ret)
      .skip))))
    (.ops [
      ⟨(some 18), none, .bin .add false (.t 8) (.c (.raw (.int .i64 (1))))⟩,
      ⟨(some 8), none, .mv (.t 18)⟩])))))))
  (.seq (.ops [
    ⟨(some 4), none, .mv (.c (.raw (.int .i64 (-1))))⟩])
  .ret)))
def f73 : DFn := ⟨d73, [.tmp 4], 19⟩
theorem h73 : decFn Try.prog 73 = some f73 := by kernel_rfl

def d74 : DCode :=
  (.seq (.ops [
    ⟨(some 8), none, .mv (.c (.raw (.bool true)))⟩])
  (.seq (.ops [
    ⟨(some 9), none, .mv (.c (.raw (.bool true)))⟩])
  (.block 0
   (.loop
    (.block 1
     (.seq (.ops [
       ⟨(some 19), none, .mv (.t 2)⟩,
       ⟨(some 20), none, .mv (.t 1)⟩,
       ⟨(some 21), none, .bin .sub false (.t 19) (.t 20)⟩,
       ⟨(some 10), none, .mv (.t 21)⟩])
     (.seq (.seq (.ops [
       ⟨(some 22), none, .mv (.t 10)⟩,
       ⟨(some 23), none, .bin .leq false (.t 22) (.c (.raw (.int .i64 (12))))⟩])
     (.cond (.t 23)
      (.seq (.ops [
        ⟨(some 24), none, .mv (.t 0)⟩,
        ⟨(some 25), none, .mv (.t 1)⟩,
        ⟨(some 26), none, .mv (.t 2)⟩,
        ⟨(some 27), none, .call 76 [(.t 24), (.t 25), (.t 26)]⟩])
      .ret)
      .skip))
     (.seq (.seq (.ops [
       ⟨(some 28), none, .mv (.t 3)⟩,
       ⟨(some 29), none, .bin .eql false (.t 28) (.c (.raw (.int .i64 (0))))⟩])
     (.cond (.t 29)
      (.seq (.ops [
        ⟨(some 30), none, .mv (.t 0)⟩,
        ⟨(some 31), none, .mv (.t 1)⟩,
        ⟨(some 32), none, .mv (.t 2)⟩,
        ⟨(some 33), none, .call 77 [(.t 30), (.t 31), (.t 32)]⟩])
      .ret)
      .skip))
     (.seq (.seq (.ops [
       ⟨(some 34), none, .mv (.t 8)⟩,
       ⟨(some 35), none, .un .not (.t 34)⟩])
     (.cond (.t 35)
      (.seq (.ops [
        ⟨(some 36), none, .mv (.t 0)⟩,
        ⟨(some 37), none, .mv (.t 1)⟩,
        ⟨(some 38), none, .mv (.t 2)⟩,
        ⟨(some 39), none, .call 78 [(.t 36), (.t 37), (.t 38)]⟩])
      (.ops [
        ⟨(some 40), none, .mv (.t 3)⟩,
        ⟨(some 41), none, .bin .sub false (.t 40) (.c (.raw (.int .i64 (1))))⟩,
        ⟨(some 3), none, .mv (.t 41)⟩]))
      .skip))
     (.seq (.ops [
       ⟨(some 43), none, .mv (.t 0)⟩,
       ⟨(some 44), none, .mv (.t 1)⟩,
       ⟨(some 45), none, .mv (.t 2)⟩,
       ⟨(some 46), none, .call 79 [(.t 43), (.t 44), (.t 45)]⟩,
       ⟨(some 42), none, .mv (.t 46)⟩,
       ⟨(some 47), none, .ext (.t 42) 0⟩,
       ⟨(some 48), none, .ext (.t 42) 1⟩,
       ⟨(some 11), none, .mv (.t 47)⟩,
       ⟨(some 12), none, .mv (.t 48)⟩])
     (.seq (.seq (.ops [
       ⟨(some 49), none, .mv (.t 12)⟩,
       ⟨(some 50), none, .bin .eql false (.t 49) (.c (.raw (.int .i64 (2))))⟩])
     (.cond (.t 50)
      (.seq (.ops [
        ⟨(some 51), none, .mv (.t 0)⟩,
        ⟨(some 52), none, .mv (.t 1)⟩,
        ⟨(some 53), none, .mv (.t 2)⟩,
        ⟨(some 54), none, .call 80 [(.t 51), (.t 52), (.t 53)]⟩])
      (.seq (.ops [
        ⟨(some 55), none, .mv (.t 2)⟩,
        ⟨(some 56), none, .bin .sub false (.t 55) (.c (.raw (.int .i64 (1))))⟩,
        ⟨(some 57), none, .mv (.t 11)⟩,
        ⟨(some 58), none, .mv (.t 1)⟩,
        ⟨(some 59), none, .bin .sub false (.t 57) (.t 58)⟩,
        ⟨(some 60), none, .bin .sub false (.t 56) (.t 59)⟩,
        ⟨(some 11), none, .mv (.t 60)⟩])
      (.ops [
        ⟨(some 12), none, .mv (.c (.raw (.int .i64 (1))))⟩])))
      .skip))
     (.seq (.seq (.ops [
       ⟨(some 61), none, .mv (.t 8)⟩,
       ⟨(some 62), none, .mv (.t 61)⟩,
       ⟨(some 63), (some (62, true)), .mv (.t 9)⟩,
       ⟨(some 64), none, .pick (.t 62) (.t 63) (.c (.raw (.bool false)))⟩,
       ⟨(some 65), none, .mv (.t 64)⟩,
       ⟨(some 66), (some (65, true)), .mv (.t 12)⟩,
       ⟨(some 67), (some (65, true)), .bin .eql false (.t 66) (.c (.raw (.int .i64 (1))))⟩,
       ⟨(some 68), none, .pick (.t 65) (.t 67) (.c (.raw (.bool false)))⟩])
     (.cond (.t 68)
      (.seq (.ops [
        ⟨(some 69), none, .mv (.t 0)⟩,
        ⟨(some 70), none, .mv (.t 1)⟩,
        ⟨(some 71), none, .mv (.t 2)⟩,
        ⟨(some 72), none, .call 81 [(.t 69), (.t 70), (.t 71)]⟩])
      (.cond (.t 72)
       .ret
       .skip))
      .skip))
     (.seq (.seq (.drw [
       ⟨(some 73), none, .mv (.t 1)⟩,
       ⟨(some 74), none, .bin .gtr false (.t 73) (.c (.raw (.int .i64 (0))))⟩,
       ⟨(some 75), none, .mv (.t 74)⟩,
       ⟨(some 76), (some (75, true)), .mv (.t 0)⟩,
       ⟨(some 77), (some (75, true)), .mv (.t 1)⟩,
       ⟨(some 78), (some (75, true)), .bin .sub false (.t 77) (.c (.raw (.int .i64 (1))))⟩,
       ⟨(some 79), (some (75, true)), .ias 1 (.t 76) (.t 78)⟩,
       ⟨(some 80), (some (75, true)), .load false 1 (.t 79)⟩,
       ⟨(some 81), (some (75, true)), .mv (.t 0)⟩,
       ⟨(some 82), (some (75, true)), .mv (.t 11)⟩,
       ⟨(some 83), (some (75, true)), .ias 1 (.t 81) (.t 82)⟩,
       ⟨(some 84), (some (75, true)), .load false 1 (.t 83)⟩,
       ⟨(some 85), (some (75, true)), .call 82 [(.t 80), (.t 84)]⟩,
       ⟨(some 86), (some (75, true)), .un .not (.t 85)⟩,
       ⟨(some 87), none, .pick (.t 75) (.t 86) (.c (.raw (.bool false)))⟩] [
       ])
     (.cond (.t 87)
      (.seq (.ops [
        ⟨(some 88), none, .mv (.t 0)⟩,
        ⟨(some 89), none, .mv (.t 1)⟩,
        ⟨(some 90), none, .mv (.t 2)⟩,
        ⟨(some 91), none, .mv (.t 11)⟩,
        ⟨(some 92), none, .call 83 [(.t 88), (.t 89), (.t 90), (.t 91)]⟩,
        ⟨(some 13), none, .mv (.t 92)⟩])
      (.seq (.ops [
        ⟨(some 93), none, .mv (.t 13)⟩,
        ⟨(some 1), none, .mv (.t 93)⟩])
      (.exit 1)))
      .skip))
     (.seq (.ops [
       ⟨(some 95), none, .mv (.t 0)⟩,
       ⟨(some 96), none, .mv (.t 1)⟩,
       ⟨(some 97), none, .mv (.t 2)⟩,
       ⟨(some 98), none, .mv (.t 11)⟩,
       ⟨(some 99), none, .call 84 [(.t 95), (.t 96), (.t 97), (.t 98)]⟩,
       ⟨(some 94), none, .mv (.t 99)⟩,
       ⟨(some 100), none, .ext (.t 94) 0⟩,
       ⟨(some 101), none, .ext (.t 94) 1⟩,
       ⟨(some 14), none, .mv (.t 100)⟩,
       ⟨(some 15), none, .mv (.t 101)⟩])
     (.seq (.ops [
       ⟨(some 102), none, .mv (.t 15)⟩,
       ⟨(some 9), none, .mv (.t 102)⟩])
     (.seq (.ops [
       ⟨(some 103), none, .mv (.t 14)⟩,
       ⟨(some 104), none, .mv (.t 1)⟩,
       ⟨(some 105), none, .bin .sub false (.t 103) (.t 104)⟩,
       ⟨(some 106), none, .mv (.t 2)⟩,
       ⟨(some 107), none, .mv (.t 14)⟩,
       ⟨(some 108), none, .bin .sub false (.t 106) (.t 107)⟩,
       ⟨(some 16), none, .mv (.t 105)⟩,
       ⟨(some 17), none, .mv (.t 108)⟩])
     (.seq (.ops [
       ⟨(some 109), none, .mv (.t 10)⟩,
       ⟨(some 110), none, .bin .quo false (.t 109) (.c (.raw (.int .i64 (8))))⟩,
       ⟨(some 18), none, .mv (.t 110)⟩])
     (.seq (.ops [
       ⟨(some 111), none, .mv (.t 16)⟩,
       ⟨(some 112), none, .mv (.t 17)⟩,
       ⟨(some 113), none, .bin .lss false (.t 111) (.t 112)⟩])
     (.cond (.t 113)
      (.seq (.ops [
        ⟨(some 114), none, .mv (.t 16)⟩,
        ⟨(some 115), none, .mv (.t 18)⟩,
        ⟨(some 116), none, .bin .geq false (.t 114) (.t 115)⟩,
        ⟨(some 8), none, .mv (.t 116)⟩])
      (.seq (.ops [
        ⟨(some 117), none, .mv (.t 0)⟩,
        ⟨(some 118), none, .mv (.t 1)⟩,
        ⟨(some 119), none, .mv (.t 14)⟩,
        ⟨(some 120), none, .mv (.t 3)⟩,
        ⟨(some 121), none, .call 74 [(.t 117), (.t 118), (.t 119), (.t 120)]⟩])
      (.ops [
        ⟨(some 122), none, .mv (.t 14)⟩,
        ⟨(some 123), none, .bin .add false (.t 122) (.c (.raw (.int .i64 (1))))⟩,
        ⟨(some 1), none, .mv (.t 123)⟩])))
      (.seq (.ops [
        ⟨(some 124), none, .mv (.t 17)⟩,
        ⟨(some 125), none, .mv (.t 18)⟩,
        ⟨(some 126), none, .bin .geq false (.t 124) (.t 125)⟩,
        ⟨(some 8), none, .mv (.t 126)⟩])
      (.seq (.ops [
        ⟨(some 127), none, .mv (.t 0)⟩,
        ⟨(some 128), none, .mv (.t 14)⟩,
        ⟨(some 129), none, .bin .add false (.t 128) (.c (.raw (.int .i64 (1))))⟩,
        ⟨(some 130), none, .mv (.t 2)⟩,
        ⟨(some 131), none, .mv (.t 3)⟩,
        ⟨(some 132), none, .call 74 [(.t 127), (.t 129), (.t 130), (.t 131)]⟩])
      (.ops [
        ⟨(some 133), none, .mv (.t 14)⟩,
        ⟨(some 2), none, .mv (.t 133)⟩]))))))))))))))))))))))
def f74 : DFn := ⟨d74, [], 134⟩
theorem h74 : decFn Try.prog 74 = some f74 := by kernel_rfl

def d75 : DCode :=
  (.seq (.ops [
    ⟨(some 2), none, .mv (.c (.raw (.int .i64 (0))))⟩])
  (.seq (.cond (.c (.raw (.bool false)))
   (.seq (.ops [
     ⟨(some 3), none, .mv (.t 0)⟩,
     ⟨(some 4), none, .cvI .u32 (.t 3)⟩,
     ⟨(some 5), none, .call 85 [(.t 4)]⟩,
     ⟨(some 2), none, .mv (.t 5)⟩])
   .ret)
   .skip)
  (.seq (.ops [
    ⟨(some 6), none, .mv (.t 0)⟩,
    ⟨(some 7), none, .call 86 [(.t 6)]⟩,
    ⟨(some 2), none, .mv (.t 7)⟩])
  .ret)))
def f75 : DFn := ⟨d75, [.tmp 2], 8⟩
theorem h75 : decFn Try.prog 75 = some f75 := by kernel_rfl

def d76 : DCode :=
  (.seq (.ops [
    ⟨(some 8), none, .mv (.t 1)⟩,
    ⟨(some 9), none, .bin .add false (.t 8) (.c (.raw (.int .i64 (1))))⟩,
    ⟨(some 6), none, .mv (.t 9)⟩])
  (.block 0
   (.loop
    (.seq (.seq (.ops [
      ⟨(some 10), none, .mv (.t 6)⟩,
      ⟨(some 11), none, .mv (.t 2)⟩,
      ⟨(some 12), none, .bin .lss false (.t 10) (.t 11)⟩])
    (.cond (.t 12)
     .skip
     (.exit 0)))
    (.seq (.block 1
     (.seq (.ops [
       ⟨(some 15), none, .mv (.t 6)⟩,
       ⟨(some 7), none, .mv (.t 15)⟩])
     (.block 2
      (.loop
       (.seq (.seq (.drw [
         ⟨(some 16), none, .mv (.t 7)⟩,
         ⟨(some 17), none, .mv (.t 1)⟩,
         ⟨(some 18), none, .bin .gtr false (.t 16) (.t 17)⟩,
         ⟨(some 19), none, .mv (.t 18)⟩,
         ⟨(some 20), (some (19, true)), .mv (.t 0)⟩,
         ⟨(some 21), (some (19, true)), .mv (.t 7)⟩,
         ⟨(some 22), (some (19, true)), .ias 1 (.t 20) (.t 21)⟩,
         ⟨(some 23), (some (19, true)), .load false 1 (.t 22)⟩,
         ⟨(some 24), (some (19, true)), .mv (.t 0)⟩,
         ⟨(some 25), (some (19, true)), .mv (.t 7)⟩,
         ⟨(some 26), (some (19, true)), .bin .sub false (.t 25) (.c (.raw (.int .i64 (1))))⟩,
         ⟨(some 27), (some (19, true)), .ias 1 (.t 24) (.t 26)⟩,
         ⟨(some 28), (some (19, true)), .load false 1 (.t 27)⟩,
         ⟨(some 29), (some (19, true)), .call 82 [(.t 23), (.t 28)]⟩,
         ⟨(some 30), none, .pick (.t 19) (.t 29) (.c (.raw (.bool false)))⟩] [
         ])
       (.cond (.t 30)
        .skip
        (.exit 2)))
       (.seq (.block 3
        (.seg [([
          ⟨(some 33), none, .mv (.t 0)⟩,
          ⟨(some 34), none, .mv (.t 7)⟩,
          ⟨(some 35), none, .mv (.t 0)⟩,
          ⟨(some 36), none, .mv (.t 7)⟩,
          ⟨(some 37), none, .bin .sub false (.t 36) (.c (.raw (.int .i64 (1))))⟩,
          ⟨(some 38), none, .mv (.t 0)⟩,
          ⟨(some 39), none, .mv (.t 7)⟩,
          ⟨(some 40), none, .bin .sub false (.t 39) (.c (.raw (.int .i64 (1))))⟩,
          ⟨(some 41), none, .ias 1 (.t 38) (.t 40)⟩,
          ⟨(some 42), none, .load false 1 (.t 41)⟩,
          ⟨(some 43), none, .mv (.t 0)⟩,
          ⟨(some 44), none, .mv (.t 7)⟩,
          ⟨(some 45), none, .ias 1 (.t 43) (.t 44)⟩,
          ⟨(some 46), none, .load false 1 (.t 45)⟩,
          ⟨(some 47), none, .ias 1 (.t 33) (.t 34)⟩], .store 1 (.t 47) (.t 42)),
        ([
          ⟨(some 48), none, .ias 1 (.t 35) (.t 37)⟩], .store 1 (.t 48) (.t 46))] [
          ]))
       (.ops [
         ⟨(some 31), none, .mv (.t 7)⟩,
         ⟨(some 32), none, .bin .sub false (.t 31) (.c (.raw (.int .i64 (1))))⟩,
         ⟨(some 7), none, .mv (.t 32)⟩])))))))
    (.ops [
      ⟨(some 13), none, .mv (.t 6)⟩,
      ⟨(some 14), none, .bin .add false (.t 13) (.c (.raw (.int .i64 (1))))⟩,
      ⟨(some 6), none, .mv (.t 14)⟩]))))))
def f76 : DFn := ⟨d76, [], 49⟩
theorem h76 : decFn Try.prog 76 = some f76 := by kernel_rfl

def d77 : DCode :=
  (.seq (.ops [
    ⟨(some 11), none, .mv (.t 1)⟩,
    ⟨(some 6), none, .mv (.t 11)⟩])
  (.seq (.ops [
    ⟨(some 7), none, .mv (.c (.raw (.int .i64 (0))))⟩])
  (.seq (.ops [
    ⟨(some 12), none, .mv (.t 2)⟩,
    ⟨(some 13), none, .mv (.t 1)⟩,
    ⟨(some 14), none, .bin .sub false (.t 12) (.t 13)⟩,
    ⟨(some 8), none, .mv (.t 14)⟩])
  (.seq (.seq (.ops [
    ⟨(some 15), none, .mv (.t 8)⟩,
    ⟨(some 16), none, .bin .sub false (.t 15) (.c (.raw (.int .i64 (1))))⟩,
    ⟨(some 17), none, .bin .quo false (.t 16) (.c (.raw (.int .i64 (2))))⟩,
    ⟨(some 9), none, .mv (.t 17)⟩])
  (.block 0
   (.loop
    (.seq (.seq (.ops [
      ⟨(some 18), none, .mv (.t 9)⟩,
      ⟨(some 19), none, .bin .geq false (.t 18) (.c (.raw (.int .i64 (0))))⟩])
    (.cond (.t 19)
     .skip
     (.exit 0)))
    (.seq (.block 1
     (.ops [
       ⟨(some 22), none, .mv (.t 0)⟩,
       ⟨(some 23), none, .mv (.t 9)⟩,
       ⟨(some 24), none, .mv (.t 8)⟩,
       ⟨(some 25), none, .mv (.t 6)⟩,
       ⟨(some 26), none, .call 87 [(.t 22), (.t 23), (.t 24), (.t 25)]⟩]))
    (.ops [
      ⟨(some 20), none, .mv (.t 9)⟩,
      ⟨(some 21), none, .bin .sub false (.t 20) (.c (.raw (.int .i64 (1))))⟩,
      ⟨(some 9), none, .mv (.t 21)⟩]))))))
  (.seq (.ops [
    ⟨(some 27), none, .mv (.t 8)⟩,
    ⟨(some 28), none, .bin .sub false (.t 27) (.c (.raw (.int .i64 (1))))⟩,
    ⟨(some 10), none, .mv (.t 28)⟩])
  (.block 2
   (.loop
    (.seq (.seq (.ops [
      ⟨(some 29), none, .mv (.t 10)⟩,
      ⟨(some 30), none, .bin .geq false (.t 29) (.c (.raw (.int .i64 (0))))⟩])
    (.cond (.t 30)
     .skip
     (.exit 2)))
    (.seq (.block 3
     (.seq (.seg [([
       ⟨(some 33), none, .mv (.t 0)⟩,
       ⟨(some 34), none, .mv (.t 6)⟩,
       ⟨(some 35), none, .mv (.t 0)⟩,
       ⟨(some 36), none, .mv (.t 6)⟩,
       ⟨(some 37), none, .mv (.t 10)⟩,
       ⟨(some 38), none, .bin .add false (.t 36) (.t 37)⟩,
       ⟨(some 39), none, .mv (.t 0)⟩,
       ⟨(some 40), none, .mv (.t 6)⟩,
       ⟨(some 41), none, .mv (.t 10)⟩,
       ⟨(some 42), none, .bin .add false (.t 40) (.t 41)⟩,
       ⟨(some 43), none, .ias 1 (.t 39) (.t 42)⟩,
       ⟨(some 44), none, .load false 1 (.t 43)⟩,
       ⟨(some 45), none, .mv (.t 0)⟩,
       ⟨(some 46), none, .mv (.t 6)⟩,
       ⟨(some 47), none, .ias 1 (.t 45) (.t 46)⟩,
       ⟨(some 48), none, .load false 1 (.t 47)⟩,
       ⟨(some 49), none, .ias 1 (.t 33) (.t 34)⟩], .store 1 (.t 49) (.t 44)),
     ([
       ⟨(some 50), none, .ias 1 (.t 35) (.t 38)⟩], .store 1 (.t 50) (.t 48))] [
       ])
     (.ops [
       ⟨(some 51), none, .mv (.t 0)⟩,
       ⟨(some 52), none, .mv (.t 7)⟩,
       ⟨(some 53), none, .mv (.t 10)⟩,
       ⟨(some 54), none, .mv (.t 6)⟩,
       ⟨(some 55), none, .call 87 [(.t 51), (.t 52), (.t 53), (.t 54)]⟩])))
    (.ops [
      ⟨(some 31), none, .mv (.t 10)⟩,
      ⟨(some 32), none, .bin .sub false (.t 31) (.c (.raw (.int .i64 (1))))⟩,
      ⟨(some 10), none, .mv (.t 32)⟩]))))))))))
def f77 : DFn := ⟨d77, [], 56⟩
theorem h77 : decFn Try.prog 77 = some f77 := by kernel_rfl

def d78 : DCode :=
  (.seq (.ops [
    ⟨(some 11), none, .mv (.t 2)⟩,
    ⟨(some 12), none, .mv (.t 1)⟩,
    ⟨(some 13), none, .bin .sub false (.t 11) (.t 12)⟩,
    ⟨(some 6), none, .mv (.t 13)⟩])
  (.seq (.ops [
    ⟨(some 14), none, .mv (.t 6)⟩,
    ⟨(some 15), none, .bin .geq false (.t 14) (.c (.raw (.int .i64 (8))))⟩])
  (.cond (.t 15)
   (.seq (.ops [
     ⟨(some 16), none, .mv (.t 6)⟩,
     ⟨(some 17), none, .cvI .u64 (.t 16)⟩,
     ⟨(some 7), none, .alloc (.raw (.int .u64 (0)))⟩,
     ⟨none, none, .store 1 (.t 7) (.t 17)⟩])
   (.seq (.ops [
     ⟨(some 18), none, .mv (.t 6)⟩,
     ⟨(some 19), none, .call 88 [(.t 18)]⟩,
     ⟨(some 8), none, .mv (.t 19)⟩])
   (.seq (.ops [
     ⟨(some 20), none, .mv (.t 1)⟩,
     ⟨(some 21), none, .mv (.t 6)⟩,
     ⟨(some 22), none, .bin .quo false (.t 21) (.c (.raw (.int .i64 (4))))⟩,
     ⟨(some 23), none, .bin .mul false (.t 22) (.c (.raw (.int .i64 (2))))⟩,
     ⟨(some 24), none, .bin .add false (.t 20) (.t 23)⟩,
     ⟨(some 25), none, .bin .sub false (.t 24) (.c (.raw (.int .i64 (1))))⟩,
     ⟨(some 9), none, .mv (.t 25)⟩])
   (.block 0
    (.loop
     (.seq (.seq (.ops [
       ⟨(some 26), none, .mv (.t 9)⟩,
       ⟨(some 27), none, .mv (.t 1)⟩,
       ⟨(some 28), none, .mv (.t 6)⟩,
       ⟨(some 29), none, .bin .quo false (.t 28) (.c (.raw (.int .i64 (4))))⟩,
       ⟨(some 30), none, .bin .mul false (.t 29) (.c (.raw (.int .i64 (2))))⟩,
       ⟨(some 31), none, .bin .add false (.t 27) (.t 30)⟩,
       ⟨(some 32), none, .bin .add false (.t 31) (.c (.raw (.int .i64 (1))))⟩,
       ⟨(some 33), none, .bin .leq false (.t 26) (.t 32)⟩])
     (.cond (.t 33)
      .skip
      (.exit 0)))
     (.seq (.block 1
      (.seq (.ops [
        ⟨(some 36), none, .call 89 [(.t 7)]⟩,
        ⟨(some 37), none, .mv (.t 8)⟩,
        ⟨(some 38), none, .bin .sub false (.t 37) (.c (.raw (.int .u64 (1))))⟩,
        ⟨(some 39), none, .bin .and false (.t 36) (.t 38)⟩,
        ⟨(some 40), none, .cvI .i64 (.t 39)⟩,
        ⟨(some 10), none, .mv (.t 40)⟩])
      (.seq (.seq (.ops [
        ⟨(some 41), none, .mv (.t 10)⟩,
        ⟨(some 42), none, .mv (.t 6)⟩,
        ⟨(some 43), none, .bin .geq false (.t 41) (.t 42)⟩])
      (.cond (.t 43)
       (.ops [
         ⟨(some 44), none, .mv (.t 10)⟩,
         ⟨(some 45), none, .mv (.t 6)⟩,
         ⟨(some 46), none, .bin .sub false (.t 44) (.t 45)⟩,
         ⟨(some 10), none, .mv (.t 46)⟩])
       .skip))
      (.seg [([
        ⟨(some 47), none, .mv (.t 0)⟩,
        ⟨(some 48), none, .mv (.t 9)⟩,
        ⟨(some 49), none, .mv (.t 0)⟩,
        ⟨(some 50), none, .mv (.t 1)⟩,
        ⟨(some 51), none, .mv (.t 10)⟩,
        ⟨(some 52), none, .bin .add false (.t 50) (.t 51)⟩,
        ⟨(some 53), none, .mv (.t 0)⟩,
        ⟨(some 54), none, .mv (.t 1)⟩,
        ⟨(some 55), none, .mv (.t 10)⟩,
        ⟨(some 56), none, .bin .add false (.t 54) (.t 55)⟩,
        ⟨(some 57), none, .ias 1 (.t 53) (.t 56)⟩,
        ⟨(some 58), none, .load false 1 (.t 57)⟩,
        ⟨(some 59), none, .mv (.t 0)⟩,
        ⟨(some 60), none, .mv (.t 9)⟩,
        ⟨(some 61), none, .ias 1 (.t 59) (.t 60)⟩,
        ⟨(some 62), none, .load false 1 (.t 61)⟩,
        ⟨(some 63), none, .ias 1 (.t 47) (.t 48)⟩], .store 1 (.t 63) (.t 58)),
      ([
        ⟨(some 64), none, .ias 1 (.t 49) (.t 52)⟩], .store 1 (.t 64) (.t 62))] [
        ]))))
     (.ops [
       ⟨(some 34), none, .mv (.t 9)⟩,
       ⟨(some 35), none, .bin .add false (.t 34) (.c (.raw (.int .i64 (1))))⟩,
       ⟨(some 9), none, .mv (.t 35)⟩]))))))))
   .skip)))
def f78 : DFn := ⟨d78, [], 65⟩
theorem h78 : decFn Try.prog 78 = some f78 := by kernel_rfl

def d79 : DCode :=
  (.seq (.ops [
    ⟨(some 6), none, .mv (.c (.raw (.int .i64 (0))))⟩,
    ⟨(some 7), none, .mv (.c (.raw (.int .i64 (0))))⟩])
  (.seq (.ops [
    ⟨(some 13), none, .mv (.t 2)⟩,
    ⟨(some 14), none, .mv (.t 1)⟩,
    ⟨(some 15), none, .bin .sub false (.t 13) (.t 14)⟩,
    ⟨(some 8), none, .mv (.t 15)⟩])
  (.seq (.ops [
    ⟨(some 9), none, .alloc (.raw (.int .i64 (0)))⟩])
  (.seq (.ops [
    ⟨(some 16), none, .mv (.t 1)⟩,
    ⟨(some 17), none, .mv (.t 8)⟩,
    ⟨(some 18), none, .bin .quo false (.t 17) (.c (.raw (.int .i64 (4))))⟩,
    ⟨(some 19), none, .bin .mul false (.t 18) (.c (.raw (.int .i64 (1))))⟩,
    ⟨(some 20), none, .bin .add false (.t 16) (.t 19)⟩,
    ⟨(some 10), none, .mv (.t 20)⟩])
  (.seq (.ops [
    ⟨(some 21), none, .mv (.t 1)⟩,
    ⟨(some 22), none, .mv (.t 8)⟩,
    ⟨(some 23), none, .bin .quo false (.t 22) (.c (.raw (.int .i64 (4))))⟩,
    ⟨(some 24), none, .bin .mul false (.t 23) (.c (.raw (.int .i64 (2))))⟩,
    ⟨(some 25), none, .bin .add false (.t 21) (.t 24)⟩,
    ⟨(some 11), none, .mv (.t 25)⟩])
  (.seq (.ops [
    ⟨(some 26), none, .mv (.t 1)⟩,
    ⟨(some 27), none, .mv (.t 8)⟩,
    ⟨(some 28), none, .bin .quo false (.t 27) (.c (.raw (.int .i64 (4))))⟩,
    ⟨(some 29), none, .bin .mul false (.t 28) (.c (.raw (.int .i64 (3))))⟩,
    ⟨(some 30), none, .bin .add false (.t 26) (.t 29)⟩,
    ⟨(some 12), none, .mv (.t 30)⟩])
  (.seq (.seq (.ops [
    ⟨(some 31), none, .mv (.t 8)⟩,
    ⟨(some 32), none, .bin .geq false (.t 31) (.c (.raw (.int .i64 (8))))⟩])
  (.cond (.t 32)
   (.seq (.seq (.ops [
     ⟨(some 33), none, .mv (.t 8)⟩,
     ⟨(some 34), none, .bin .geq false (.t 33) (.c (.raw (.int .i64 (50))))⟩])
   (.cond (.t 34)
    (.seq (.ops [
      ⟨(some 35), none, .mv (.t 0)⟩,
      ⟨(some 36), none, .mv (.t 10)⟩,
      ⟨(some 37), none, .call 90 [(.t 35), (.t 36), (.t 9)]⟩,
      ⟨(some 10), none, .mv (.t 37)⟩])
    (.seq (.ops [
      ⟨(some 38), none, .mv (.t 0)⟩,
      ⟨(some 39), none, .mv (.t 11)⟩,
      ⟨(some 40), none, .call 90 [(.t 38), (.t 39), (.t 9)]⟩,
      ⟨(some 11), none, .mv (.t 40)⟩])
    (.ops [
      ⟨(some 41), none, .mv (.t 0)⟩,
      ⟨(some 42), none, .mv (.t 12)⟩,
      ⟨(some 43), none, .call 90 [(.t 41), (.t 42), (.t 9)]⟩,
      ⟨(some 12), none, .mv (.t 43)⟩])))
    .skip))
   (.ops [
     ⟨(some 44), none, .mv (.t 0)⟩,
     ⟨(some 45), none, .mv (.t 10)⟩,
     ⟨(some 46), none, .mv (.t 11)⟩,
     ⟨(some 47), none, .mv (.t 12)⟩,
     ⟨(some 48), none, .call 91 [(.t 44), (.t 45), (.t 46), (.t 47), (.t 9)]⟩,
     ⟨(some 11), none, .mv (.t 48)⟩]))
   .skip))
  (.seq (.ops [
    ⟨(some 49), none, .load false 1 (.t 9)⟩])
  (.block 0
   (.seq (.ops [
     ⟨(some 52), none, .bin .eql false (.t 49) (.c (.raw (.int .i64 (0))))⟩,
     ⟨(some 51), none, .mv (.t 52)⟩])
   (.cond (.t 51)
    (.seq (.ops [
      ⟨(some 53), none, .mv (.t 11)⟩,
      ⟨(some 6), none, .mv (.t 53)⟩,
      ⟨(some 7), none, .mv (.c (.raw (.int .i64 (1))))⟩])
    .ret)
    (.seq (.ops [
      ⟨(some 55), none, .bin .eql false (.t 49) (.c (.raw (.int .i64 (12))))⟩,
      ⟨(some 54), none, .mv (.t 55)⟩])
    (.cond (.t 54)
     (.seq (.ops [
       ⟨(some 56), none, .mv (.t 11)⟩,
       ⟨(some 6), none, .mv (.t 56)⟩,
       ⟨(some 7), none, .mv (.c (.raw (.int .i64 (2))))⟩])
     .ret)
     (.seq (.ops [
       ⟨(some 50), none, .mv (.t 11)⟩,
       ⟨(some 6), none, .mv (.t 50)⟩,
       ⟨(some 7), none, .mv (.c (.raw (.int .i64 (0))))⟩])
     .ret))))))))))))))
def f79 : DFn := ⟨d79, [.tmp 6, .tmp 7], 57⟩
theorem h79 : decFn Try.prog 79 = some f79 := by kernel_rfl

def d80 : DCode :=
  (.seq (.ops [
    ⟨(some 8), none, .mv (.t 1)⟩,
    ⟨(some 6), none, .mv (.t 8)⟩])
  (.seq (.ops [
    ⟨(some 9), none, .mv (.t 2)⟩,
    ⟨(some 10), none, .bin .sub false (.t 9) (.c (.raw (.int .i64 (1))))⟩,
    ⟨(some 7), none, .mv (.t 10)⟩])
  (.block 0
   (.loop
    (.seq (.seq (.ops [
      ⟨(some 11), none, .mv (.t 6)⟩,
      ⟨(some 12), none, .mv (.t 7)⟩,
      ⟨(some 13), none, .bin .lss false (.t 11) (.t 12)⟩])
    (.cond (.t 13)
     .skip
     (.exit 0)))
    (.block 1
     (.seq (.seg [([
       ⟨(some 14), none, .mv (.t 0)⟩,
       ⟨(some 15), none, .mv (.t 6)⟩,
       ⟨(some 16), none, .mv (.t 0)⟩,
       ⟨(some 17), none, .mv (.t 7)⟩,
       ⟨(some 18), none, .mv (.t 0)⟩,
       ⟨(some 19), none, .mv (.t 7)⟩,
       ⟨(some 20), none, .ias 1 (.t 18) (.t 19)⟩,
       ⟨(some 21), none, .load false 1 (.t 20)⟩,
       ⟨(some 22), none, .mv (.t 0)⟩,
       ⟨(some 23), none, .mv (.t 6)⟩,
       ⟨(some 24), none, .ias 1 (.t 22) (.t 23)⟩,
       ⟨(some 25), none, .load false 1 (.t 24)⟩,
       ⟨(some 26), none, .ias 1 (.t 14) (.t 15)⟩], .store 1 (.t 26) (.t 21)),
     ([
       ⟨(some 27), none, .ias 1 (.t 16) (.t 17)⟩], .store 1 (.t 27) (.t 25))] [
       ])
     (.seq (.ops [
       ⟨(some 28), none, .mv (.t 6)⟩,
       ⟨(some 29), none, .bin .add false (.t 28) (.c (.raw (.int .i64 (1))))⟩,
       ⟨(some 6), none, .mv (.t 29)⟩])
     (.ops [
       ⟨(some 30), none, .mv (.t 7)⟩,
       ⟨(some 31), none, .bin .sub false (.t 30) (.c (.raw (.int .i64 (1))))⟩,
       ⟨(some 7), none, .mv (.t 31)⟩])))))))))
def f80 : DFn := ⟨d80, [], 32⟩
theorem h80 : decFn Try.prog 80 = some f80 := by kernel_rfl

def d81 : DCode :=
  (.seq (.ops [
    ⟨(some 6), none, .mv (.c (.raw (.bool false)))⟩])
  (.seq (.ops [
    ⟨(some 11), none, .mv (.t 1)⟩,
    ⟨(some 12), none, .bin .add false (.t 11) (.c (.raw (.int .i64 (1))))⟩,
    ⟨(some 7), none, .mv (.t 12)⟩])
  (.seq (.seq (.ops [
    ⟨(some 8), none, .mv (.c (.raw (.int .i64 (0))))⟩])
  (.block 0
   (.loop
    (.seq (.seq (.ops [
      ⟨(some 13), none, .mv (.t 8)⟩,
      ⟨(some 14), none, .bin .lss false (.t 13) (.c (.raw (.int .i64 (5))))⟩])
    (.cond (.t 14)
     .skip
     (.exit 0)))
    (.seq (.block 1
     (.seq (.block 2
      (.loop
       (.seq (.seq (.drw [
         ⟨(some 17), none, .mv (.t 7)⟩,
         ⟨(some 18), none, .mv (.t 2)⟩,
         ⟨(some 19), none, .bin .lss false (.t 17) (.t 18)⟩,
         ⟨(some 20), none, .mv (.t 19)⟩,
         ⟨(some 21), (some (20, true)), .mv (.t 0)⟩,
         ⟨(some 22), (some (20, true)), .mv (.t 7)⟩,
         ⟨(some 23), (some (20, true)), .ias 1 (.t 21) (.t 22)⟩,
         ⟨(some 24), (some (20, true)), .load false 1 (.t 23)⟩,
         ⟨(some 25), (some (20, true)), .mv (.t 0)⟩,
         ⟨(some 26), (some (20, true)), .mv (.t 7)⟩,
         ⟨(some 27), (some (20, true)), .bin .sub false (.t 26) (.c (.raw (.int .i64 (1))))⟩,
         ⟨(some 28), (some (20, true)), .ias 1 (.t 25) (.t 27)⟩,
         ⟨(some 29), (some (20, true)), .load false 1 (.t 28)⟩,
         ⟨(some 30), (some (20, true)), .call 82 [(.t 24), (.t 29)]⟩,
         ⟨(some 31), (some (20, true)), .un .not (.t 30)⟩,
         ⟨(some 32), none, .pick (.t 20) (.t 31) (.c (.raw (.bool false)))⟩] [
         ])
       (.cond (.t 32)
        .skip
        (.exit 2)))
       (.block 3
        (.ops [
          ⟨(some 33), none, .mv (.t 7)⟩,
          ⟨(some 34), none, .bin .add false (.t 33) (.c (.raw (.int .i64 (1))))⟩,
          ⟨(some 7), none, .mv (.t 34)⟩])))))
     (.seq (.seq (.ops [
       ⟨(some 35), none, .mv (.t 7)⟩,
       ⟨(some 36), none, .mv (.t 2)⟩,
       ⟨(some 37), none, .bin .eql false (.t 35) (.t 36)⟩])
     (.cond (.t 37)
      (.seq (.ops [
        ⟨(some 6), none, .mv (.c (.raw (.bool true)))⟩])
      .ret)
      .skip))
     (.seq (.seq (.ops [
       ⟨(some 38), none, .mv (.t 2)⟩,
       ⟨(some 39), none, .mv (.t 1)⟩,
       ⟨(some 40), none, .bin .sub false (.t 38) (.t 39)⟩,
       ⟨(some 41), none, .bin .lss false (.t 40) (.c (.raw (.int .i64 (50))))⟩])
     (.cond (.t 41)
      (.seq (.ops [
        ⟨(some 6), none, .mv (.c (.raw (.bool false)))⟩])
      .ret)
      .skip))
     (.seq (.seg [([
       ⟨(some 42), none, .mv (.t 0)⟩,
       ⟨(some 43), none, .mv (.t 7)⟩,
       ⟨(some 44), none, .mv (.t 0)⟩,
       ⟨(some 45), none, .mv (.t 7)⟩,
       ⟨(some 46), none, .bin .sub false (.t 45) (.c (.raw (.int .i64 (1))))⟩,
       ⟨(some 47), none, .mv (.t 0)⟩,
       ⟨(some 48), none, .mv (.t 7)⟩,
       ⟨(some 49), none, .bin .sub false (.t 48) (.c (.raw (.int .i64 (1))))⟩,
       ⟨(some 50), none, .ias 1 (.t 47) (.t 49)⟩,
       ⟨(some 51), none, .load false 1 (.t 50)⟩,
       ⟨(some 52), none, .mv (.t 0)⟩,
       ⟨(some 53), none, .mv (.t 7)⟩,
       ⟨(some 54), none, .ias 1 (.t 52) (.t 53)⟩,
       ⟨(some 55), none, .load false 1 (.t 54)⟩,
       ⟨(some 56), none, .ias 1 (.t 42) (.t 43)⟩], .store 1 (.t 56) (.t 51)),
     ([
       ⟨(some 57), none, .ias 1 (.t 44) (.t 46)⟩], .store 1 (.t 57) (.t 55))] [
       ])
     (.seq (.seq (.ops [
       ⟨(some 58), none, .mv (.t 7)⟩,
       ⟨(some 59), none, .mv (.t 1)⟩,
       ⟨(some 60), none, .bin .sub false (.t 58) (.t 59)⟩,
       ⟨(some 61), none, .bin .geq false (.t 60) (.c (.raw (.int .i64 (2))))⟩])
     (.cond (.t 61)
      (.seq (.ops [
        ⟨(some 62), none, .mv (.t 7)⟩,
        ⟨(some 63), none, .bin .sub false (.t 62) (.c (.raw (.int .i64 (1))))⟩,
        ⟨(some 9), none, .mv (.t 63)⟩])
      (.block 4
       (.loop
        (.seq (.seq (.ops [
          ⟨(some 64), none, .mv (.t 9)⟩,
          ⟨(some 65), none, .bin .geq false (.t 64) (.c (.raw (.int .i64 (1))))⟩])
        (.cond (.t 65)
         .skip
         (.exit 4)))
        (.seq (.block 5
         (.seq (.seq (.drw [
           ⟨(some 68), none, .mv (.t 0)⟩,
           ⟨(some 69), none, .mv (.t 9)⟩,
           ⟨(some 70), none, .ias 1 (.t 68) (.t 69)⟩,
           ⟨(some 71), none, .load false 1 (.t 70)⟩,
           ⟨(some 72), none, .mv (.t 0)⟩,
           ⟨(some 73), none, .mv (.t 9)⟩,
           ⟨(some 74), none, .bin .sub false (.t 73) (.c (.raw (.int .i64 (1))))⟩,
           ⟨(some 75), none, .ias 1 (.t 72) (.t 74)⟩,
           ⟨(some 76), none, .load false 1 (.t 75)⟩,
           ⟨(some 77), none, .call 82 [(.t 71), (.t 76)]⟩,
           ⟨(some 78), none, .un .not (.t 77)⟩] [
           ])
         (.cond (.t 78)
          (.exit 4)
          .skip))
         (.seg [([
           ⟨(some 79), none, .mv (.t 0)⟩,
           ⟨(some 80), none, .mv (.t 9)⟩,
           ⟨(some 81), none, .mv (.t 0)⟩,
           ⟨(some 82), none, .mv (.t 9)⟩,
           ⟨(some 83), none, .bin .sub false (.t 82) (.c (.raw (.int .i64 (1))))⟩,
           ⟨(some 84), none, .mv (.t 0)⟩,
           ⟨(some 85), none, .mv (.t 9)⟩,
           ⟨(some 86), none, .bin .sub false (.t 85) (.c (.raw (.int .i64 (1))))⟩,
           ⟨(some 87), none, .ias 1 (.t 84) (.t 86)⟩,
           ⟨(some 88), none, .load false 1 (.t 87)⟩,
           ⟨(some 89), none, .mv (.t 0)⟩,
           ⟨(some 90), none, .mv (.t 9)⟩,
           ⟨(some 91), none, .ias 1 (.t 89) (.t 90)⟩,
           ⟨(some 92), none, .load false 1 (.t 91)⟩,
           ⟨(some 93), none, .ias 1 (.t 79) (.t 80)⟩], .store 1 (.t 93) (.t 88)),
         ([
           ⟨(some 94), none, .ias 1 (.t 81) (.t 83)⟩], .store 1 (.t 94) (.t 92))] [
           ])))
        (.ops [
          ⟨(some 66), none, .mv (.t 9)⟩,
          ⟨(some 67), none, .bin .sub false (.t 66) (.c (.raw (.int .i64 (1))))⟩,
          ⟨(some 9), none, .mv (.t 67)⟩]))))))
      .skip))
     (.seq (.ops [
       ⟨(some 95), none, .mv (.t 2)⟩,
       ⟨(some 96), none, .mv (.t 7)⟩,
       ⟨(some 97), none, .bin .sub false (.t 95) (.t 96)⟩,
       ⟨(some 98), none, .bin .geq false (.t 97) (.c (.raw (.int .i64 (2))))⟩])
     (.cond (.t 98)
      (.seq (.ops [
        ⟨(some 99), none, .mv (.t 7)⟩,
        ⟨(some 100), none, .bin .add false (.t 99) (.c (.raw (.int .i64 (1))))⟩,
        ⟨(some 10), none, .mv (.t 100)⟩])
      (.block 6
       (.loop
        (.seq (.seq (.ops [
          ⟨(some 101), none, .mv (.t 10)⟩,
          ⟨(some 102), none, .mv (.t 2)⟩,
          ⟨(some 103), none, .bin .lss false (.t 101) (.t 102)⟩])
        (.cond (.t 103)
         .skip
         (.exit 6)))
        (.seq (.block 7
         (.seq (.seq (.drw [
           ⟨(some 106), none, .mv (.t 0)⟩,
           ⟨(some 107), none, .mv (.t 10)⟩,
           ⟨(some 108), none, .ias 1 (.t 106) (.t 107)⟩,
           ⟨(some 109), none, .load false 1 (.t 108)⟩,
           ⟨(some 110), none, .mv (.t 0)⟩,
           ⟨(some 111), none, .mv (.t 10)⟩,
           ⟨(some 112), none, .bin .sub false (.t 111) (.c (.raw (.int .i64 (1))))⟩,
           ⟨(some 113), none, .ias 1 (.t 110) (.t 112)⟩,
           ⟨(some 114), none, .load false 1 (.t 113)⟩,
           ⟨(some 115), none, .call 82 [(.t 109), (.t 114)]⟩,
           ⟨(some 116), none, .un .not (.t 115)⟩] [
           ])
         (.cond (.t 116)
          (.exit 6)
          .skip))
         (.seg [([
           ⟨(some 117), none, .mv (.t 0)⟩,
           ⟨(some 118), none, .mv (.t 10)⟩,
           ⟨(some 119), none, .mv (.t 0)⟩,
           ⟨(some 120), none, .mv (.t 10)⟩,
           ⟨(some 121), none, .bin .sub false (.t 120) (.c (.raw (.int .i64 (1))))⟩,
           ⟨(some 122), none, .mv (.t 0)⟩,
           ⟨(some 123), none, .mv (.t 10)⟩,
           ⟨(some 124), none, .bin .sub false (.t 123) (.c (.raw (.int .i64 (1))))⟩,
           ⟨(some 125), none, .ias 1 (.t 122) (.t 124)⟩,
           ⟨(some 126), none, .load false 1 (.t 125)⟩,
           ⟨(some 127), none, .mv (.t 0)⟩,
           ⟨(some 128), none, .mv (.t 10)⟩,
           ⟨(some 129), none, .ias 1 (.t 127) (.t 128)⟩,
           ⟨(some 130), none, .load false 1 (.t 129)⟩,
           ⟨(some 131), none, .ias 1 (.t 117) (.t 118)⟩], .store 1 (.t 131) (.t 126)),
         ([
           ⟨(some 132), none, .ias 1 (.t 119) (.t 121)⟩], .store 1 (.t 132) (.t 130))] [
           ])))
        (.ops [
          ⟨(some 104), none, .mv (.t 10)⟩,
          ⟨(some 105), none, .bin .add false (.t 104) (.c (.raw (.int .i64 (1))))⟩,
          ⟨(some 10), none, .mv (.t 105)⟩]))))))
      .skip))))))))
    (.ops [
      ⟨(some 15), none, .mv (.t 8)⟩,
      ⟨(some 16), none, .bin .add false (.t 15) (.c (.raw (.int .i64 (1))))⟩,
      ⟨(some 8), none, .mv (.t 16)⟩]))))))
  (.seq (.ops [
    ⟨(some 6), none, .mv (.c (.raw (.bool false)))⟩])
  .ret))))
def f81 : DFn := ⟨d81, [.tmp 6], 133⟩
theorem h81 : decFn Try.prog 81 = some f81 := by kernel_rfl

def d82 : DCode :=
  (.seq (.ops [
    ⟨(some 4), none, .mv (.c (.raw (.bool false)))⟩])
  (.seq (.ops [
    ⟨(some 5), none, .mv (.t 0)⟩,
    ⟨(some 6), none, .call 92 [(.t 5)]⟩,
    ⟨(some 7), none, .mv (.t 6)⟩,
    ⟨(some 8), (some (7, true)), .mv (.t 1)⟩,
    ⟨(some 9), (some (7, true)), .call 92 [(.t 8)]⟩,
    ⟨(some 10), (some (7, true)), .un .not (.t 9)⟩,
    ⟨(some 11), none, .pick (.t 7) (.t 10) (.c (.raw (.bool false)))⟩,
    ⟨(some 12), none, .mv (.t 11)⟩,
    ⟨(some 13), (some (12, false)), .mv (.t 0)⟩,
    ⟨(some 14), (some (12, false)), .mv (.t 1)⟩,
    ⟨(some 15), (some (12, false)), .bin .lss false (.t 13) (.t 14)⟩,
    ⟨(some 16), none, .pick (.t 12) (.c (.raw (.bool true))) (.t 15)⟩,
    ⟨(some 4), none, .mv (.t 16)⟩])
  .ret))
def f82 : DFn := ⟨d82, [.tmp 4], 17⟩
theorem h82 : decFn Try.prog 82 = some f82 := by kernel_rfl

def d83 : DCode :=
  (.seq (.ops [
    ⟨(some 8), none, .mv (.c (.raw (.int .i64 (0))))⟩])
  (.seq (.seg [([
    ⟨(some 11), none, .mv (.t 0)⟩,
    ⟨(some 12), none, .mv (.t 1)⟩,
    ⟨(some 13), none, .mv (.t 0)⟩,
    ⟨(some 14), none, .mv (.t 3)⟩,
    ⟨(some 15), none, .mv (.t 0)⟩,
    ⟨(some 16), none, .mv (.t 3)⟩,
    ⟨(some 17), none, .ias 1 (.t 15) (.t 16)⟩,
    ⟨(some 18), none, .load false 1 (.t 17)⟩,
    ⟨(some 19), none, .mv (.t 0)⟩,
    ⟨(some 20), none, .mv (.t 1)⟩,
    ⟨(some 21), none, .ias 1 (.t 19) (.t 20)⟩,
    ⟨(some 22), none, .load false 1 (.t 21)⟩,
    ⟨(some 23), none, .ias 1 (.t 11) (.t 12)⟩], .store 1 (.t 23) (.t 18)),
  ([
    ⟨(some 24), none, .ias 1 (.t 13) (.t 14)⟩], .store 1 (.t 24) (.t 22))] [
    ])
  (.seq (.ops [
    ⟨(some 25), none, .mv (.t 1)⟩,
    ⟨(some 26), none, .bin .add false (.t 25) (.c (.raw (.int .i64 (1))))⟩,
    ⟨(some 27), none, .mv (.t 2)⟩,
    ⟨(some 28), none, .bin .sub false (.t 27) (.c (.raw (.int .i64 (1))))⟩,
    ⟨(some 9), none, .mv (.t 26)⟩,
    ⟨(some 10), none, .mv (.t 28)⟩])
  (.seq (.block 0
   (.loop
    (.block 1
     (.seq (.block 2
      (.loop
       (.seq (.seq (.drw [
         ⟨(some 29), none, .mv (.t 9)⟩,
         ⟨(some 30), none, .mv (.t 10)⟩,
         ⟨(some 31), none, .bin .leq false (.t 29) (.t 30)⟩,
         ⟨(some 32), none, .mv (.t 31)⟩,
         ⟨(some 33), (some (32, true)), .mv (.t 0)⟩,
         ⟨(some 34), (some (32, true)), .mv (.t 1)⟩,
         ⟨(some 35), (some (32, true)), .ias 1 (.t 33) (.t 34)⟩,
         ⟨(some 36), (some (32, true)), .load false 1 (.t 35)⟩,
         ⟨(some 37), (some (32, true)), .mv (.t 0)⟩,
         ⟨(some 38), (some (32, true)), .mv (.t 9)⟩,
         ⟨(some 39), (some (32, true)), .ias 1 (.t 37) (.t 38)⟩,
         ⟨(some 40), (some (32, true)), .load false 1 (.t 39)⟩,
         ⟨(some 41), (some (32, true)), .call 82 [(.t 36), (.t 40)]⟩,
         ⟨(some 42), (some (32, true)), .un .not (.t 41)⟩,
         ⟨(some 43), none, .pick (.t 32) (.t 42) (.c (.raw (.bool false)))⟩] [
         ])
       (.cond (.t 43)
        .skip
        (.exit 2)))
       (.block 3
        (.ops [
          ⟨(some 44), none, .mv (.t 9)⟩,
          ⟨(some 45), none, .bin .add false (.t 44) (.c (.raw (.int .i64 (1))))⟩,
          ⟨(some 9), none, .mv (.t 45)⟩])))))
     (.seq (.block 4
      (.loop
       (.seq (.seq (.drw [
         ⟨(some 46), none, .mv (.t 9)⟩,
         ⟨(some 47), none, .mv (.t 10)⟩,
         ⟨(some 48), none, .bin .leq false (.t 46) (.t 47)⟩,
         ⟨(some 49), none, .mv (.t 48)⟩,
         ⟨(some 50), (some (49, true)), .mv (.t 0)⟩,
         ⟨(some 51), (some (49, true)), .mv (.t 1)⟩,
         ⟨(some 52), (some (49, true)), .ias 1 (.t 50) (.t 51)⟩,
         ⟨(some 53), (some (49, true)), .load false 1 (.t 52)⟩,
         ⟨(some 54), (some (49, true)), .mv (.t 0)⟩,
         ⟨(some 55), (some (49, true)), .mv (.t 10)⟩,
         ⟨(some 56), (some (49, true)), .ias 1 (.t 54) (.t 55)⟩,
         ⟨(some 57), (some (49, true)), .load false 1 (.t 56)⟩,
         ⟨(some 58), (some (49, true)), .call 82 [(.t 53), (.t 57)]⟩,
         ⟨(some 59), none, .pick (.t 49) (.t 58) (.c (.raw (.bool false)))⟩] [
         ])
       (.cond (.t 59)
        .skip
        (.exit 4)))
       (.block 5
        (.ops [
          ⟨(some 60), none, .mv (.t 10)⟩,
          ⟨(some 61), none, .bin .sub false (.t 60) (.c (.raw (.int .i64 (1))))⟩,
          ⟨(some 10), none, .mv (.t 61)⟩])))))
     (.seq (.seq (.ops [
       ⟨(some 62), none, .mv (.t 9)⟩,
       ⟨(some 63), none, .mv (.t 10)⟩,
       ⟨(some 64), none, .bin .gtr false (.t 62) (.t 63)⟩])
     (.cond (.t 64)
      (.exit 0)
      .skip))
     (.seq (.seg [([
       ⟨(some 65), none, .mv (.t 0)⟩,
       ⟨(some 66), none, .mv (.t 9)⟩,
       ⟨(some 67), none, .mv (.t 0)⟩,
       ⟨(some 68), none, .mv (.t 10)⟩,
       ⟨(some 69), none, .mv (.t 0)⟩,
       ⟨(some 70), none, .mv (.t 10)⟩,
       ⟨(some 71), none, .ias 1 (.t 69) (.t 70)⟩,
       ⟨(some 72), none, .load false 1 (.t 71)⟩,
       ⟨(some 73), none, .mv (.t 0)⟩,
       ⟨(some 74), none, .mv (.t 9)⟩,
       ⟨(some 75), none, .ias 1 (.t 73) (.t 74)⟩,
       ⟨(some 76), none, .load false 1 (.t 75)⟩,
       ⟨(some 77), none, .ias 1 (.t 65) (.t 66)⟩], .store 1 (.t 77) (.t 72)),
     ([
       ⟨(some 78), none, .ias 1 (.t 67) (.t 68)⟩], .store 1 (.t 78) (.t 76))] [
       ])
     (.seq (.ops [
       ⟨(some 79), none, .mv (.t 9)⟩,
       ⟨(some 80), none, .bin .add false (.t 79) (.c (.raw (.int .i64 (1))))⟩,
       ⟨(some 9), none, .mv (.t 80)⟩])
     (.ops [
       ⟨(some 81), none, .mv (.t 10)⟩,
       ⟨(some 82), none, .bin .sub false (.t 81) (.c (.raw (.int .i64 (1))))⟩,
       ⟨(some 10), none, .mv (.t 82)⟩])))))))))
  (.seq (.ops [
    ⟨(some 83), none, .mv (.t 9)⟩,
    ⟨(some 8), none, .mv (.t 83)⟩])
  .ret)))))
def f83 : DFn := ⟨d83, [.tmp 8], 84⟩
theorem h83 : decFn Try.prog 83 = some f83 := by kernel_rfl

def d84 : DCode :=
  (.seq (.ops [
    ⟨(some 8), none, .mv (.c (.raw (.int .i64 (0))))⟩,
    ⟨(some 9), none, .mv (.c (.raw (.bool false)))⟩])
  (.seq (.seg [([
    ⟨(some 12), none, .mv (.t 0)⟩,
    ⟨(some 13), none, .mv (.t 1)⟩,
    ⟨(some 14), none, .mv (.t 0)⟩,
    ⟨(some 15), none, .mv (.t 3)⟩,
    ⟨(some 16), none, .mv (.t 0)⟩,
    ⟨(some 17), none, .mv (.t 3)⟩,
    ⟨(some 18), none, .ias 1 (.t 16) (.t 17)⟩,
    ⟨(some 19), none, .load false 1 (.t 18)⟩,
    ⟨(some 20), none, .mv (.t 0)⟩,
    ⟨(some 21), none, .mv (.t 1)⟩,
    ⟨(some 22), none, .ias 1 (.t 20) (.t 21)⟩,
    ⟨(some 23), none, .load false 1 (.t 22)⟩,
    ⟨(some 24), none, .ias 1 (.t 12) (.t 13)⟩], .store 1 (.t 24) (.t 19)),
  ([
    ⟨(some 25), none, .ias 1 (.t 14) (.t 15)⟩], .store 1 (.t 25) (.t 23))] [
    ])
  (.seq (.ops [
    ⟨(some 26), none, .mv (.t 1)⟩,
    ⟨(some 27), none, .bin .add false (.t 26) (.c (.raw (.int .i64 (1))))⟩,
    ⟨(some 28), none, .mv (.t 2)⟩,
    ⟨(some 29), none, .bin .sub false (.t 28) (.c (.raw (.int .i64 (1))))⟩,
    ⟨(some 10), none, .mv (.t 27)⟩,
    ⟨(some 11), none, .mv (.t 29)⟩])
  (.seq (.block 0
   (.loop
    (.seq (.seq (.drw [
      ⟨(some 30), none, .mv (.t 10)⟩,
      ⟨(some 31), none, .mv (.t 11)⟩,
      ⟨(some 32), none, .bin .leq false (.t 30) (.t 31)⟩,
      ⟨(some 33), none, .mv (.t 32)⟩,
      ⟨(some 34), (some (33, true)), .mv (.t 0)⟩,
      ⟨(some 35), (some (33, true)), .mv (.t 10)⟩,
      ⟨(some 36), (some (33, true)), .ias 1 (.t 34) (.t 35)⟩,
      ⟨(some 37), (some (33, true)), .load false 1 (.t 36)⟩,
      ⟨(some 38), (some (33, true)), .mv (.t 0)⟩,
      ⟨(some 39), (some (33, true)), .mv (.t 1)⟩,
      ⟨(some 40), (some (33, true)), .ias 1 (.t 38) (.t 39)⟩,
      ⟨(some 41), (some (33, true)), .load false 1 (.t 40)⟩,
      ⟨(some 42), (some (33, true)), .call 82 [(.t 37), (.t 41)]⟩,
      ⟨(some 43), none, .pick (.t 33) (.t 42) (.c (.raw (.bool false)))⟩] [
      ])
    (.cond (.t 43)
     .skip
     (.exit 0)))
    (.block 1
     (.ops [
       ⟨(some 44), none, .mv (.t 10)⟩,
       ⟨(some 45), none, .bin .add false (.t 44) (.c (.raw (.int .i64 (1))))⟩,
       ⟨(some 10), none, .mv (.t 45)⟩])))))
  (.seq (.block 2
   (.loop
    (.seq (.seq (.drw [
      ⟨(some 46), none, .mv (.t 10)⟩,
      ⟨(some 47), none, .mv (.t 11)⟩,
      ⟨(some 48), none, .bin .leq false (.t 46) (.t 47)⟩,
      ⟨(some 49), none, .mv (.t 48)⟩,
      ⟨(some 50), (some (49, true)), .mv (.t 0)⟩,
      ⟨(some 51), (some (49, true)), .mv (.t 11)⟩,
      ⟨(some 52), (some (49, true)), .ias 1 (.t 50) (.t 51)⟩,
      ⟨(some 53), (some (49, true)), .load false 1 (.t 52)⟩,
      ⟨(some 54), (some (49, true)), .mv (.t 0)⟩,
      ⟨(some 55), (some (49, true)), .mv (.t 1)⟩,
      ⟨(some 56), (some (49, true)), .ias 1 (.t 54) (.t 55)⟩,
      ⟨(some 57), (some (49, true)), .load false 1 (.t 56)⟩,
      ⟨(some 58), (some (49, true)), .call 82 [(.t 53), (.t 57)]⟩,
      ⟨(some 59), (some (49, true)), .un .not (.t 58)⟩,
      ⟨(some 60), none, .pick (.t 49) (.t 59) (.c (.raw (.bool false)))⟩] [
      ])
    (.cond (.t 60)
     .skip
     (.exit 2)))
    (.block 3
     (.ops [
       ⟨(some 61), none, .mv (.t 11)⟩,
       ⟨(some 62), none, .bin .sub false (.t 61) (.c (.raw (.int .i64 (1))))⟩,
       ⟨(some 11), none, .mv (.t 62)⟩])))))
  (.seq (.seq (.ops [
    ⟨(some 63), none, .mv (.t 10)⟩,
    ⟨(some 64), none, .mv (.t 11)⟩,
    ⟨(some 65), none, .bin .gtr false (.t 63) (.t 64)⟩])
  (.cond (.t 65)
   (.seq (.seg [([
     ⟨(some 66), none, .mv (.t 0)⟩,
     ⟨(some 67), none, .mv (.t 11)⟩,
     ⟨(some 68), none, .mv (.t 0)⟩,
     ⟨(some 69), none, .mv (.t 1)⟩,
     ⟨(some 70), none, .mv (.t 0)⟩,
     ⟨(some 71), none, .mv (.t 1)⟩,
     ⟨(some 72), none, .ias 1 (.t 70) (.t 71)⟩,
     ⟨(some 73), none, .load false 1 (.t 72)⟩,
     ⟨(some 74), none, .mv (.t 0)⟩,
     ⟨(some 75), none, .mv (.t 11)⟩,
     ⟨(some 76), none, .ias 1 (.t 74) (.t 75)⟩,
     ⟨(some 77), none, .load false 1 (.t 76)⟩,
     ⟨(some 78), none, .ias 1 (.t 66) (.t 67)⟩], .store 1 (.t 78) (.t 73)),
   ([
     ⟨(some 79), none, .ias 1 (.t 68) (.t 69)⟩], .store 1 (.t 79) (.t 77))] [
     ])
   (.seq (.ops [
     ⟨(some 80), none, .mv (.t 11)⟩,
     ⟨(some 8), none, .mv (.t 80)⟩,
     ⟨(some 9), none, .mv (.c (.raw (.bool true)))⟩])
   .ret))
   .skip))
  (.seq (.seg [([
    ⟨(some 81), none, .mv (.t 0)⟩,
    ⟨(some 82), none, .mv (.t 10)⟩,
    ⟨(some 83), none, .mv (.t 0)⟩,
    ⟨(some 84), none, .mv (.t 11)⟩,
    ⟨(some 85), none, .mv (.t 0)⟩,
    ⟨(some 86), none, .mv (.t 11)⟩,
    ⟨(some 87), none, .ias 1 (.t 85) (.t 86)⟩,
    ⟨(some 88), none, .load false 1 (.t 87)⟩,
    ⟨(some 89), none, .mv (.t 0)⟩,
    ⟨(some 90), none, .mv (.t 10)⟩,
    ⟨(some 91), none, .ias 1 (.t 89) (.t 90)⟩,
    ⟨(some 92), none, .load false 1 (.t 91)⟩,
    ⟨(some 93), none, .ias 1 (.t 81) (.t 82)⟩], .store 1 (.t 93) (.t 88)),
  ([
    ⟨(some 94), none, .ias 1 (.t 83) (.t 84)⟩], .store 1 (.t 94) (.t 92))] [
    ])
  (.seq (.ops [
    ⟨(some 95), none, .mv (.t 10)⟩,
    ⟨(some 96), none, .bin .add false (.t 95) (.c (.raw (.int .i64 (1))))⟩,
    ⟨(some 10), none, .mv (.t 96)⟩])
  (.seq (.ops [
    ⟨(some 97), none, .mv (.t 11)⟩,
    ⟨(some 98), none, .bin .sub false (.t 97) (.c (.raw (.int .i64 (1))))⟩,
    ⟨(some 11), none, .mv (.t 98)⟩])
  (.seq (.block 4
   (.loop
    (.block 5
     (.seq (.block 6
      (.loop
       (.seq (.seq (.drw [
         ⟨(some 99), none, .mv (.t 10)⟩,
         ⟨(some 100), none, .mv (.t 11)⟩,
         ⟨(some 101), none, .bin .leq false (.t 99) (.t 100)⟩,
         ⟨(some 102), none, .mv (.t 101)⟩,
         ⟨(some 103), (some (102, true)), .mv (.t 0)⟩,
         ⟨(some 104), (some (102, true)), .mv (.t 10)⟩,
         ⟨(some 105), (some (102, true)), .ias 1 (.t 103) (.t 104)⟩,
         ⟨(some 106), (some (102, true)), .load false 1 (.t 105)⟩,
         ⟨(some 107), (some (102, true)), .mv (.t 0)⟩,
         ⟨(some 108), (some (102, true)), .mv (.t 1)⟩,
         ⟨(some 109), (some (102, true)), .ias 1 (.t 107) (.t 108)⟩,
         ⟨(some 110), (some (102, true)), .load false 1 (.t 109)⟩,
         ⟨(some 111), (some (102, true)), .call 82 [(.t 106), (.t 110)]⟩,
         ⟨(some 112), none, .pick (.t 102) (.t 111) (.c (.raw (.bool false)))⟩] [
         ])
       (.cond (.t 112)
        .skip
        (.exit 6)))
       (.block 7
        (.ops [
          ⟨(some 113), none, .mv (.t 10)⟩,
          ⟨(some 114), none, .bin .add false (.t 113) (.c (.raw (.int .i64 (1))))⟩,
          ⟨(some 10), none, .mv (.t 114)⟩])))))
     (.seq (.block 8
      (.loop
       (.seq (.seq (.drw [
         ⟨(some 115), none, .mv (.t 10)⟩,
         ⟨(some 116), none, .mv (.t 11)⟩,
         ⟨(some 117), none, .bin .leq false (.t 115) (.t 116)⟩,
         ⟨(some 118), none, .mv (.t 117)⟩,
         ⟨(some 119), (some (118, true)), .mv (.t 0)⟩,
         ⟨(some 120), (some (118, true)), .mv (.t 11)⟩,
         ⟨(some 121), (some (118, true)), .ias 1 (.t 119) (.t 120)⟩,
         ⟨(some 122), (some (118, true)), .load false 1 (.t 121)⟩,
         ⟨(some 123), (some (118, true)), .mv (.t 0)⟩,
         ⟨(some 124), (some (118, true)), .mv (.t 1)⟩,
         ⟨(some 125), (some (118, true)), .ias 1 (.t 123) (.t 124)⟩,
         ⟨(some 126), (some (118, true)), .load false 1 (.t 125)⟩,
         ⟨(some 127), (some (118, true)), .call 82 [(.t 122), (.t 126)]⟩,
         ⟨(some 128), (some (118, true)), .un .not (.t 127)⟩,
         ⟨(some 129), none, .pick (.t 118) (.t 128) (.c (.raw (.bool false)))⟩] [
         ])
       (.cond (.t 129)
        .skip
        (.exit 8)))
       (.block 9
        (.ops [
          ⟨(some 130), none, .mv (.t 11)⟩,
          ⟨(some 131), none, .bin .sub false (.t 130) (.c (.raw (.int .i64 (1))))⟩,
          ⟨(some 11), none, .mv (.t 131)⟩])))))
     (.seq (.seq (.ops [
       ⟨(some 132), none, .mv (.t 10)⟩,
       ⟨(some 133), none, .mv (.t 11)⟩,
       ⟨(some 134), none, .bin .gtr false (.t 132) (.t 133)⟩])
     (.cond (.t 134)
      (.exit 4)
      .skip))
     (.seq (.seg [([
       ⟨(some 135), none, .mv (.t 0)⟩,
       ⟨(some 136), none, .mv (.t 10)⟩,
       ⟨(some 137), none, .mv (.t 0)⟩,
       ⟨(some 138), none, .mv (.t 11)⟩,
       ⟨(some 139), none, .mv (.t 0)⟩,
       ⟨(some 140), none, .mv (.t 11)⟩,
       ⟨(some 141), none, .ias 1 (.t 139) (.t 140)⟩,
       ⟨(some 142), none, .load false 1 (.t 141)⟩,
       ⟨(some 143), none, .mv (.t 0)⟩,
       ⟨(some 144), none, .mv (.t 10)⟩,
       ⟨(some 145), none, .ias 1 (.t 143) (.t 144)⟩,
       ⟨(some 146), none, .load false 1 (.t 145)⟩,
       ⟨(some 147), none, .ias 1 (.t 135) (.t 136)⟩], .store 1 (.t 147) (.t 142)),
     ([
       ⟨(some 148), none, .ias 1 (.t 137) (.t 138)⟩], .store 1 (.t 148) (.t 146))] [
       ])
     (.seq (.ops [
       ⟨(some 149), none, .mv (.t 10)⟩,
       ⟨(some 150), none, .bin .add false (.t 149) (.c (.raw (.int .i64 (1))))⟩,
       ⟨(some 10), none, .mv (.t 150)⟩])
     (.ops [
       ⟨(some 151), none, .mv (.t 11)⟩,
       ⟨(some 152), none, .bin .sub false (.t 151) (.c (.raw (.int .i64 (1))))⟩,
       ⟨(some 11), none, .mv (.t 152)⟩])))))))))
  (.seq (.seg [([
    ⟨(some 153), none, .mv (.t 0)⟩,
    ⟨(some 154), none, .mv (.t 11)⟩,
    ⟨(some 155), none, .mv (.t 0)⟩,
    ⟨(some 156), none, .mv (.t 1)⟩,
    ⟨(some 157), none, .mv (.t 0)⟩,
    ⟨(some 158), none, .mv (.t 1)⟩,
    ⟨(some 159), none, .ias 1 (.t 157) (.t 158)⟩,
    ⟨(some 160), none, .load false 1 (.t 159)⟩,
    ⟨(some 161), none, .mv (.t 0)⟩,
    ⟨(some 162), none, .mv (.t 11)⟩,
    ⟨(some 163), none, .ias 1 (.t 161) (.t 162)⟩,
    ⟨(some 164), none, .load false 1 (.t 163)⟩,
    ⟨(some 165), none, .ias 1 (.t 153) (.t 154)⟩], .store 1 (.t 165) (.t 160)),
  ([
    ⟨(some 166), none, .ias 1 (.t 155) (.t 156)⟩], .store 1 (.t 166) (.t 164))] [
    ])
  (.seq (.ops [
    ⟨(some 167), none, .mv (.t 11)⟩,
    ⟨(some 8), none, .mv (.t 167)⟩,
    ⟨(some 9), none, .mv (.c (.raw (.bool false)))⟩])
  .ret))))))))))))
def f84 : DFn := ⟨d84, [.tmp 8, .tmp 9], 168⟩
theorem h84 : decFn Try.prog 84 = some f84 := by kernel_rfl

def d85 : DCode :=
  (.seq (.ops [
    ⟨(some 2), none, .mv (.c (.raw (.int .i64 (0))))⟩])
  (.seq (.seq (.ops [
    ⟨(some 3), none, .mv (.t 0)⟩,
    ⟨(some 4), none, .bin .geq false (.t 3) (.c (.raw (.int .u32 (65536))))⟩])
  (.cond (.t 4)
   (.seq (.ops [
     ⟨(some 5), none, .mv (.t 0)⟩,
     ⟨(some 6), none, .bin .shr false (.t 5) (.c (.raw (.int .u64 (16))))⟩,
     ⟨(some 0), none, .mv (.t 6)⟩])
   (.ops [
     ⟨(some 2), none, .mv (.c (.raw (.int .i64 (16))))⟩]))
   .skip))
  (.seq (.seq (.ops [
    ⟨(some 7), none, .mv (.t 0)⟩,
    ⟨(some 8), none, .bin .geq false (.t 7) (.c (.raw (.int .u32 (256))))⟩])
  (.cond (.t 8)
   (.seq (.ops [
     ⟨(some 9), none, .mv (.t 0)⟩,
     ⟨(some 10), none, .bin .shr false (.t 9) (.c (.raw (.int .u64 (8))))⟩,
     ⟨(some 0), none, .mv (.t 10)⟩])
   (.ops [
     ⟨(some 11), none, .mv (.t 2)⟩,
     ⟨(some 12), none, .bin .add false (.t 11) (.c (.raw (.int .i64 (8))))⟩,
     ⟨(some 2), none, .mv (.t 12)⟩]))
   .skip))
  (.seq (.ops [
    ⟨(some 13), none, .mv (.t 2)⟩,
    ⟨(some 14), none, .mv (.t 0)⟩,
    ⟨(some 15), none, .cvI .u8 (.t 14)⟩,
    ⟨(some 16), none, .six [0, 1, 2, 2, 3, 3, 3, 3, 4, 4, 4, 4, 4, 4, 4, 4, 5, 5, 5, 5, 5, 5, 5, 5, 5, 5, 5, 5, 5, 5, 5, 5, 6, 6, 6, 6, 6, 6, 6, 6, 6, 6, 6, 6, 6, 6, 6, 6, 6, 6, 6, 6, 6, 6, 6, 6, 6, 6, 6, 6, 6, 6, 6, 6, 7, 7, 7, 7, 7, 7, 7, 7, 7, 7, 7, 7, 7, 7, 7, 7, 7, 7, 7, 7, 7, 7, 7, 7, 7, 7, 7, 7, 7, 7, 7, 7, 7, 7, 7, 7, 7, 7, 7, 7, 7, 7, 7, 7, 7, 7, 7, 7, 7, 7, 7, 7, 7, 7, 7, 7, 7, 7, 7, 7, 7, 7, 7, 7, 8, 8, 8, 8, 8, 8, 8, 8, 8, 8, 8, 8, 8, 8, 8, 8, 8, 8, 8, 8, 8, 8, 8, 8, 8, 8, 8, 8, 8, 8, 8, 8, 8, 8, 8, 8, 8, 8, 8, 8, 8, 8, 8, 8, 8, 8, 8, 8, 8, 8, 8, 8, 8, 8, 8, 8, 8, 8, 8, 8, 8, 8, 8, 8, 8, 8, 8, 8, 8, 8, 8, 8, 8, 8, 8, 8, 8, 8, 8, 8, 8, 8, 8, 8, 8, 8, 8, 8, 8, 8, 8, 8, 8, 8, 8, 8, 8, 8, 8, 8, 8, 8, 8, 8, 8, 8, 8, 8, 8, 8, 8, 8, 8, 8, 8, 8, 8, 8, 8, 8, 8, 8, 8, 8, 8, 8, 8, 8] (.t 15)⟩,
    ⟨(some 17), none, .cvI .i64 (.t 16)⟩,
    ⟨(some 18), none, .bin .add false (.t 13) (.t 17)⟩,
    ⟨(some 2), none, .mv (.t 18)⟩])
  .ret))))
def f85 : DFn := ⟨d85, [.tmp 2], 19⟩
theorem h85 : decFn Try.prog 85 = some f85 := by kernel_rfl

def d86 : DCode :=
  (.seq (.ops [
    ⟨(some 2), none, .mv (.c (.raw (.int .i64 (0))))⟩])
  (.seq (.seq (.ops [
    ⟨(some 3), none, .mv (.t 0)⟩,
    ⟨(some 4), none, .bin .geq false (.t 3) (.c (.raw (.int .u64 (4294967296))))⟩])
  (.cond (.t 4)
   (.seq (.ops [
     ⟨(some 5), none, .mv (.t 0)⟩,
     ⟨(some 6), none, .bin .shr false (.t 5) (.c (.raw (.int .u64 (32))))⟩,
     ⟨(some 0), none, .mv (.t 6)⟩])
   (.ops [
     ⟨(some 2), none, .mv (.c (.raw (.int .i64 (32))))⟩]))
   .skip))
  (.seq (.seq (.ops [
    ⟨(some 7), none, .mv (.t 0)⟩,
    ⟨(some 8), none, .bin .geq false (.t 7) (.c (.raw (.int .u64 (65536))))⟩])
  (.cond (.t 8)
   (.seq (.ops [
     ⟨(some 9), none, .mv (.t 0)⟩,
     ⟨(some 10), none, .bin .shr false (.t 9) (.c (.raw (.int .u64 (16))))⟩,
     ⟨(some 0), none, .mv (.t 10)⟩])
   (.ops [
     ⟨(some 11), none, .mv (.t 2)⟩,
     ⟨(some 12), none, .bin .add false (.t 11) (.c (.raw (.int .i64 (16))))⟩,
     ⟨(some 2), none, .mv (.t 12)⟩]))
   .skip))
  (.seq (.seq (.ops [
    ⟨(some 13), none, .mv (.t 0)⟩,
    ⟨(some 14), none, .bin .geq false (.t 13) (.c (.raw (.int .u64 (256))))⟩])
  (.cond (.t 14)
   (.seq (.ops [
     ⟨(some 15), none, .mv (.t 0)⟩,
     ⟨(some 16), none, .bin .shr false (.t 15) (.c (.raw (.int .u64 (8))))⟩,
     ⟨(some 0), none, .mv (.t 16)⟩])
   (.ops [
     ⟨(some 17), none, .mv (.t 2)⟩,
     ⟨(some 18), none, .bin .add false (.t 17) (.c (.raw (.int .i64 (8))))⟩,
     ⟨(some 2), none, .mv (.t 18)⟩]))
   .skip))
  (.seq (.ops [
    ⟨(some 19), none, .mv (.t 2)⟩,
    ⟨(some 20), none, .mv (.t 0)⟩,
    ⟨(some 21), none, .cvI .u8 (.t 20)⟩,
    ⟨(some 22), none, .six [0, 1, 2, 2, 3, 3, 3, 3, 4, 4, 4, 4, 4, 4, 4, 4, 5, 5, 5, 5, 5, 5, 5, 5, 5, 5, 5, 5, 5, 5, 5, 5, 6, 6, 6, 6, 6, 6, 6, 6, 6, 6, 6, 6, 6, 6, 6, 6, 6, 6, 6, 6, 6, 6, 6, 6, 6, 6, 6, 6, 6, 6, 6, 6, 7, 7, 7, 7, 7, 7, 7, 7, 7, 7, 7, 7, 7, 7, 7, 7, 7, 7, 7, 7, 7, 7, 7, 7, 7, 7, 7, 7, 7, 7, 7, 7, 7, 7, 7, 7, 7, 7, 7, 7, 7, 7, 7, 7, 7, 7, 7, 7, 7, 7, 7, 7, 7, 7, 7, 7, 7, 7, 7, 7, 7, 7, 7, 7, 8, 8, 8, 8, 8, 8, 8, 8, 8, 8, 8, 8, 8, 8, 8, 8, 8, 8, 8, 8, 8, 8, 8, 8, 8, 8, 8, 8, 8, 8, 8, 8, 8, 8, 8, 8, 8, 8, 8, 8, 8, 8, 8, 8, 8, 8, 8, 8, 8, 8, 8, 8, 8, 8, 8, 8, 8, 8, 8, 8, 8, 8, 8, 8, 8, 8, 8, 8, 8, 8, 8, 8, 8, 8, 8, 8, 8, 8, 8, 8, 8, 8, 8, 8, 8, 8, 8, 8, 8, 8, 8, 8, 8, 8, 8, 8, 8, 8, 8, 8, 8, 8, 8, 8, 8, 8, 8, 8, 8, 8, 8, 8, 8, 8, 8, 8, 8, 8, 8, 8, 8, 8, 8, 8, 8, 8, 8, 8] (.t 21)⟩,
    ⟨(some 23), none, .cvI .i64 (.t 22)⟩,
    ⟨(some 24), none, .bin .add false (.t 19) (.t 23)⟩,
    ⟨(some 2), none, .mv (.t 24)⟩])
  .ret)))))
def f86 : DFn := ⟨d86, [.tmp 2], 25⟩
theorem h86 : decFn Try.prog 86 = some f86 := by kernel_rfl

def d87 : DCode :=
  (.seq (.ops [
    ⟨(some 10), none, .mv (.t 1)⟩,
    ⟨(some 8), none, .mv (.t 10)⟩])
  (.block 0
   (.loop
    (.block 1
     (.seq (.ops [
       ⟨(some 11), none, .mv (.t 8)⟩,
       ⟨(some 12), none, .bin .mul false (.c (.raw (.int .i64 (2)))) (.t 11)⟩,
       ⟨(some 13), none, .bin .add false (.t 12) (.c (.raw (.int .i64 (1))))⟩,
       ⟨(some 9), none, .mv (.t 13)⟩])
     (.seq (.seq (.ops [
       ⟨(some 14), none, .mv (.t 9)⟩,
       ⟨(some 15), none, .mv (.t 2)⟩,
       ⟨(some 16), none, .bin .geq false (.t 14) (.t 15)⟩])
     (.cond (.t 16)
      (.exit 0)
      .skip))
     (.seq (.seq (.drw [
       ⟨(some 17), none, .mv (.t 9)⟩,
       ⟨(some 18), none, .bin .add false (.t 17) (.c (.raw (.int .i64 (1))))⟩,
       ⟨(some 19), none, .mv (.t 2)⟩,
       ⟨(some 20), none, .bin .lss false (.t 18) (.t 19)⟩,
       ⟨(some 21), none, .mv (.t 20)⟩,
       ⟨(some 22), (some (21, true)), .mv (.t 0)⟩,
       ⟨(some 23), (some (21, true)), .mv (.t 3)⟩,
       ⟨(some 24), (some (21, true)), .mv (.t 9)⟩,
       ⟨(some 25), (some (21, true)), .bin .add false (.t 23) (.t 24)⟩,
       ⟨(some 26), (some (21, true)), .ias 1 (.t 22) (.t 25)⟩,
       ⟨(some 27), (some (21, true)), .load false 1 (.t 26)⟩,
       ⟨(some 28), (some (21, true)), .mv (.t 0)⟩,
       ⟨(some 29), (some (21, true)), .mv (.t 3)⟩,
       ⟨(some 30), (some (21, true)), .mv (.t 9)⟩,
       ⟨(some 31), (some (21, true)), .bin .add false (.t 29) (.t 30)⟩,
       ⟨(some 32), (some (21, true)), .bin .add false (.t 31) (.c (.raw (.int .i64 (1))))⟩,
       ⟨(some 33), (some (21, true)), .ias 1 (.t 28) (.t 32)⟩,
       ⟨(some 34), (some (21, true)), .load false 1 (.t 33)⟩,
       ⟨(some 35), (some (21, true)), .call 82 [(.t 27), (.t 34)]⟩,
       ⟨(some 36), none, .pick (.t 21) (.t 35) (.c (.raw (.bool false)))⟩] [
       ])
     (.cond (.t 36)
      (.ops [
        ⟨(some 37), none, .mv (.t 9)⟩,
        ⟨(some 38), none, .bin .add false (.t 37) (.c (.raw (.int .i64 (1))))⟩,
        ⟨(some 9), none, .mv (.t 38)⟩])
      .skip))
     (.seq (.seq (.drw [
       ⟨(some 39), none, .mv (.t 0)⟩,
       ⟨(some 40), none, .mv (.t 3)⟩,
       ⟨(some 41), none, .mv (.t 8)⟩,
       ⟨(some 42), none, .bin .add false (.t 40) (.t 41)⟩,
       ⟨(some 43), none, .ias 1 (.t 39) (.t 42)⟩,
       ⟨(some 44), none, .load false 1 (.t 43)⟩,
       ⟨(some 45), none, .mv (.t 0)⟩,
       ⟨(some 46), none, .mv (.t 3)⟩,
       ⟨(some 47), none, .mv (.t 9)⟩,
       ⟨(some 48), none, .bin .add false (.t 46) (.t 47)⟩,
       ⟨(some 49), none, .ias 1 (.t 45) (.t 48)⟩,
       ⟨(some 50), none, .load false 1 (.t 49)⟩,
       ⟨(some 51), none, .call 82 [(.t 44), (.t 50)]⟩,
       ⟨(some 52), none, .un .not (.t 51)⟩] [
       ])
     (.cond (.t 52)
      .ret
      .skip))
     (.seq (.seg [([
       ⟨(some 53), none, .mv (.t 0)⟩,
       ⟨(some 54), none, .mv (.t 3)⟩,
       ⟨(some 55), none, .mv (.t 8)⟩,
       ⟨(some 56), none, .bin .add false (.t 54) (.t 55)⟩,
       ⟨(some 57), none, .mv (.t 0)⟩,
       ⟨(some 58), none, .mv (.t 3)⟩,
       ⟨(some 59), none, .mv (.t 9)⟩,
       ⟨(some 60), none, .bin .add false (.t 58) (.t 59)⟩,
       ⟨(some 61), none, .mv (.t 0)⟩,
       ⟨(some 62), none, .mv (.t 3)⟩,
       ⟨(some 63), none, .mv (.t 9)⟩,
       ⟨(some 64), none, .bin .add false (.t 62) (.t 63)⟩,
       ⟨(some 65), none, .ias 1 (.t 61) (.t 64)⟩,
       ⟨(some 66), none, .load false 1 (.t 65)⟩,
       ⟨(some 67), none, .mv (.t 0)⟩,
       ⟨(some 68), none, .mv (.t 3)⟩,
       ⟨(some 69), none, .mv (.t 8)⟩,
       ⟨(some 70), none, .bin .add false (.t 68) (.t 69)⟩,
       ⟨(some 71), none, .ias 1 (.t 67) (.t 70)⟩,
       ⟨(some 72), none, .load false 1 (.t 71)⟩,
       ⟨(some 73), none, .ias 1 (.t 53) (.t 56)⟩], .store 1 (.t 73) (.t 66)),
     ([
       ⟨(some 74), none, .ias 1 (.t 57) (.t 60)⟩], .store 1 (.t 74) (.t 72))] [
       ])
     (.ops [
       ⟨(some 75), none, .mv (.t 9)⟩,
       ⟨(some 8), none, .mv (.t 75)⟩]))))))))))
def f87 : DFn := ⟨d87, [], 76⟩
theorem h87 : decFn Try.prog 87 = some f87 := by kernel_rfl

def d88 : DCode :=
  (.seq (.ops [
    ⟨(some 2), none, .mv (.c (.raw (.int .u64 (0))))⟩])
  (.seq (.ops [
    ⟨(some 3), none, .mv (.t 0)⟩,
    ⟨(some 4), none, .cvI .u64 (.t 3)⟩,
    ⟨(some 5), none, .call 75 [(.t 4)]⟩,
    ⟨(some 6), none, .bin .shl false (.c (.raw (.int .u64 (1)))) (.t 5)⟩,
    ⟨(some 2), none, .mv (.t 6)⟩])
  .ret))
def f88 : DFn := ⟨d88, [.tmp 2], 7⟩
theorem h88 : decFn Try.prog 88 = some f88 := by kernel_rfl

def d89 : DCode :=
  (.seq (.ops [
    ⟨(some 2), none, .mv (.c (.raw (.int .u64 (0))))⟩])
  (.seq (.drw [
    ⟨(some 3), none, .mv (.t 0)⟩,
    ⟨(some 4), none, .nck (.t 3)⟩,
    ⟨(some 5), none, .load false 1 (.t 4)⟩,
    ⟨(some 6), none, .mv (.t 0)⟩,
    ⟨(some 7), none, .nck (.t 6)⟩,
    ⟨(some 8), none, .load false 1 (.t 7)⟩,
    ⟨(some 9), none, .bin .shl false (.t 8) (.c (.raw (.int .u64 (13))))⟩,
    ⟨(some 10), none, .bin .xor false (.t 5) (.t 9)⟩,
    ⟨(some 11), none, .nck (.t 3)⟩] [
    ⟨none, none, .store 1 (.t 11) (.t 10)⟩])
  (.seq (.drw [
    ⟨(some 12), none, .mv (.t 0)⟩,
    ⟨(some 13), none, .nck (.t 12)⟩,
    ⟨(some 14), none, .load false 1 (.t 13)⟩,
    ⟨(some 15), none, .mv (.t 0)⟩,
    ⟨(some 16), none, .nck (.t 15)⟩,
    ⟨(some 17), none, .load false 1 (.t 16)⟩,
    ⟨(some 18), none, .bin .shr false (.t 17) (.c (.raw (.int .u64 (7))))⟩,
    ⟨(some 19), none, .bin .xor false (.t 14) (.t 18)⟩,
    ⟨(some 20), none, .nck (.t 12)⟩] [
    ⟨none, none, .store 1 (.t 20) (.t 19)⟩])
  (.seq (.drw [
    ⟨(some 21), none, .mv (.t 0)⟩,
    ⟨(some 22), none, .nck (.t 21)⟩,
    ⟨(some 23), none, .load false 1 (.t 22)⟩,
    ⟨(some 24), none, .mv (.t 0)⟩,
    ⟨(some 25), none, .nck (.t 24)⟩,
    ⟨(some 26), none, .load false 1 (.t 25)⟩,
    ⟨(some 27), none, .bin .shl false (.t 26) (.c (.raw (.int .u64 (17))))⟩,
    ⟨(some 28), none, .bin .xor false (.t 23) (.t 27)⟩,
    ⟨(some 29), none, .nck (.t 21)⟩] [
    ⟨none, none, .store 1 (.t 29) (.t 28)⟩])
  (.seq (.ops [
    ⟨(some 30), none, .mv (.t 0)⟩,
    ⟨(some 31), none, .nck (.t 30)⟩,
    ⟨(some 32), none, .load false 1 (.t 31)⟩,
    ⟨(some 2), none, .mv (.t 32)⟩])
  .ret)))))
def f89 : DFn := ⟨d89, [.tmp 2], 33⟩
theorem h89 : decFn Try.prog 89 = some f89 := by kernel_rfl

def d90 : DCode :=
  (.seq (.ops [
    ⟨(some 6), none, .mv (.c (.raw (.int .i64 (0))))⟩])
  (.seq (.ops [
    ⟨(some 7), none, .mv (.t 0)⟩,
    ⟨(some 8), none, .mv (.t 1)⟩,
    ⟨(some 9), none, .bin .sub false (.t 8) (.c (.raw (.int .i64 (1))))⟩,
    ⟨(some 10), none, .mv (.t 1)⟩,
    ⟨(some 11), none, .mv (.t 1)⟩,
    ⟨(some 12), none, .bin .add false (.t 11) (.c (.raw (.int .i64 (1))))⟩,
    ⟨(some 13), none, .mv (.t 2)⟩,
    ⟨(some 14), none, .call 91 [(.t 7), (.t 9), (.t 10), (.t 12), (.t 13)]⟩,
    ⟨(some 6), none, .mv (.t 14)⟩])
  .ret))
def f90 : DFn := ⟨d90, [.tmp 6], 15⟩
theorem h90 : decFn Try.prog 90 = some f90 := by kernel_rfl

def d91 : DCode :=
  (.seq (.ops [
    ⟨(some 10), none, .mv (.c (.raw (.int .i64 (0))))⟩])
  (.seq (.ops [
    ⟨(some 12), none, .mv (.t 0)⟩,
    ⟨(some 13), none, .mv (.t 1)⟩,
    ⟨(some 14), none, .mv (.t 2)⟩,
    ⟨(some 15), none, .mv (.t 4)⟩,
    ⟨(some 16), none, .call 93 [(.t 12), (.t 13), (.t 14), (.t 15)]⟩,
    ⟨(some 11), none, .mv (.t 16)⟩,
    ⟨(some 17), none, .ext (.t 11) 0⟩,
    ⟨(some 18), none, .ext (.t 11) 1⟩,
    ⟨(some 1), none, .mv (.t 17)⟩,
    ⟨(some 2), none, .mv (.t 18)⟩])
  (.seq (.ops [
    ⟨(some 20), none, .mv (.t 0)⟩,
    ⟨(some 21), none, .mv (.t 2)⟩,
    ⟨(some 22), none, .mv (.t 3)⟩,
    ⟨(some 23), none, .mv (.t 4)⟩,
    ⟨(some 24), none, .call 93 [(.t 20), (.t 21), (.t 22), (.t 23)]⟩,
    ⟨(some 19), none, .mv (.t 24)⟩,
    ⟨(some 25), none, .ext (.t 19) 0⟩,
    ⟨(some 26), none, .ext (.t 19) 1⟩,
    ⟨(some 2), none, .mv (.t 25)⟩,
    ⟨(some 3), none, .mv (.t 26)⟩])
  (.seq (.ops [
    ⟨(some 28), none, .mv (.t 0)⟩,
    ⟨(some 29), none, .mv (.t 1)⟩,
    ⟨(some 30), none, .mv (.t 2)⟩,
    ⟨(some 31), none, .mv (.t 4)⟩,
    ⟨(some 32), none, .call 93 [(.t 28), (.t 29), (.t 30), (.t 31)]⟩,
    ⟨(some 27), none, .mv (.t 32)⟩,
    ⟨(some 33), none, .ext (.t 27) 0⟩,
    ⟨(some 34), none, .ext (.t 27) 1⟩,
    ⟨(some 1), none, .mv (.t 33)⟩,
    ⟨(some 2), none, .mv (.t 34)⟩])
  (.seq (.ops [
    ⟨(some 35), none, .mv (.t 2)⟩,
    ⟨(some 10), none, .mv (.t 35)⟩])
  .ret)))))
def f91 : DFn := ⟨d91, [.tmp 10], 36⟩
theorem h91 : decFn Try.prog 91 = some f91 := by kernel_rfl

def d92 : DCode :=
  (.seq (.ops [
    ⟨(some 2), none, .mv (.c (.raw (.bool false)))⟩])
  (.seq (.ops [
    ⟨(some 3), none, .mv (.t 0)⟩,
    ⟨(some 4), none, .mv (.t 0)⟩,
    ⟨(some 5), none, .bin .neq false (.t 3) (.t 4)⟩,
    ⟨(some 2), none, .mv (.t 5)⟩])
  .ret))
def f92 : DFn := ⟨d92, [.tmp 2], 6⟩
theorem h92 : decFn Try.prog 92 = some f92 := by kernel_rfl

def d93 : DCode :=
  (.seq (.ops [
    ⟨(some 8), none, .mv (.c (.raw (.int .i64 (0))))⟩,
    ⟨(some 9), none, .mv (.c (.raw (.int .i64 (0))))⟩])
  (.seq (.seq (.drw [
    ⟨(some 10), none, .mv (.t 0)⟩,
    ⟨(some 11), none, .mv (.t 2)⟩,
    ⟨(some 12), none, .ias 1 (.t 10) (.t 11)⟩,
    ⟨(some 13), none, .load false 1 (.t 12)⟩,
    ⟨(some 14), none, .mv (.t 0)⟩,
    ⟨(some 15), none, .mv (.t 1)⟩,
    ⟨(some 16), none, .ias 1 (.t 14) (.t 15)⟩,
    ⟨(some 17), none, .load false 1 (.t 16)⟩,
    ⟨(some 18), none, .call 82 [(.t 13), (.t 17)]⟩] [
    ])
  (.cond (.t 18)
   (.seq (.ops [
     ⟨(some 19), none, .mv (.t 3)⟩,
     ⟨(some 20), none, .nck (.t 19)⟩,
     ⟨(some 21), none, .load false 1 (.t 20)⟩,
     ⟨(some 22), none, .bin .add false (.t 21) (.c (.raw (.int .i64 (1))))⟩,
     ⟨(some 23), none, .nck (.t 19)⟩,
     ⟨none, none, .store 1 (.t 23) (.t 22)⟩])
   (.seq (.ops [
     ⟨(some 24), none, .mv (.t 2)⟩,
     ⟨(some 25), none, .mv (.t 1)⟩,
     ⟨(some 8), none, .mv (.t 24)⟩,
     ⟨(some 9), none, .mv (.t 25)⟩])
   .ret))
   .skip))
  (.seq (.ops [
    ⟨(some 26), none, .mv (.t 1)⟩,
    ⟨(some 27), none, .mv (.t 2)⟩,
    ⟨(some 8), none, .mv (.t 26)⟩,
    ⟨(some 9), none, .mv (.t 27)⟩])
  .ret)))
def f93 : DFn := ⟨d93, [.tmp 8, .tmp 9], 28⟩
theorem h93 : decFn Try.prog 93 = some f93 := by kernel_rfl
end Go.Proofs.Ytfkbgfpidolhhaa
