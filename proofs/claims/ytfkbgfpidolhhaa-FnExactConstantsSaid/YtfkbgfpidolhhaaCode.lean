/- The functions that the laws reach, in the compact code, held against the program. -/
import Derived.Test.YtfkbgfpidolhhaaFwLoop
import Derived.Test.YtfkbgfpidolhhaaRows
namespace Go.Proofs.Ytfkbgfpidolhhaa
open Go Go.Fw
theorem hmix : Try.prog.follows .mixedOrders = true := by kernel_rfl

def d3 : DCode :=
  (.seq (.ops [
    ⟨(some 0), none, .mv (.c (.raw (.bool false)))⟩])
  (.seq (.cond (.c (.raw (.bool false)))
   (.seq (.ops [
     ⟨(some 0), none, .mv (.c (.raw (.bool false)))⟩])
   .ret)
   .skip)
  (.seq (.cond (.c (.raw (.bool false)))
   (.seq (.ops [
     ⟨(some 0), none, .mv (.c (.raw (.bool false)))⟩])
   .ret)
   .skip)
  (.seq (.cond (.c (.raw (.bool false)))
   (.seq (.ops [
     ⟨(some 0), none, .mv (.c (.raw (.bool false)))⟩])
   .ret)
   .skip)
  (.seq (.cond (.c (.raw (.bool false)))
   (.seq (.ops [
     ⟨(some 0), none, .mv (.c (.raw (.bool false)))⟩])
   .ret)
   .skip)
  (.seq (.cond (.c (.raw (.bool false)))
   (.seq (.ops [
     ⟨(some 0), none, .mv (.c (.raw (.bool false)))⟩])
   .ret)
   .skip)
  (.seq (.cond (.c (.raw (.bool false)))
   (.seq (.ops [
     ⟨(some 0), none, .mv (.c (.raw (.bool false)))⟩])
   .ret)
   .skip)
  (.seq (.cond (.c (.raw (.bool false)))
   (.seq (.ops [
     ⟨(some 0), none, .mv (.c (.raw (.bool false)))⟩])
   .ret)
   .skip)
  (.seq (.cond (.c (.raw (.bool false)))
   (.seq (.ops [
     ⟨(some 0), none, .mv (.c (.raw (.bool false)))⟩])
   .ret)
   .skip)
  (.seq (.cond (.c (.raw (.bool false)))
   (.seq (.ops [
     ⟨(some 0), none, .mv (.c (.raw (.bool false)))⟩])
   .ret)
   .skip)
  (.seq (.cond (.c (.raw (.bool false)))
   (.seq (.ops [
     ⟨(some 0), none, .mv (.c (.raw (.bool false)))⟩])
   .ret)
   .skip)
  (.seq (.cond (.c (.raw (.bool false)))
   (.seq (.ops [
     ⟨(some 0), none, .mv (.c (.raw (.bool false)))⟩])
   .ret)
   .skip)
  (.seq (.cond (.c (.raw (.bool false)))
   (.seq (.ops [
     ⟨(some 0), none, .mv (.c (.raw (.bool false)))⟩])
   .ret)
   .skip)
  (.seq (.cond (.c (.raw (.bool false)))
   (.seq (.ops [
     ⟨(some 0), none, .mv (.c (.raw (.bool false)))⟩])
   .ret)
   .skip)
  (.seq (.cond (.c (.raw (.bool false)))
   (.seq (.ops [
     ⟨(some 0), none, .mv (.c (.raw (.bool false)))⟩])
   .ret)
   .skip)
  (.seq (.cond (.c (.raw (.bool false)))
   (.seq (.ops [
     ⟨(some 0), none, .mv (.c (.raw (.bool false)))⟩])
   .ret)
   .skip)
  (.seq (.cond (.c (.raw (.bool false)))
   (.seq (.ops [
     ⟨(some 0), none, .mv (.c (.raw (.bool false)))⟩])
   .ret)
   .skip)
  (.seq (.cond (.c (.raw (.bool false)))
   (.seq (.ops [
     ⟨(some 0), none, .mv (.c (.raw (.bool false)))⟩])
   .ret)
   .skip)
  (.seq (.cond (.c (.raw (.bool false)))
   (.seq (.ops [
     ⟨(some 0), none, .mv (.c (.raw (.bool false)))⟩])
   .ret)
   .skip)
  (.seq (.cond (.c (.raw (.bool false)))
   (.seq (.ops [
     ⟨(some 0), none, .mv (.c (.raw (.bool false)))⟩])
   .ret)
   .skip)
  (.seq (.cond (.c (.raw (.bool false)))
   (.seq (.ops [
     ⟨(some 0), none, .mv (.c (.raw (.bool false)))⟩])
   .ret)
   .skip)
  (.seq (.cond (.c (.raw (.bool false)))
   (.seq (.ops [
     ⟨(some 0), none, .mv (.c (.raw (.bool false)))⟩])
   .ret)
   .skip)
  (.seq (.cond (.c (.raw (.bool false)))
   (.seq (.ops [
     ⟨(some 0), none, .mv (.c (.raw (.bool false)))⟩])
   .ret)
   .skip)
  (.seq (.cond (.c (.raw (.bool false)))
   (.seq (.ops [
     ⟨(some 0), none, .mv (.c (.raw (.bool false)))⟩])
   .ret)
   .skip)
  (.seq (.ops [
    ⟨(some 0), none, .mv (.c (.raw (.bool true)))⟩])
  .ret)))))))))))))))))))))))))
def f3 : DFn := ⟨d3, [.tmp 0], 1⟩
theorem h3 : decFn Try.prog 3 = some f3 := by kernel_rfl

def d4 : DCode :=
  (.seq (.ops [
    ⟨(some 4), none, .mv (.c (.raw (.bool false)))⟩])
  (.seq (.ops [
    ⟨(some 10), none, .mv (.t 0)⟩,
    ⟨(some 11), none, .mv (.t 1)⟩,
    ⟨(some 12), none, .call 13 [(.t 10), (.t 11)]⟩,
    ⟨(some 9), none, .mv (.t 12)⟩,
    ⟨(some 13), none, .ext (.t 9) 0⟩,
    ⟨(some 14), none, .ext (.t 9) 1⟩,
    ⟨(some 5), none, .mv (.t 13)⟩,
    ⟨(some 6), none, .mv (.t 14)⟩])
  (.seq (.ops [
    ⟨(some 16), none, .mv (.t 0)⟩,
    ⟨(some 17), none, .mv (.t 1)⟩,
    ⟨(some 18), none, .call 14 [(.t 16), (.t 17)]⟩,
    ⟨(some 15), none, .mv (.t 18)⟩,
    ⟨(some 19), none, .ext (.t 15) 0⟩,
    ⟨(some 20), none, .ext (.t 15) 1⟩,
    ⟨(some 7), none, .mv (.t 19)⟩,
    ⟨(some 8), none, .mv (.t 20)⟩])
  (.seq (.seq (.ops [
    ⟨(some 21), none, .mv (.t 7)⟩,
    ⟨(some 22), none, .mv (.t 5)⟩,
    ⟨(some 23), none, .bin .neq false (.t 21) (.t 22)⟩,
    ⟨(some 24), none, .mv (.t 23)⟩,
    ⟨(some 25), (some (24, false)), .mv (.t 8)⟩,
    ⟨(some 26), (some (24, false)), .mv (.t 6)⟩,
    ⟨(some 27), (some (24, false)), .bin .neq false (.t 25) (.t 26)⟩,
    ⟨(some 28), none, .pick (.t 24) (.c (.raw (.bool true))) (.t 27)⟩])
  (.cond (.t 28)
   (.seq (.ops [
     ⟨(some 4), none, .mv (.c (.raw (.bool false)))⟩])
   .ret)
   .skip))
  (.seq (.ops [
    ⟨(some 4), none, .mv (.c (.raw (.bool true)))⟩])
  .ret)))))
def f4 : DFn := ⟨d4, [.tmp 4], 29⟩
theorem h4 : decFn Try.prog 4 = some f4 := by kernel_rfl

def d5 : DCode :=
  (.seq (.ops [
    ⟨(some 4), none, .mv (.c (.raw (.bool false)))⟩])
  (.seq (.ops [
    ⟨(some 10), none, .mv (.t 0)⟩,
    ⟨(some 11), none, .mv (.t 1)⟩,
    ⟨(some 12), none, .call 15 [(.t 10), (.t 11)]⟩,
    ⟨(some 9), none, .mv (.t 12)⟩,
    ⟨(some 13), none, .ext (.t 9) 0⟩,
    ⟨(some 14), none, .ext (.t 9) 1⟩,
    ⟨(some 5), none, .mv (.t 13)⟩,
    ⟨(some 6), none, .mv (.t 14)⟩])
  (.seq (.ops [
    ⟨(some 16), none, .mv (.t 0)⟩,
    ⟨(some 17), none, .mv (.t 1)⟩,
    ⟨(some 18), none, .call 16 [(.t 16), (.t 17)]⟩,
    ⟨(some 15), none, .mv (.t 18)⟩,
    ⟨(some 19), none, .ext (.t 15) 0⟩,
    ⟨(some 20), none, .ext (.t 15) 1⟩,
    ⟨(some 7), none, .mv (.t 19)⟩,
    ⟨(some 8), none, .mv (.t 20)⟩])
  (.seq (.seq (.ops [
    ⟨(some 21), none, .mv (.t 7)⟩,
    ⟨(some 22), none, .mv (.t 5)⟩,
    ⟨(some 23), none, .bin .neq false (.t 21) (.t 22)⟩,
    ⟨(some 24), none, .mv (.t 23)⟩,
    ⟨(some 25), (some (24, false)), .mv (.t 8)⟩,
    ⟨(some 26), (some (24, false)), .mv (.t 6)⟩,
    ⟨(some 27), (some (24, false)), .bin .neq false (.t 25) (.t 26)⟩,
    ⟨(some 28), none, .pick (.t 24) (.c (.raw (.bool true))) (.t 27)⟩])
  (.cond (.t 28)
   (.seq (.ops [
     ⟨(some 4), none, .mv (.c (.raw (.bool false)))⟩])
   .ret)
   .skip))
  (.seq (.ops [
    ⟨(some 4), none, .mv (.c (.raw (.bool true)))⟩])
  .ret)))))
def f5 : DFn := ⟨d5, [.tmp 4], 29⟩
theorem h5 : decFn Try.prog 5 = some f5 := by kernel_rfl

def d13 : DCode :=
  (.seq (.ops [
    ⟨(some 4), none, .mv (.c (.raw (.int .i64 (0))))⟩,
    ⟨(some 5), none, .mv (.c (.raw (.int .i64 (0))))⟩])
  (.seq (.seq (.ops [
    ⟨(some 6), none, .mv (.t 0)⟩,
    ⟨(some 7), none, .call 40 [(.t 6), (.c (.raw (.int .i64 (-100000)))), (.c (.raw (.int .i64 (100000))))]⟩,
    ⟨(some 8), none, .un .not (.t 7)⟩,
    ⟨(some 9), none, .mv (.t 8)⟩,
    ⟨(some 10), (some (9, false)), .mv (.t 1)⟩,
    ⟨(some 11), (some (9, false)), .call 40 [(.t 10), (.c (.raw (.int .i64 (-100000)))), (.c (.raw (.int .i64 (100000))))]⟩,
    ⟨(some 12), (some (9, false)), .un .not (.t 11)⟩,
    ⟨(some 13), none, .pick (.t 9) (.c (.raw (.bool true))) (.t 12)⟩])
  (.cond (.t 13)
   (.seq (.ops [
     ⟨(some 4), none, .mv (.c (.raw (.int .i64 (0))))⟩,
     ⟨(some 5), none, .mv (.c (.raw (.int .i64 (2))))⟩])
   .ret)
   .skip))
  (.seq (.ops [
    ⟨(some 14), none, .mv (.t 0)⟩,
    ⟨(some 15), none, .mv (.t 1)⟩,
    ⟨(some 16), none, .call 41 [(.t 14), (.t 15)]⟩,
    ⟨(some 4), none, .mv (.t 16)⟩,
    ⟨(some 5), none, .mv (.c (.raw (.int .i64 (0))))⟩])
  .ret)))
def f13 : DFn := ⟨d13, [.tmp 4, .tmp 5], 17⟩
theorem h13 : decFn Try.prog 13 = some f13 := by kernel_rfl

def d14 : DCode :=
  (.seq (.ops [
    ⟨(some 4), none, .mv (.c (.raw (.int .i64 (0))))⟩,
    ⟨(some 5), none, .mv (.c (.raw (.int .i64 (0))))⟩])
  (.seq (.seq (.ops [
    ⟨(some 6), none, .mv (.t 0)⟩,
    ⟨(some 7), none, .call 42 [(.t 6)]⟩,
    ⟨(some 8), none, .un .not (.t 7)⟩,
    ⟨(some 9), none, .mv (.t 8)⟩,
    ⟨(some 10), (some (9, false)), .mv (.t 1)⟩,
    ⟨(some 11), (some (9, false)), .call 42 [(.t 10)]⟩,
    ⟨(some 12), (some (9, false)), .un .not (.t 11)⟩,
    ⟨(some 13), none, .pick (.t 9) (.c (.raw (.bool true))) (.t 12)⟩])
  (.cond (.t 13)
   (.seq (.ops [
     ⟨(some 4), none, .mv (.c (.raw (.int .i64 (0))))⟩,
     ⟨(some 5), none, .mv (.c (.raw (.int .i64 (2))))⟩])
   .ret)
   .skip))
  (.seq (.ops [
    ⟨(some 14), none, .mv (.t 0)⟩,
    ⟨(some 15), none, .mv (.t 1)⟩,
    ⟨(some 16), none, .call 43 [(.t 14), (.t 15)]⟩,
    ⟨(some 4), none, .mv (.t 16)⟩,
    ⟨(some 5), none, .mv (.c (.raw (.int .i64 (0))))⟩])
  .ret)))
def f14 : DFn := ⟨d14, [.tmp 4, .tmp 5], 17⟩
theorem h14 : decFn Try.prog 14 = some f14 := by kernel_rfl

def d15 : DCode :=
  (.seq (.ops [
    ⟨(some 4), none, .mv (.c (.raw (.int .i64 (0))))⟩,
    ⟨(some 5), none, .mv (.c (.raw (.int .i64 (0))))⟩])
  (.seq (.seq (.ops [
    ⟨(some 6), none, .mv (.t 0)⟩,
    ⟨(some 7), none, .call 44 [(.t 6)]⟩,
    ⟨(some 8), none, .un .not (.t 7)⟩,
    ⟨(some 9), none, .mv (.t 8)⟩,
    ⟨(some 10), (some (9, false)), .mv (.t 1)⟩,
    ⟨(some 11), (some (9, false)), .mv (.t 0)⟩,
    ⟨(some 12), (some (9, false)), .bin .sub false (.t 11) (.c (.raw (.int .i64 (1))))⟩,
    ⟨(some 13), (some (9, false)), .call 40 [(.t 10), (.c (.raw (.int .i64 (0)))), (.t 12)]⟩,
    ⟨(some 14), (some (9, false)), .un .not (.t 13)⟩,
    ⟨(some 15), none, .pick (.t 9) (.c (.raw (.bool true))) (.t 14)⟩])
  (.cond (.t 15)
   (.seq (.ops [
     ⟨(some 4), none, .mv (.c (.raw (.int .i64 (0))))⟩,
     ⟨(some 5), none, .mv (.c (.raw (.int .i64 (2))))⟩])
   .ret)
   .skip))
  (.seq (.ops [
    ⟨(some 16), none, .mv (.t 0)⟩,
    ⟨(some 17), none, .mv (.t 1)⟩,
    ⟨(some 18), none, .call 45 [(.t 16), (.t 17)]⟩,
    ⟨(some 4), none, .mv (.t 18)⟩,
    ⟨(some 5), none, .mv (.c (.raw (.int .i64 (0))))⟩])
  .ret)))
def f15 : DFn := ⟨d15, [.tmp 4, .tmp 5], 19⟩
theorem h15 : decFn Try.prog 15 = some f15 := by kernel_rfl

def d16 : DCode :=
  (.seq (.ops [
    ⟨(some 4), none, .mv (.c (.raw (.int .i64 (0))))⟩,
    ⟨(some 5), none, .mv (.c (.raw (.int .i64 (0))))⟩])
  (.seq (.seq (.ops [
    ⟨(some 6), none, .mv (.t 0)⟩,
    ⟨(some 7), none, .call 46 [(.t 6)]⟩,
    ⟨(some 8), none, .un .not (.t 7)⟩,
    ⟨(some 9), none, .mv (.t 8)⟩,
    ⟨(some 10), (some (9, false)), .mv (.t 1)⟩,
    ⟨(some 11), (some (9, false)), .mv (.t 0)⟩,
    ⟨(some 12), (some (9, false)), .bin .sub false (.t 11) (.c (.raw (.int .i64 (1))))⟩,
    ⟨(some 13), (some (9, false)), .call 47 [(.t 10), (.c (.raw (.int .i64 (0)))), (.t 12)]⟩,
    ⟨(some 14), (some (9, false)), .un .not (.t 13)⟩,
    ⟨(some 15), none, .pick (.t 9) (.c (.raw (.bool true))) (.t 14)⟩])
  (.cond (.t 15)
   (.seq (.ops [
     ⟨(some 4), none, .mv (.c (.raw (.int .i64 (0))))⟩,
     ⟨(some 5), none, .mv (.c (.raw (.int .i64 (2))))⟩])
   .ret)
   .skip))
  (.seq (.ops [
    ⟨(some 16), none, .mv (.t 0)⟩,
    ⟨(some 17), none, .mv (.t 1)⟩,
    ⟨(some 18), none, .call 48 [(.t 16), (.t 17)]⟩,
    ⟨(some 4), none, .mv (.t 18)⟩,
    ⟨(some 5), none, .mv (.c (.raw (.int .i64 (0))))⟩])
  .ret)))
def f16 : DFn := ⟨d16, [.tmp 4, .tmp 5], 19⟩
theorem h16 : decFn Try.prog 16 = some f16 := by kernel_rfl

def d40 : DCode :=
  (.seq (.ops [
    ⟨(some 6), none, .mv (.c (.raw (.bool false)))⟩])
  (.seq (.ops [
    ⟨(some 7), none, .mv (.t 0)⟩,
    ⟨(some 8), none, .mv (.t 1)⟩,
    ⟨(some 9), none, .bin .geq false (.t 7) (.t 8)⟩,
    ⟨(some 10), none, .mv (.t 9)⟩,
    ⟨(some 11), (some (10, true)), .mv (.t 0)⟩,
    ⟨(some 12), (some (10, true)), .mv (.t 2)⟩,
    ⟨(some 13), (some (10, true)), .bin .leq false (.t 11) (.t 12)⟩,
    ⟨(some 14), none, .pick (.t 10) (.t 13) (.c (.raw (.bool false)))⟩,
    ⟨(some 6), none, .mv (.t 14)⟩])
  .ret))
def f40 : DFn := ⟨d40, [.tmp 6], 15⟩
theorem h40 : decFn Try.prog 40 = some f40 := by kernel_rfl

def d41 : DCode :=
  (.seq (.ops [
    ⟨(some 4), none, .mv (.c (.raw (.int .i64 (0))))⟩])
  (.seq (.ops [
    ⟨(some 5), none, .mv (.t 1)⟩,
    ⟨(some 6), none, .mv (.t 0)⟩,
    ⟨(some 7), none, .bin .sub false (.t 5) (.t 6)⟩,
    ⟨(some 8), none, .bin .add false (.t 7) (.c (.raw (.int .i64 (32))))⟩,
    ⟨(some 9), none, .call 53 [(.t 8)]⟩,
    ⟨(some 10), none, .bin .sub false (.t 9) (.c (.raw (.int .i64 (32))))⟩,
    ⟨(some 4), none, .mv (.t 10)⟩])
  .ret))
def f41 : DFn := ⟨d41, [.tmp 4], 11⟩
theorem h41 : decFn Try.prog 41 = some f41 := by kernel_rfl

def d42 : DCode :=
  (.seq (.ops [
    ⟨(some 2), none, .mv (.c (.raw (.bool false)))⟩])
  (.seq (.ops [
    ⟨(some 3), none, .mv (.t 0)⟩,
    ⟨(some 4), none, .call 47 [(.t 3), (.c (.raw (.int .i64 (-100000)))), (.c (.raw (.int .i64 (100000))))]⟩,
    ⟨(some 2), none, .mv (.t 4)⟩])
  .ret))
def f42 : DFn := ⟨d42, [.tmp 2], 5⟩
theorem h42 : decFn Try.prog 42 = some f42 := by kernel_rfl

def d43 : DCode :=
  (.seq (.ops [
    ⟨(some 4), none, .mv (.c (.raw (.int .i64 (0))))⟩])
  (.seq (.ops [
    ⟨(some 5), none, .mv (.t 1)⟩,
    ⟨(some 6), none, .mv (.t 0)⟩,
    ⟨(some 7), none, .bin .sub false (.t 5) (.t 6)⟩,
    ⟨(some 8), none, .bin .add false (.t 7) (.c (.raw (.int .i64 (32))))⟩,
    ⟨(some 9), none, .call 54 [(.t 8), (.c (.raw (.int .i64 (64))))]⟩,
    ⟨(some 10), none, .bin .sub false (.t 9) (.c (.raw (.int .i64 (32))))⟩,
    ⟨(some 4), none, .mv (.t 10)⟩])
  .ret))
def f43 : DFn := ⟨d43, [.tmp 4], 11⟩
theorem h43 : decFn Try.prog 43 = some f43 := by kernel_rfl

def d44 : DCode :=
  (.seq (.ops [
    ⟨(some 2), none, .mv (.c (.raw (.bool false)))⟩])
  (.seq (.ops [
    ⟨(some 3), none, .mv (.t 0)⟩,
    ⟨(some 4), none, .bin .eql false (.t 3) (.c (.raw (.int .i64 (1))))⟩,
    ⟨(some 5), none, .mv (.t 4)⟩,
    ⟨(some 6), (some (5, false)), .mv (.t 0)⟩,
    ⟨(some 7), (some (5, false)), .bin .eql false (.t 6) (.c (.raw (.int .i64 (2))))⟩,
    ⟨(some 8), none, .pick (.t 5) (.c (.raw (.bool true))) (.t 7)⟩,
    ⟨(some 9), none, .mv (.t 8)⟩,
    ⟨(some 10), (some (9, false)), .mv (.t 0)⟩,
    ⟨(some 11), (some (9, false)), .bin .eql false (.t 10) (.c (.raw (.int .i64 (4))))⟩,
    ⟨(some 12), none, .pick (.t 9) (.c (.raw (.bool true))) (.t 11)⟩,
    ⟨(some 13), none, .mv (.t 12)⟩,
    ⟨(some 14), (some (13, false)), .mv (.t 0)⟩,
    ⟨(some 15), (some (13, false)), .bin .eql false (.t 14) (.c (.raw (.int .i64 (8))))⟩,
    ⟨(some 16), none, .pick (.t 13) (.c (.raw (.bool true))) (.t 15)⟩,
    ⟨(some 2), none, .mv (.t 16)⟩])
  .ret))
def f44 : DFn := ⟨d44, [.tmp 2], 17⟩
theorem h44 : decFn Try.prog 44 = some f44 := by kernel_rfl

def d45 : DCode :=
  (.seq (.ops [
    ⟨(some 4), none, .mv (.c (.raw (.int .i64 (0))))⟩])
  (.seq (.seq (.ops [
    ⟨(some 5), none, .mv (.t 0)⟩,
    ⟨(some 6), none, .bin .eql false (.t 5) (.c (.raw (.int .i64 (1))))⟩,
    ⟨(some 7), none, .mv (.t 6)⟩,
    ⟨(some 8), (some (7, false)), .mv (.t 1)⟩,
    ⟨(some 9), (some (7, false)), .mv (.t 0)⟩,
    ⟨(some 10), (some (7, false)), .bin .quo false (.t 9) (.c (.raw (.int .i64 (2))))⟩,
    ⟨(some 11), (some (7, false)), .bin .lss false (.t 8) (.t 10)⟩,
    ⟨(some 12), none, .pick (.t 7) (.c (.raw (.bool true))) (.t 11)⟩])
  (.cond (.t 12)
   (.seq (.ops [
     ⟨(some 13), none, .mv (.t 1)⟩,
     ⟨(some 4), none, .mv (.t 13)⟩])
   .ret)
   .skip))
  (.seq (.ops [
    ⟨(some 14), none, .mv (.t 1)⟩,
    ⟨(some 15), none, .mv (.t 0)⟩,
    ⟨(some 16), none, .bin .sub false (.t 14) (.t 15)⟩,
    ⟨(some 4), none, .mv (.t 16)⟩])
  .ret)))
def f45 : DFn := ⟨d45, [.tmp 4], 17⟩
theorem h45 : decFn Try.prog 45 = some f45 := by kernel_rfl

def d46 : DCode :=
  (.seq (.ops [
    ⟨(some 2), none, .mv (.c (.raw (.bool false)))⟩])
  (.seq (.ops [
    ⟨(some 3), none, .mv (.t 0)⟩,
    ⟨(some 4), none, .bin .eql false (.t 3) (.c (.raw (.int .i64 (1))))⟩,
    ⟨(some 5), none, .mv (.t 4)⟩,
    ⟨(some 6), (some (5, false)), .mv (.t 0)⟩,
    ⟨(some 7), (some (5, false)), .bin .eql false (.t 6) (.c (.raw (.int .i64 (2))))⟩,
    ⟨(some 8), none, .pick (.t 5) (.c (.raw (.bool true))) (.t 7)⟩,
    ⟨(some 9), none, .mv (.t 8)⟩,
    ⟨(some 10), (some (9, false)), .mv (.t 0)⟩,
    ⟨(some 11), (some (9, false)), .bin .eql false (.t 10) (.c (.raw (.int .i64 (4))))⟩,
    ⟨(some 12), none, .pick (.t 9) (.c (.raw (.bool true))) (.t 11)⟩,
    ⟨(some 13), none, .mv (.t 12)⟩,
    ⟨(some 14), (some (13, false)), .mv (.t 0)⟩,
    ⟨(some 15), (some (13, false)), .bin .eql false (.t 14) (.c (.raw (.int .i64 (8))))⟩,
    ⟨(some 16), none, .pick (.t 13) (.c (.raw (.bool true))) (.t 15)⟩,
    ⟨(some 2), none, .mv (.t 16)⟩])
  .ret))
def f46 : DFn := ⟨d46, [.tmp 2], 17⟩
theorem h46 : decFn Try.prog 46 = some f46 := by kernel_rfl

def d47 : DCode :=
  (.seq (.ops [
    ⟨(some 6), none, .mv (.c (.raw (.bool false)))⟩])
  (.seq (.ops [
    ⟨(some 7), none, .mv (.t 0)⟩,
    ⟨(some 8), none, .mv (.t 1)⟩,
    ⟨(some 9), none, .bin .geq false (.t 7) (.t 8)⟩,
    ⟨(some 10), none, .mv (.t 9)⟩,
    ⟨(some 11), (some (10, true)), .mv (.t 0)⟩,
    ⟨(some 12), (some (10, true)), .mv (.t 2)⟩,
    ⟨(some 13), (some (10, true)), .bin .leq false (.t 11) (.t 12)⟩,
    ⟨(some 14), none, .pick (.t 10) (.t 13) (.c (.raw (.bool false)))⟩,
    ⟨(some 6), none, .mv (.t 14)⟩])
  .ret))
def f47 : DFn := ⟨d47, [.tmp 6], 15⟩
theorem h47 : decFn Try.prog 47 = some f47 := by kernel_rfl

def d48 : DCode :=
  (.seq (.ops [
    ⟨(some 4), none, .mv (.c (.raw (.int .i64 (0))))⟩])
  (.seq (.seq (.ops [
    ⟨(some 5), none, .mv (.t 0)⟩,
    ⟨(some 6), none, .bin .eql false (.t 5) (.c (.raw (.int .i64 (1))))⟩,
    ⟨(some 7), none, .mv (.t 6)⟩,
    ⟨(some 8), (some (7, false)), .mv (.t 1)⟩,
    ⟨(some 9), (some (7, false)), .mv (.t 0)⟩,
    ⟨(some 10), (some (7, false)), .bin .quo false (.t 9) (.c (.raw (.int .i64 (2))))⟩,
    ⟨(some 11), (some (7, false)), .bin .lss false (.t 8) (.t 10)⟩,
    ⟨(some 12), none, .pick (.t 7) (.c (.raw (.bool true))) (.t 11)⟩])
  (.cond (.t 12)
   (.seq (.ops [
     ⟨(some 13), none, .mv (.t 1)⟩,
     ⟨(some 4), none, .mv (.t 13)⟩])
   .ret)
   .skip))
  (.seq (.ops [
    ⟨(some 14), none, .mv (.t 1)⟩,
    ⟨(some 15), none, .mv (.t 0)⟩,
    ⟨(some 16), none, .bin .sub false (.t 14) (.t 15)⟩,
    ⟨(some 4), none, .mv (.t 16)⟩])
  .ret)))
def f48 : DFn := ⟨d48, [.tmp 4], 17⟩
theorem h48 : decFn Try.prog 48 = some f48 := by kernel_rfl

def d53 : DCode :=
  (.seq (.ops [
    ⟨(some 2), none, .mv (.c (.raw (.int .i64 (0))))⟩])
  (.seq (.ops [
    ⟨(some 3), none, .mv (.t 0)⟩,
    ⟨(some 4), none, .bin .rem false (.t 3) (.c (.raw (.int .i64 (64))))⟩,
    ⟨(some 5), none, .bin .add false (.t 4) (.c (.raw (.int .i64 (64))))⟩,
    ⟨(some 6), none, .bin .rem false (.t 5) (.c (.raw (.int .i64 (64))))⟩,
    ⟨(some 2), none, .mv (.t 6)⟩])
  .ret))
def f53 : DFn := ⟨d53, [.tmp 2], 7⟩
theorem h53 : decFn Try.prog 53 = some f53 := by kernel_rfl

def d54 : DCode :=
  (.seq (.ops [
    ⟨(some 4), none, .mv (.c (.raw (.int .i64 (0))))⟩])
  (.seq (.ops [
    ⟨(some 5), none, .mv (.t 0)⟩,
    ⟨(some 6), none, .mv (.t 1)⟩,
    ⟨(some 7), none, .bin .rem false (.t 5) (.t 6)⟩,
    ⟨(some 8), none, .mv (.t 1)⟩,
    ⟨(some 9), none, .bin .add false (.t 7) (.t 8)⟩,
    ⟨(some 10), none, .mv (.t 1)⟩,
    ⟨(some 11), none, .bin .rem false (.t 9) (.t 10)⟩,
    ⟨(some 4), none, .mv (.t 11)⟩])
  .ret))
def f54 : DFn := ⟨d54, [.tmp 4], 12⟩
theorem h54 : decFn Try.prog 54 = some f54 := by kernel_rfl
end Go.Proofs.Ytfkbgfpidolhhaa
