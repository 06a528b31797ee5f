/- The functions that the laws reach, in the compact code, held against the program. -/
import Derived.Test.YtbjpnhmempokoaaFwNum3
import Derived.Test.YtbjpnhmempokoaaRows
namespace Go.Proofs.Ytbjpnhmempokoaa
open Go Go.Fw
theorem hmix : Try.prog.follows .mixedOrders = true := by kernel_rfl

def d3 : DCode :=
  (.seq (.ops [
    ⟨(some 6), none, .mv (.c (.raw (.bool false)))⟩])
  (.seq (.ops [
    ⟨(some 12), none, .mv (.t 0)⟩,
    ⟨(some 13), none, .mv (.t 1)⟩,
    ⟨(some 14), none, .mv (.t 2)⟩,
    ⟨(some 15), none, .call 10 [(.t 12), (.t 13), (.t 14)]⟩,
    ⟨(some 11), none, .mv (.t 15)⟩,
    ⟨(some 16), none, .ext (.t 11) 0⟩,
    ⟨(some 17), none, .ext (.t 11) 1⟩,
    ⟨(some 7), none, .alloc (.st [(.raw (.int .i64 (0))), (.ac 64 (List.replicate 64 (0, 0)))])⟩,
    ⟨none, none, .store 65 (.t 7) (.t 16)⟩,
    ⟨(some 8), none, .mv (.t 17)⟩])
  (.seq (.ops [
    ⟨(some 19), none, .mv (.t 0)⟩,
    ⟨(some 20), none, .mv (.t 1)⟩,
    ⟨(some 21), none, .mv (.t 2)⟩,
    ⟨(some 22), none, .call 11 [(.t 19), (.t 20), (.t 21)]⟩,
    ⟨(some 18), none, .mv (.t 22)⟩,
    ⟨(some 23), none, .ext (.t 18) 0⟩,
    ⟨(some 24), none, .ext (.t 18) 1⟩,
    ⟨(some 9), none, .alloc (.st [(.raw (.int .i64 (0))), (.ac 64 (List.replicate 64 (0, 0)))])⟩,
    ⟨none, none, .store 65 (.t 9) (.t 23)⟩,
    ⟨(some 10), none, .mv (.t 24)⟩])
  (.seq (.seq (.ops [
    ⟨(some 25), none, .load true 65 (.t 9)⟩,
    ⟨(some 26), none, .load true 65 (.t 7)⟩,
    ⟨(some 27), none, .call 12 [(.t 25), (.t 26)]⟩,
    ⟨(some 28), none, .un .not (.t 27)⟩,
    ⟨(some 29), none, .mv (.t 28)⟩,
    ⟨(some 30), (some (29, false)), .mv (.t 10)⟩,
    ⟨(some 31), (some (29, false)), .mv (.t 8)⟩,
    ⟨(some 32), (some (29, false)), .bin .neq false (.t 30) (.t 31)⟩,
    ⟨(some 33), none, .pick (.t 29) (.c (.raw (.bool true))) (.t 32)⟩])
  (.cond (.t 33)
   (.seq (.ops [
     ⟨(some 6), none, .mv (.c (.raw (.bool false)))⟩])
   .ret)
   .skip))
  (.seq (.ops [
    ⟨(some 6), none, .mv (.c (.raw (.bool true)))⟩])
  .ret)))))
def f3 : DFn := ⟨d3, [.tmp 6], 34⟩
theorem h3 : decFn Try.prog 3 = some f3 := by kernel_rfl

def d4 : DCode :=
  (.seq (.ops [
    ⟨(some 6), none, .mv (.c (.raw (.bool false)))⟩])
  (.seq (.ops [
    ⟨(some 12), none, .mv (.t 0)⟩,
    ⟨(some 13), none, .mv (.t 1)⟩,
    ⟨(some 14), none, .mv (.t 2)⟩,
    ⟨(some 15), none, .call 13 [(.t 12), (.t 13), (.t 14)]⟩,
    ⟨(some 11), none, .mv (.t 15)⟩,
    ⟨(some 16), none, .ext (.t 11) 0⟩,
    ⟨(some 17), none, .ext (.t 11) 1⟩,
    ⟨(some 7), none, .alloc (.st [(.raw (.int .i64 (0))), (.ac 64 (List.replicate 64 (0, 0)))])⟩,
    ⟨none, none, .store 65 (.t 7) (.t 16)⟩,
    ⟨(some 8), none, .mv (.t 17)⟩])
  (.seq (.ops [
    ⟨(some 19), none, .mv (.t 0)⟩,
    ⟨(some 20), none, .mv (.t 1)⟩,
    ⟨(some 21), none, .mv (.t 2)⟩,
    ⟨(some 22), none, .call 14 [(.t 19), (.t 20), (.t 21)]⟩,
    ⟨(some 18), none, .mv (.t 22)⟩,
    ⟨(some 23), none, .ext (.t 18) 0⟩,
    ⟨(some 24), none, .ext (.t 18) 1⟩,
    ⟨(some 9), none, .alloc (.st [(.raw (.int .i64 (0))), (.ac 64 (List.replicate 64 (0, 0)))])⟩,
    ⟨none, none, .store 65 (.t 9) (.t 23)⟩,
    ⟨(some 10), none, .mv (.t 24)⟩])
  (.seq (.seq (.ops [
    ⟨(some 25), none, .load true 65 (.t 9)⟩,
    ⟨(some 26), none, .load true 65 (.t 7)⟩,
    ⟨(some 27), none, .call 12 [(.t 25), (.t 26)]⟩,
    ⟨(some 28), none, .un .not (.t 27)⟩,
    ⟨(some 29), none, .mv (.t 28)⟩,
    ⟨(some 30), (some (29, false)), .mv (.t 10)⟩,
    ⟨(some 31), (some (29, false)), .mv (.t 8)⟩,
    ⟨(some 32), (some (29, false)), .bin .neq false (.t 30) (.t 31)⟩,
    ⟨(some 33), none, .pick (.t 29) (.c (.raw (.bool true))) (.t 32)⟩])
  (.cond (.t 33)
   (.seq (.ops [
     ⟨(some 6), none, .mv (.c (.raw (.bool false)))⟩])
   .ret)
   .skip))
  (.seq (.ops [
    ⟨(some 6), none, .mv (.c (.raw (.bool true)))⟩])
  .ret)))))
def f4 : DFn := ⟨d4, [.tmp 6], 34⟩
theorem h4 : decFn Try.prog 4 = some f4 := by kernel_rfl

def d5 : DCode :=
  (.seq (.ops [
    ⟨(some 4), none, .mv (.c (.raw (.bool false)))⟩])
  (.seq (.ops [
    ⟨(some 10), none, .mv (.t 0)⟩,
    ⟨(some 11), none, .mv (.t 1)⟩,
    ⟨(some 12), none, .call 15 [(.t 10), (.t 11)]⟩,
    ⟨(some 9), none, .mv (.t 12)⟩,
    ⟨(some 13), none, .ext (.t 9) 0⟩,
    ⟨(some 14), none, .ext (.t 9) 1⟩,
    ⟨(some 5), none, .alloc (.st [(.raw (.int .i64 (0))), (.ac 64 (List.replicate 64 (0, 0)))])⟩,
    ⟨none, none, .store 65 (.t 5) (.t 13)⟩,
    ⟨(some 6), none, .mv (.t 14)⟩])
  (.seq (.ops [
    ⟨(some 16), none, .mv (.t 0)⟩,
    ⟨(some 17), none, .mv (.t 1)⟩,
    ⟨(some 18), none, .call 16 [(.t 16), (.t 17)]⟩,
    ⟨(some 15), none, .mv (.t 18)⟩,
    ⟨(some 19), none, .ext (.t 15) 0⟩,
    ⟨(some 20), none, .ext (.t 15) 1⟩,
    ⟨(some 7), none, .alloc (.st [(.raw (.int .i64 (0))), (.ac 64 (List.replicate 64 (0, 0)))])⟩,
    ⟨none, none, .store 65 (.t 7) (.t 19)⟩,
    ⟨(some 8), none, .mv (.t 20)⟩])
  (.seq (.seq (.ops [
    ⟨(some 21), none, .load true 65 (.t 7)⟩,
    ⟨(some 22), none, .load true 65 (.t 5)⟩,
    ⟨(some 23), none, .call 12 [(.t 21), (.t 22)]⟩,
    ⟨(some 24), none, .un .not (.t 23)⟩,
    ⟨(some 25), none, .mv (.t 24)⟩,
    ⟨(some 26), (some (25, false)), .mv (.t 8)⟩,
    ⟨(some 27), (some (25, false)), .mv (.t 6)⟩,
    ⟨(some 28), (some (25, false)), .bin .neq false (.t 26) (.t 27)⟩,
    ⟨(some 29), none, .pick (.t 25) (.c (.raw (.bool true))) (.t 28)⟩])
  (.cond (.t 29)
   (.seq (.ops [
     ⟨(some 4), none, .mv (.c (.raw (.bool false)))⟩])
   .ret)
   .skip))
  (.seq (.ops [
    ⟨(some 4), none, .mv (.c (.raw (.bool true)))⟩])
  .ret)))))
def f5 : DFn := ⟨d5, [.tmp 4], 30⟩
theorem h5 : decFn Try.prog 5 = some f5 := by kernel_rfl

def d6 : DCode :=
  (.seq (.ops [
    ⟨(some 8), none, .mv (.c (.raw (.bool false)))⟩])
  (.seq (.ops [
    ⟨(some 14), none, .mv (.t 0)⟩,
    ⟨(some 15), none, .mv (.t 1)⟩,
    ⟨(some 16), none, .mv (.t 2)⟩,
    ⟨(some 17), none, .mv (.t 3)⟩,
    ⟨(some 18), none, .call 17 [(.t 14), (.t 15), (.t 16), (.t 17)]⟩,
    ⟨(some 13), none, .mv (.t 18)⟩,
    ⟨(some 19), none, .ext (.t 13) 0⟩,
    ⟨(some 20), none, .ext (.t 13) 1⟩,
    ⟨(some 9), none, .alloc (.st [(.raw (.int .i64 (0))), (.ac 64 (List.replicate 64 (0, 0)))])⟩,
    ⟨none, none, .store 65 (.t 9) (.t 19)⟩,
    ⟨(some 10), none, .mv (.t 20)⟩])
  (.seq (.ops [
    ⟨(some 22), none, .mv (.t 0)⟩,
    ⟨(some 23), none, .mv (.t 1)⟩,
    ⟨(some 24), none, .mv (.t 2)⟩,
    ⟨(some 25), none, .mv (.t 3)⟩,
    ⟨(some 26), none, .call 18 [(.t 22), (.t 23), (.t 24), (.t 25)]⟩,
    ⟨(some 21), none, .mv (.t 26)⟩,
    ⟨(some 27), none, .ext (.t 21) 0⟩,
    ⟨(some 28), none, .ext (.t 21) 1⟩,
    ⟨(some 11), none, .alloc (.st [(.raw (.int .i64 (0))), (.ac 64 (List.replicate 64 (0, 0)))])⟩,
    ⟨none, none, .store 65 (.t 11) (.t 27)⟩,
    ⟨(some 12), none, .mv (.t 28)⟩])
  (.seq (.seq (.ops [
    ⟨(some 29), none, .load true 65 (.t 11)⟩,
    ⟨(some 30), none, .load true 65 (.t 9)⟩,
    ⟨(some 31), none, .call 12 [(.t 29), (.t 30)]⟩,
    ⟨(some 32), none, .un .not (.t 31)⟩,
    ⟨(some 33), none, .mv (.t 32)⟩,
    ⟨(some 34), (some (33, false)), .mv (.t 12)⟩,
    ⟨(some 35), (some (33, false)), .mv (.t 10)⟩,
    ⟨(some 36), (some (33, false)), .bin .neq false (.t 34) (.t 35)⟩,
    ⟨(some 37), none, .pick (.t 33) (.c (.raw (.bool true))) (.t 36)⟩])
  (.cond (.t 37)
   (.seq (.ops [
     ⟨(some 8), none, .mv (.c (.raw (.bool false)))⟩])
   .ret)
   .skip))
  (.seq (.ops [
    ⟨(some 8), none, .mv (.c (.raw (.bool true)))⟩])
  .ret)))))
def f6 : DFn := ⟨d6, [.tmp 8], 38⟩
theorem h6 : decFn Try.prog 6 = some f6 := by kernel_rfl

def d7 : DCode :=
  (.seq (.ops [
    ⟨(some 8), none, .mv (.c (.raw (.bool false)))⟩])
  (.seq (.ops [
    ⟨(some 14), none, .mv (.t 0)⟩,
    ⟨(some 15), none, .mv (.t 1)⟩,
    ⟨(some 16), none, .mv (.t 2)⟩,
    ⟨(some 17), none, .mv (.t 3)⟩,
    ⟨(some 18), none, .call 19 [(.t 14), (.t 15), (.t 16), (.t 17)]⟩,
    ⟨(some 13), none, .mv (.t 18)⟩,
    ⟨(some 19), none, .ext (.t 13) 0⟩,
    ⟨(some 20), none, .ext (.t 13) 1⟩,
    ⟨(some 9), none, .alloc (.st [(.raw (.int .i64 (0))), (.ac 64 (List.replicate 64 (0, 0)))])⟩,
    ⟨none, none, .store 65 (.t 9) (.t 19)⟩,
    ⟨(some 10), none, .mv (.t 20)⟩])
  (.seq (.ops [
    ⟨(some 22), none, .mv (.t 0)⟩,
    ⟨(some 23), none, .mv (.t 1)⟩,
    ⟨(some 24), none, .mv (.t 2)⟩,
    ⟨(some 25), none, .mv (.t 3)⟩,
    ⟨(some 26), none, .call 20 [(.t 22), (.t 23), (.t 24), (.t 25)]⟩,
    ⟨(some 21), none, .mv (.t 26)⟩,
    ⟨(some 27), none, .ext (.t 21) 0⟩,
    ⟨(some 28), none, .ext (.t 21) 1⟩,
    ⟨(some 11), none, .alloc (.st [(.raw (.int .i64 (0))), (.ac 64 (List.replicate 64 (0, 0)))])⟩,
    ⟨none, none, .store 65 (.t 11) (.t 27)⟩,
    ⟨(some 12), none, .mv (.t 28)⟩])
  (.seq (.seq (.ops [
    ⟨(some 29), none, .load true 65 (.t 11)⟩,
    ⟨(some 30), none, .load true 65 (.t 9)⟩,
    ⟨(some 31), none, .call 12 [(.t 29), (.t 30)]⟩,
    ⟨(some 32), none, .un .not (.t 31)⟩,
    ⟨(some 33), none, .mv (.t 32)⟩,
    ⟨(some 34), (some (33, false)), .mv (.t 12)⟩,
    ⟨(some 35), (some (33, false)), .mv (.t 10)⟩,
    ⟨(some 36), (some (33, false)), .bin .neq false (.t 34) (.t 35)⟩,
    ⟨(some 37), none, .pick (.t 33) (.c (.raw (.bool true))) (.t 36)⟩])
  (.cond (.t 37)
   (.seq (.ops [
     ⟨(some 8), none, .mv (.c (.raw (.bool false)))⟩])
   .ret)
   .skip))
  (.seq (.ops [
    ⟨(some 8), none, .mv (.c (.raw (.bool true)))⟩])
  .ret)))))
def f7 : DFn := ⟨d7, [.tmp 8], 38⟩
theorem h7 : decFn Try.prog 7 = some f7 := by kernel_rfl

def d8 : DCode :=
  (.seq (.ops [
    ⟨(some 4), none, .mv (.c (.raw (.bool false)))⟩])
  (.seq (.ops [
    ⟨(some 10), none, .mv (.t 0)⟩,
    ⟨(some 11), none, .mv (.t 1)⟩,
    ⟨(some 12), none, .call 21 [(.t 10), (.t 11)]⟩,
    ⟨(some 9), none, .mv (.t 12)⟩,
    ⟨(some 13), none, .ext (.t 9) 0⟩,
    ⟨(some 14), none, .ext (.t 9) 1⟩,
    ⟨(some 5), none, .alloc (.st [(.raw (.int .i64 (0))), (.ac 64 (List.replicate 64 (0, 0)))])⟩,
    ⟨none, none, .store 65 (.t 5) (.t 13)⟩,
    ⟨(some 6), none, .mv (.t 14)⟩])
  (.seq (.ops [
    ⟨(some 16), none, .mv (.t 0)⟩,
    ⟨(some 17), none, .mv (.t 1)⟩,
    ⟨(some 18), none, .call 22 [(.t 16), (.t 17)]⟩,
    ⟨(some 15), none, .mv (.t 18)⟩,
    ⟨(some 19), none, .ext (.t 15) 0⟩,
    ⟨(some 20), none, .ext (.t 15) 1⟩,
    ⟨(some 7), none, .alloc (.st [(.raw (.int .i64 (0))), (.ac 64 (List.replicate 64 (0, 0)))])⟩,
    ⟨none, none, .store 65 (.t 7) (.t 19)⟩,
    ⟨(some 8), none, .mv (.t 20)⟩])
  (.seq (.seq (.ops [
    ⟨(some 21), none, .load true 65 (.t 7)⟩,
    ⟨(some 22), none, .load true 65 (.t 5)⟩,
    ⟨(some 23), none, .call 12 [(.t 21), (.t 22)]⟩,
    ⟨(some 24), none, .un .not (.t 23)⟩,
    ⟨(some 25), none, .mv (.t 24)⟩,
    ⟨(some 26), (some (25, false)), .mv (.t 8)⟩,
    ⟨(some 27), (some (25, false)), .mv (.t 6)⟩,
    ⟨(some 28), (some (25, false)), .bin .neq false (.t 26) (.t 27)⟩,
    ⟨(some 29), none, .pick (.t 25) (.c (.raw (.bool true))) (.t 28)⟩])
  (.cond (.t 29)
   (.seq (.ops [
     ⟨(some 4), none, .mv (.c (.raw (.bool false)))⟩])
   .ret)
   .skip))
  (.seq (.ops [
    ⟨(some 4), none, .mv (.c (.raw (.bool true)))⟩])
  .ret)))))
def f8 : DFn := ⟨d8, [.tmp 4], 30⟩
theorem h8 : decFn Try.prog 8 = some f8 := by kernel_rfl

def d9 : DCode :=
  (.seq (.ops [
    ⟨(some 0), none, .mv (.c (.raw (.bool false)))⟩])
  (.seq (.ops [
    ⟨(some 3), none, .call 23 []⟩,
    ⟨(some 1), none, .alloc (.st [(.st [(.raw (.int .i64 (0))), (.ac 64 (List.replicate 64 (0, 0)))]), (.st [(.raw (.int .i64 (0))), (.ac 64 (List.replicate 64 (0, 0)))]), (.st [(.raw (.int .i64 (0))), (.af 64 (List.replicate 64 0))])])⟩,
    ⟨none, none, .store 195 (.t 1) (.t 3)⟩])
  (.seq (.ops [
    ⟨(some 4), none, .call 24 []⟩,
    ⟨(some 2), none, .alloc (.st [(.st [(.raw (.int .i64 (0))), (.ac 64 (List.replicate 64 (0, 0)))]), (.st [(.raw (.int .i64 (0))), (.ac 64 (List.replicate 64 (0, 0)))]), (.st [(.raw (.int .i64 (0))), (.af 64 (List.replicate 64 0))])])⟩,
    ⟨none, none, .store 195 (.t 2) (.t 4)⟩])
  (.seq (.seq (.ops [
    ⟨(some 5), none, .load true 195 (.t 2)⟩,
    ⟨(some 6), none, .load true 195 (.t 1)⟩,
    ⟨(some 7), none, .call 25 [(.t 5), (.t 6)]⟩,
    ⟨(some 8), none, .un .not (.t 7)⟩])
  (.cond (.t 8)
   (.seq (.ops [
     ⟨(some 0), none, .mv (.c (.raw (.bool false)))⟩])
   .ret)
   .skip))
  (.seq (.ops [
    ⟨(some 0), none, .mv (.c (.raw (.bool true)))⟩])
  .ret)))))
def f9 : DFn := ⟨d9, [.tmp 0], 9⟩
theorem h9 : decFn Try.prog 9 = some f9 := by kernel_rfl

def d10 : DCode :=
  (.seq (.ops [
    ⟨(some 6), none, .alloc (.st [(.raw (.int .i64 (0))), (.ac 64 (List.replicate 64 (0, 0)))])⟩,
    ⟨(some 7), none, .mv (.c (.raw (.int .i64 (0))))⟩])
  (.seq (.ops [
    ⟨(some 11), none, .mv (.t 0)⟩,
    ⟨(some 12), none, .mv (.t 1)⟩,
    ⟨(some 13), none, .mv (.t 2)⟩,
    ⟨(some 14), none, .call 26 [(.t 11), (.t 12), (.t 13)]⟩,
    ⟨(some 10), none, .mv (.t 14)⟩,
    ⟨(some 15), none, .ext (.t 10) 0⟩,
    ⟨(some 16), none, .ext (.t 10) 1⟩,
    ⟨(some 8), none, .alloc (.st [(.raw (.int .i64 (0))), (.ac 64 (List.replicate 64 (0, 0)))])⟩,
    ⟨none, none, .store 65 (.t 8) (.t 15)⟩,
    ⟨(some 9), none, .mv (.t 16)⟩])
  (.seq (.ops [
    ⟨(some 17), none, .load true 65 (.t 8)⟩,
    ⟨(some 18), none, .call 27 [(.t 17)]⟩,
    ⟨(some 19), none, .mv (.t 9)⟩,
    ⟨none, none, .store 65 (.t 6) (.t 18)⟩,
    ⟨(some 7), none, .mv (.t 19)⟩])
  .ret)))
def f10 : DFn := ⟨d10, [.cell 6 true 65, .tmp 7], 20⟩
theorem h10 : decFn Try.prog 10 = some f10 := by kernel_rfl

def d11 : DCode :=
  (.seq (.ops [
    ⟨(some 6), none, .alloc (.st [(.raw (.int .i64 (0))), (.ac 64 (List.replicate 64 (0, 0)))])⟩,
    ⟨(some 7), none, .mv (.c (.raw (.int .i64 (0))))⟩])
  (.seq (.ops [
    ⟨(some 11), none, .mv (.t 0)⟩,
    ⟨(some 12), none, .mv (.t 1)⟩,
    ⟨(some 13), none, .mv (.t 2)⟩,
    ⟨(some 14), none, .call 28 [(.t 11), (.t 12), (.t 13)]⟩,
    ⟨(some 10), none, .mv (.t 14)⟩,
    ⟨(some 15), none, .ext (.t 10) 0⟩,
    ⟨(some 16), none, .ext (.t 10) 1⟩,
    ⟨(some 8), none, .alloc (.st [(.raw (.int .i64 (0))), (.ac 64 (List.replicate 64 (0, 0)))])⟩,
    ⟨none, none, .store 65 (.t 8) (.t 15)⟩,
    ⟨(some 9), none, .mv (.t 16)⟩])
  (.seq (.ops [
    ⟨(some 17), none, .load true 65 (.t 8)⟩,
    ⟨(some 18), none, .call 29 [(.t 17)]⟩,
    ⟨(some 19), none, .mv (.t 9)⟩,
    ⟨none, none, .store 65 (.t 6) (.t 18)⟩,
    ⟨(some 7), none, .mv (.t 19)⟩])
  .ret)))
def f11 : DFn := ⟨d11, [.cell 6 true 65, .tmp 7], 20⟩
theorem h11 : decFn Try.prog 11 = some f11 := by kernel_rfl

def d12 : DCode :=
  (.seq (.ops [
    ⟨(some 2), none, .box (.t 0)⟩,
    ⟨(some 3), none, .box (.t 1)⟩,
    ⟨(some 4), none, .mv (.c (.raw (.bool false)))⟩])
  (.seq (.seq (.ops [
    ⟨(some 5), none, .fad (.t 2) 0 0⟩,
    ⟨(some 6), none, .load false 1 (.t 5)⟩,
    ⟨(some 7), none, .fad (.t 3) 0 0⟩,
    ⟨(some 8), none, .load false 1 (.t 7)⟩,
    ⟨(some 9), none, .bin .neq false (.t 6) (.t 8)⟩])
  (.cond (.t 9)
   (.seq (.ops [
     ⟨(some 4), none, .mv (.c (.raw (.bool false)))⟩])
   .ret)
   .skip))
  (.seq (.seq (.ops [
    ⟨(some 10), none, .fad (.t 2) 1 1⟩,
    ⟨(some 11), none, .load true 64 (.t 10)⟩,
    ⟨(some 12), none, .fad (.t 3) 1 1⟩,
    ⟨(some 13), none, .load true 64 (.t 12)⟩,
    ⟨(some 14), none, .call 30 [(.t 11), (.t 13)]⟩,
    ⟨(some 15), none, .un .not (.t 14)⟩])
  (.cond (.t 15)
   (.seq (.ops [
     ⟨(some 4), none, .mv (.c (.raw (.bool false)))⟩])
   .ret)
   .skip))
  (.seq (.ops [
    ⟨(some 4), none, .mv (.c (.raw (.bool true)))⟩])
  .ret))))
def f12 : DFn := ⟨d12, [.tmp 4], 16⟩
theorem h12 : decFn Try.prog 12 = some f12 := by kernel_rfl

def d13 : DCode :=
  (.seq (.ops [
    ⟨(some 6), none, .alloc (.st [(.raw (.int .i64 (0))), (.ac 64 (List.replicate 64 (0, 0)))])⟩,
    ⟨(some 7), none, .mv (.c (.raw (.int .i64 (0))))⟩])
  (.seq (.ops [
    ⟨(some 11), none, .mv (.t 0)⟩,
    ⟨(some 12), none, .mv (.t 1)⟩,
    ⟨(some 13), none, .mv (.t 2)⟩,
    ⟨(some 14), none, .call 31 [(.t 11), (.t 12), (.t 13)]⟩,
    ⟨(some 10), none, .mv (.t 14)⟩,
    ⟨(some 15), none, .ext (.t 10) 0⟩,
    ⟨(some 16), none, .ext (.t 10) 1⟩,
    ⟨(some 8), none, .alloc (.st [(.raw (.int .i64 (0))), (.ac 64 (List.replicate 64 (0, 0)))])⟩,
    ⟨none, none, .store 65 (.t 8) (.t 15)⟩,
    ⟨(some 9), none, .mv (.t 16)⟩])
  (.seq (.ops [
    ⟨(some 17), none, .load true 65 (.t 8)⟩,
    ⟨(some 18), none, .call 27 [(.t 17)]⟩,
    ⟨(some 19), none, .mv (.t 9)⟩,
    ⟨none, none, .store 65 (.t 6) (.t 18)⟩,
    ⟨(some 7), none, .mv (.t 19)⟩])
  .ret)))
def f13 : DFn := ⟨d13, [.cell 6 true 65, .tmp 7], 20⟩
theorem h13 : decFn Try.prog 13 = some f13 := by kernel_rfl

def d14 : DCode :=
  (.seq (.ops [
    ⟨(some 6), none, .alloc (.st [(.raw (.int .i64 (0))), (.ac 64 (List.replicate 64 (0, 0)))])⟩,
    ⟨(some 7), none, .mv (.c (.raw (.int .i64 (0))))⟩])
  (.seq (.ops [
    ⟨(some 11), none, .mv (.t 0)⟩,
    ⟨(some 12), none, .mv (.t 1)⟩,
    ⟨(some 13), none, .mv (.t 2)⟩,
    ⟨(some 14), none, .call 32 [(.t 11), (.t 12), (.t 13)]⟩,
    ⟨(some 10), none, .mv (.t 14)⟩,
    ⟨(some 15), none, .ext (.t 10) 0⟩,
    ⟨(some 16), none, .ext (.t 10) 1⟩,
    ⟨(some 8), none, .alloc (.st [(.raw (.int .i64 (0))), (.ac 64 (List.replicate 64 (0, 0)))])⟩,
    ⟨none, none, .store 65 (.t 8) (.t 15)⟩,
    ⟨(some 9), none, .mv (.t 16)⟩])
  (.seq (.ops [
    ⟨(some 17), none, .load true 65 (.t 8)⟩,
    ⟨(some 18), none, .call 29 [(.t 17)]⟩,
    ⟨(some 19), none, .mv (.t 9)⟩,
    ⟨none, none, .store 65 (.t 6) (.t 18)⟩,
    ⟨(some 7), none, .mv (.t 19)⟩])
  .ret)))
def f14 : DFn := ⟨d14, [.cell 6 true 65, .tmp 7], 20⟩
theorem h14 : decFn Try.prog 14 = some f14 := by kernel_rfl

def d15 : DCode :=
  (.seq (.ops [
    ⟨(some 4), none, .alloc (.st [(.raw (.int .i64 (0))), (.ac 64 (List.replicate 64 (0, 0)))])⟩,
    ⟨(some 5), none, .mv (.c (.raw (.int .i64 (0))))⟩])
  (.seq (.ops [
    ⟨(some 9), none, .mv (.t 0)⟩,
    ⟨(some 10), none, .mv (.t 1)⟩,
    ⟨(some 11), none, .call 33 [(.t 9), (.t 10)]⟩,
    ⟨(some 8), none, .mv (.t 11)⟩,
    ⟨(some 12), none, .ext (.t 8) 0⟩,
    ⟨(some 13), none, .ext (.t 8) 1⟩,
    ⟨(some 6), none, .alloc (.st [(.raw (.int .i64 (0))), (.ac 64 (List.replicate 64 (0, 0)))])⟩,
    ⟨none, none, .store 65 (.t 6) (.t 12)⟩,
    ⟨(some 7), none, .mv (.t 13)⟩])
  (.seq (.ops [
    ⟨(some 14), none, .load true 65 (.t 6)⟩,
    ⟨(some 15), none, .call 27 [(.t 14)]⟩,
    ⟨(some 16), none, .mv (.t 7)⟩,
    ⟨none, none, .store 65 (.t 4) (.t 15)⟩,
    ⟨(some 5), none, .mv (.t 16)⟩])
  .ret)))
def f15 : DFn := ⟨d15, [.cell 4 true 65, .tmp 5], 17⟩
theorem h15 : decFn Try.prog 15 = some f15 := by kernel_rfl

def d16 : DCode :=
  (.seq (.ops [
    ⟨(some 4), none, .alloc (.st [(.raw (.int .i64 (0))), (.ac 64 (List.replicate 64 (0, 0)))])⟩,
    ⟨(some 5), none, .mv (.c (.raw (.int .i64 (0))))⟩])
  (.seq (.ops [
    ⟨(some 9), none, .mv (.t 0)⟩,
    ⟨(some 10), none, .mv (.t 1)⟩,
    ⟨(some 11), none, .call 34 [(.t 9), (.t 10)]⟩,
    ⟨(some 8), none, .mv (.t 11)⟩,
    ⟨(some 12), none, .ext (.t 8) 0⟩,
    ⟨(some 13), none, .ext (.t 8) 1⟩,
    ⟨(some 6), none, .alloc (.st [(.raw (.int .i64 (0))), (.ac 64 (List.replicate 64 (0, 0)))])⟩,
    ⟨none, none, .store 65 (.t 6) (.t 12)⟩,
    ⟨(some 7), none, .mv (.t 13)⟩])
  (.seq (.ops [
    ⟨(some 14), none, .load true 65 (.t 6)⟩,
    ⟨(some 15), none, .call 29 [(.t 14)]⟩,
    ⟨(some 16), none, .mv (.t 7)⟩,
    ⟨none, none, .store 65 (.t 4) (.t 15)⟩,
    ⟨(some 5), none, .mv (.t 16)⟩])
  .ret)))
def f16 : DFn := ⟨d16, [.cell 4 true 65, .tmp 5], 17⟩
theorem h16 : decFn Try.prog 16 = some f16 := by kernel_rfl

def d17 : DCode :=
  (.seq (.ops [
    ⟨(some 8), none, .alloc (.st [(.raw (.int .i64 (0))), (.ac 64 (List.replicate 64 (0, 0)))])⟩,
    ⟨(some 9), none, .mv (.c (.raw (.int .i64 (0))))⟩])
  (.seq (.ops [
    ⟨(some 13), none, .mv (.t 0)⟩,
    ⟨(some 14), none, .mv (.t 1)⟩,
    ⟨(some 15), none, .mv (.t 2)⟩,
    ⟨(some 16), none, .mv (.t 3)⟩,
    ⟨(some 17), none, .call 35 [(.t 13), (.t 14), (.t 15), (.t 16)]⟩,
    ⟨(some 12), none, .mv (.t 17)⟩,
    ⟨(some 18), none, .ext (.t 12) 0⟩,
    ⟨(some 19), none, .ext (.t 12) 1⟩,
    ⟨(some 10), none, .alloc (.st [(.raw (.int .i64 (0))), (.ac 64 (List.replicate 64 (0, 0)))])⟩,
    ⟨none, none, .store 65 (.t 10) (.t 18)⟩,
    ⟨(some 11), none, .mv (.t 19)⟩])
  (.seq (.ops [
    ⟨(some 20), none, .load true 65 (.t 10)⟩,
    ⟨(some 21), none, .call 27 [(.t 20)]⟩,
    ⟨(some 22), none, .mv (.t 11)⟩,
    ⟨none, none, .store 65 (.t 8) (.t 21)⟩,
    ⟨(some 9), none, .mv (.t 22)⟩])
  .ret)))
def f17 : DFn := ⟨d17, [.cell 8 true 65, .tmp 9], 23⟩
theorem h17 : decFn Try.prog 17 = some f17 := by kernel_rfl

def d18 : DCode :=
  (.seq (.ops [
    ⟨(some 8), none, .alloc (.st [(.raw (.int .i64 (0))), (.ac 64 (List.replicate 64 (0, 0)))])⟩,
    ⟨(some 9), none, .mv (.c (.raw (.int .i64 (0))))⟩])
  (.seq (.ops [
    ⟨(some 13), none, .mv (.t 0)⟩,
    ⟨(some 14), none, .mv (.t 1)⟩,
    ⟨(some 15), none, .mv (.t 2)⟩,
    ⟨(some 16), none, .mv (.t 3)⟩,
    ⟨(some 17), none, .call 36 [(.t 13), (.t 14), (.t 15), (.t 16)]⟩,
    ⟨(some 12), none, .mv (.t 17)⟩,
    ⟨(some 18), none, .ext (.t 12) 0⟩,
    ⟨(some 19), none, .ext (.t 12) 1⟩,
    ⟨(some 10), none, .alloc (.st [(.raw (.int .i64 (0))), (.ac 64 (List.replicate 64 (0, 0)))])⟩,
    ⟨none, none, .store 65 (.t 10) (.t 18)⟩,
    ⟨(some 11), none, .mv (.t 19)⟩])
  (.seq (.ops [
    ⟨(some 20), none, .load true 65 (.t 10)⟩,
    ⟨(some 21), none, .call 29 [(.t 20)]⟩,
    ⟨(some 22), none, .mv (.t 11)⟩,
    ⟨none, none, .store 65 (.t 8) (.t 21)⟩,
    ⟨(some 9), none, .mv (.t 22)⟩])
  .ret)))
def f18 : DFn := ⟨d18, [.cell 8 true 65, .tmp 9], 23⟩
theorem h18 : decFn Try.prog 18 = some f18 := by kernel_rfl

def d19 : DCode :=
  (.seq (.ops [
    ⟨(some 8), none, .alloc (.st [(.raw (.int .i64 (0))), (.ac 64 (List.replicate 64 (0, 0)))])⟩,
    ⟨(some 9), none, .mv (.c (.raw (.int .i64 (0))))⟩])
  (.seq (.ops [
    ⟨(some 13), none, .mv (.t 0)⟩,
    ⟨(some 14), none, .mv (.t 1)⟩,
    ⟨(some 15), none, .mv (.t 2)⟩,
    ⟨(some 16), none, .mv (.t 3)⟩,
    ⟨(some 17), none, .call 37 [(.t 13), (.t 14), (.t 15), (.t 16)]⟩,
    ⟨(some 12), none, .mv (.t 17)⟩,
    ⟨(some 18), none, .ext (.t 12) 0⟩,
    ⟨(some 19), none, .ext (.t 12) 1⟩,
    ⟨(some 10), none, .alloc (.st [(.raw (.int .i64 (0))), (.ac 64 (List.replicate 64 (0, 0)))])⟩,
    ⟨none, none, .store 65 (.t 10) (.t 18)⟩,
    ⟨(some 11), none, .mv (.t 19)⟩])
  (.seq (.ops [
    ⟨(some 20), none, .load true 65 (.t 10)⟩,
    ⟨(some 21), none, .call 27 [(.t 20)]⟩,
    ⟨(some 22), none, .mv (.t 11)⟩,
    ⟨none, none, .store 65 (.t 8) (.t 21)⟩,
    ⟨(some 9), none, .mv (.t 22)⟩])
  .ret)))
def f19 : DFn := ⟨d19, [.cell 8 true 65, .tmp 9], 23⟩
theorem h19 : decFn Try.prog 19 = some f19 := by kernel_rfl

def d20 : DCode :=
  (.seq (.ops [
    ⟨(some 8), none, .alloc (.st [(.raw (.int .i64 (0))), (.ac 64 (List.replicate 64 (0, 0)))])⟩,
    ⟨(some 9), none, .mv (.c (.raw (.int .i64 (0))))⟩])
  (.seq (.ops [
    ⟨(some 13), none, .mv (.t 0)⟩,
    ⟨(some 14), none, .mv (.t 1)⟩,
    ⟨(some 15), none, .mv (.t 2)⟩,
    ⟨(some 16), none, .mv (.t 3)⟩,
    ⟨(some 17), none, .call 38 [(.t 13), (.t 14), (.t 15), (.t 16)]⟩,
    ⟨(some 12), none, .mv (.t 17)⟩,
    ⟨(some 18), none, .ext (.t 12) 0⟩,
    ⟨(some 19), none, .ext (.t 12) 1⟩,
    ⟨(some 10), none, .alloc (.st [(.raw (.int .i64 (0))), (.ac 64 (List.replicate 64 (0, 0)))])⟩,
    ⟨none, none, .store 65 (.t 10) (.t 18)⟩,
    ⟨(some 11), none, .mv (.t 19)⟩])
  (.seq (.ops [
    ⟨(some 20), none, .load true 65 (.t 10)⟩,
    ⟨(some 21), none, .call 29 [(.t 20)]⟩,
    ⟨(some 22), none, .mv (.t 11)⟩,
    ⟨none, none, .store 65 (.t 8) (.t 21)⟩,
    ⟨(some 9), none, .mv (.t 22)⟩])
  .ret)))
def f20 : DFn := ⟨d20, [.cell 8 true 65, .tmp 9], 23⟩
theorem h20 : decFn Try.prog 20 = some f20 := by kernel_rfl

def d21 : DCode :=
  (.seq (.ops [
    ⟨(some 4), none, .alloc (.st [(.raw (.int .i64 (0))), (.ac 64 (List.replicate 64 (0, 0)))])⟩,
    ⟨(some 5), none, .mv (.c (.raw (.int .i64 (0))))⟩])
  (.seq (.ops [
    ⟨(some 9), none, .mv (.t 0)⟩,
    ⟨(some 10), none, .mv (.t 1)⟩,
    ⟨(some 11), none, .call 39 [(.t 9), (.t 10)]⟩,
    ⟨(some 8), none, .mv (.t 11)⟩,
    ⟨(some 12), none, .ext (.t 8) 0⟩,
    ⟨(some 13), none, .ext (.t 8) 1⟩,
    ⟨(some 6), none, .alloc (.st [(.raw (.int .i64 (0))), (.ac 64 (List.replicate 64 (0, 0)))])⟩,
    ⟨none, none, .store 65 (.t 6) (.t 12)⟩,
    ⟨(some 7), none, .mv (.t 13)⟩])
  (.seq (.ops [
    ⟨(some 14), none, .load true 65 (.t 6)⟩,
    ⟨(some 15), none, .call 27 [(.t 14)]⟩,
    ⟨(some 16), none, .mv (.t 7)⟩,
    ⟨none, none, .store 65 (.t 4) (.t 15)⟩,
    ⟨(some 5), none, .mv (.t 16)⟩])
  .ret)))
def f21 : DFn := ⟨d21, [.cell 4 true 65, .tmp 5], 17⟩
theorem h21 : decFn Try.prog 21 = some f21 := by kernel_rfl

def d22 : DCode :=
  (.seq (.ops [
    ⟨(some 4), none, .alloc (.st [(.raw (.int .i64 (0))), (.ac 64 (List.replicate 64 (0, 0)))])⟩,
    ⟨(some 5), none, .mv (.c (.raw (.int .i64 (0))))⟩])
  (.seq (.ops [
    ⟨(some 9), none, .mv (.t 0)⟩,
    ⟨(some 10), none, .mv (.t 1)⟩,
    ⟨(some 11), none, .call 40 [(.t 9), (.t 10)]⟩,
    ⟨(some 8), none, .mv (.t 11)⟩,
    ⟨(some 12), none, .ext (.t 8) 0⟩,
    ⟨(some 13), none, .ext (.t 8) 1⟩,
    ⟨(some 6), none, .alloc (.st [(.raw (.int .i64 (0))), (.ac 64 (List.replicate 64 (0, 0)))])⟩,
    ⟨none, none, .store 65 (.t 6) (.t 12)⟩,
    ⟨(some 7), none, .mv (.t 13)⟩])
  (.seq (.ops [
    ⟨(some 14), none, .load true 65 (.t 6)⟩,
    ⟨(some 15), none, .call 29 [(.t 14)]⟩,
    ⟨(some 16), none, .mv (.t 7)⟩,
    ⟨none, none, .store 65 (.t 4) (.t 15)⟩,
    ⟨(some 5), none, .mv (.t 16)⟩])
  .ret)))
def f22 : DFn := ⟨d22, [.cell 4 true 65, .tmp 5], 17⟩
theorem h22 : decFn Try.prog 22 = some f22 := by kernel_rfl

def d23 : DCode :=
  (.seq (.ops [
    ⟨(some 0), none, .alloc (.st [(.st [(.raw (.int .i64 (0))), (.ac 64 (List.replicate 64 (0, 0)))]), (.st [(.raw (.int .i64 (0))), (.ac 64 (List.replicate 64 (0, 0)))]), (.st [(.raw (.int .i64 (0))), (.af 64 (List.replicate 64 0))])])⟩])
  (.seq (.ops [
    ⟨(some 1), none, .call 42 []⟩,
    ⟨(some 2), none, .call 41 [(.t 1)]⟩,
    ⟨none, none, .store 195 (.t 0) (.t 2)⟩])
  .ret))
def f23 : DFn := ⟨d23, [.cell 0 true 195], 3⟩
theorem h23 : decFn Try.prog 23 = some f23 := by kernel_rfl

def d24 : DCode :=
  (.seq (.ops [
    ⟨(some 0), none, .alloc (.st [(.st [(.raw (.int .i64 (0))), (.ac 64 (List.replicate 64 (0, 0)))]), (.st [(.raw (.int .i64 (0))), (.ac 64 (List.replicate 64 (0, 0)))]), (.st [(.raw (.int .i64 (0))), (.af 64 (List.replicate 64 0))])])⟩])
  (.seq (.ops [
    ⟨(some 1), none, .call 44 []⟩,
    ⟨(some 2), none, .call 43 [(.t 1)]⟩,
    ⟨none, none, .store 195 (.t 0) (.t 2)⟩])
  .ret))
def f24 : DFn := ⟨d24, [.cell 0 true 195], 3⟩
theorem h24 : decFn Try.prog 24 = some f24 := by kernel_rfl

def d25 : DCode :=
  (.seq (.ops [
    ⟨(some 2), none, .box (.t 0)⟩,
    ⟨(some 3), none, .box (.t 1)⟩,
    ⟨(some 4), none, .mv (.c (.raw (.bool false)))⟩])
  (.seq (.seq (.ops [
    ⟨(some 5), none, .fad (.t 2) 0 0⟩,
    ⟨(some 6), none, .load true 65 (.t 5)⟩,
    ⟨(some 7), none, .fad (.t 3) 0 0⟩,
    ⟨(some 8), none, .load true 65 (.t 7)⟩,
    ⟨(some 9), none, .call 12 [(.t 6), (.t 8)]⟩,
    ⟨(some 10), none, .un .not (.t 9)⟩])
  (.cond (.t 10)
   (.seq (.ops [
     ⟨(some 4), none, .mv (.c (.raw (.bool false)))⟩])
   .ret)
   .skip))
  (.seq (.seq (.ops [
    ⟨(some 11), none, .fad (.t 2) 1 65⟩,
    ⟨(some 12), none, .load true 65 (.t 11)⟩,
    ⟨(some 13), none, .fad (.t 3) 1 65⟩,
    ⟨(some 14), none, .load true 65 (.t 13)⟩,
    ⟨(some 15), none, .call 12 [(.t 12), (.t 14)]⟩,
    ⟨(some 16), none, .un .not (.t 15)⟩])
  (.cond (.t 16)
   (.seq (.ops [
     ⟨(some 4), none, .mv (.c (.raw (.bool false)))⟩])
   .ret)
   .skip))
  (.seq (.seq (.ops [
    ⟨(some 17), none, .fad (.t 2) 2 130⟩,
    ⟨(some 18), none, .load true 65 (.t 17)⟩,
    ⟨(some 19), none, .fad (.t 3) 2 130⟩,
    ⟨(some 20), none, .load true 65 (.t 19)⟩,
    ⟨(some 21), none, .call 45 [(.t 18), (.t 20)]⟩,
    ⟨(some 22), none, .un .not (.t 21)⟩])
  (.cond (.t 22)
   (.seq (.ops [
     ⟨(some 4), none, .mv (.c (.raw (.bool false)))⟩])
   .ret)
   .skip))
  (.seq (.ops [
    ⟨(some 4), none, .mv (.c (.raw (.bool true)))⟩])
  .ret)))))
def f25 : DFn := ⟨d25, [.tmp 4], 23⟩
theorem h25 : decFn Try.prog 25 = some f25 := by kernel_rfl

def d26 : DCode :=
  (.seq (.ops [
    ⟨(some 6), none, .alloc (.st [(.raw (.int .i64 (0))), (.ac 64 (List.replicate 64 (0, 0)))])⟩,
    ⟨(some 7), none, .mv (.c (.raw (.int .i64 (0))))⟩])
  (.seq (.seq (.ops [
    ⟨(some 10), none, .mv (.t 0)⟩,
    ⟨(some 11), none, .call 46 [(.t 10)]⟩,
    ⟨(some 12), none, .un .not (.t 11)⟩,
    ⟨(some 13), none, .mv (.t 12)⟩,
    ⟨(some 14), (some (13, false)), .mv (.t 1)⟩,
    ⟨(some 15), (some (13, false)), .mv (.t 0)⟩,
    ⟨(some 16), (some (13, false)), .call 47 [(.t 14), (.c (.raw (.int .i64 (1)))), (.t 15)]⟩,
    ⟨(some 17), (some (13, false)), .un .not (.t 16)⟩,
    ⟨(some 18), none, .pick (.t 13) (.c (.raw (.bool true))) (.t 17)⟩,
    ⟨(some 19), none, .mv (.t 18)⟩,
    ⟨(some 20), (some (19, false)), .mv (.t 2)⟩,
    ⟨(some 21), (some (19, false)), .mv (.t 1)⟩,
    ⟨(some 22), (some (19, false)), .call 47 [(.t 20), (.c (.raw (.int .i64 (0)))), (.t 21)]⟩,
    ⟨(some 23), (some (19, false)), .un .not (.t 22)⟩,
    ⟨(some 24), none, .pick (.t 19) (.c (.raw (.bool true))) (.t 23)⟩])
  (.cond (.t 24)
   (.seq (.ops [
     ⟨(some 25), none, .build [(.raw (.int .i64 (0))), (.ac 64 (List.replicate 64 (0, 0)))] []⟩,
     ⟨none, none, .store 65 (.t 6) (.t 25)⟩,
     ⟨(some 7), none, .mv (.c (.raw (.int .i64 (2))))⟩])
   .ret)
   .skip))
  (.seq (.ops [
    ⟨(some 26), none, .mv (.t 0)⟩,
    ⟨(some 27), none, .call 48 [(.t 26)]⟩,
    ⟨(some 8), none, .alloc (.st [(.raw (.int .i64 (0))), (.ac 64 (List.replicate 64 (0, 0)))])⟩,
    ⟨none, none, .store 65 (.t 8) (.t 27)⟩])
  (.seq (.seq (.ops [
    ⟨(some 9), none, .mv (.c (.raw (.int .i64 (0))))⟩])
  (.block 0
   (.loop
    (.seq (.seq (.ops [
      ⟨(some 28), none, .mv (.t 9)⟩,
      ⟨(some 29), none, .mv (.t 0)⟩,
      ⟨(some 30), none, .mv (.t 0)⟩,
      ⟨(some 31), none, .bin .mul false (.t 29) (.t 30)⟩,
      ⟨(some 32), none, .bin .lss false (.t 28) (.t 31)⟩])
    (.cond (.t 32)
     .skip
     (.exit 0)))
    (.seq (.block 1
     (.seq (.ops [
       ⟨(some 35), none, .mv (.t 9)⟩,
       ⟨(some 36), none, .mv (.t 0)⟩,
       ⟨(some 37), none, .bin .rem false (.t 35) (.t 36)⟩,
       ⟨(some 38), none, .mv (.t 1)⟩,
       ⟨(some 39), none, .bin .rem false (.t 37) (.t 38)⟩,
       ⟨(some 40), none, .mv (.t 2)⟩,
       ⟨(some 41), none, .bin .lss false (.t 39) (.t 40)⟩])
     (.cond (.t 41)
      (.ops [
        ⟨(some 42), none, .mv (.t 9)⟩,
        ⟨(some 43), none, .fad (.t 8) 1 1⟩,
        ⟨(some 44), none, .iad 64 1 (.t 43) (.t 42)⟩,
        ⟨none, none, .store 1 (.t 44) (.c (.cpx .f32 1065353216 0))⟩])
      .skip)))
    (.ops [
      ⟨(some 33), none, .mv (.t 9)⟩,
      ⟨(some 34), none, .bin .add false (.t 33) (.c (.raw (.int .i64 (1))))⟩,
      ⟨(some 9), none, .mv (.t 34)⟩]))))))
  (.seq (.ops [
    ⟨(some 45), none, .load true 65 (.t 8)⟩,
    ⟨none, none, .store 65 (.t 6) (.t 45)⟩,
    ⟨(some 7), none, .mv (.c (.raw (.int .i64 (0))))⟩])
  .ret)))))
def f26 : DFn := ⟨d26, [.cell 6 true 65, .tmp 7], 46⟩
theorem h26 : decFn Try.prog 26 = some f26 := by kernel_rfl

def d27 : DCode :=
  (.seq (.ops [
    ⟨(some 1), none, .box (.t 0)⟩,
    ⟨(some 2), none, .alloc (.st [(.raw (.int .i64 (0))), (.ac 64 (List.replicate 64 (0, 0)))])⟩])
  (.seq (.seq (.ops [
    ⟨(some 3), none, .mv (.c (.raw (.int .i64 (0))))⟩])
  (.block 0
   (.loop
    (.seq (.seq (.ops [
      ⟨(some 4), none, .mv (.t 3)⟩,
      ⟨(some 5), none, .bin .lss false (.t 4) (.c (.raw (.int .i64 (64))))⟩])
    (.cond (.t 5)
     .skip
     (.exit 0)))
    (.seq (.block 1
     (.ops [
       ⟨(some 8), none, .mv (.t 3)⟩,
       ⟨(some 9), none, .mv (.t 3)⟩,
       ⟨(some 10), none, .fad (.t 1) 1 1⟩,
       ⟨(some 11), none, .iad 64 1 (.t 10) (.t 9)⟩,
       ⟨(some 12), none, .load false 1 (.t 11)⟩,
       ⟨(some 13), none, .call 49 [(.t 12)]⟩,
       ⟨(some 14), none, .fad (.t 1) 1 1⟩,
       ⟨(some 15), none, .iad 64 1 (.t 14) (.t 8)⟩,
       ⟨none, none, .store 1 (.t 15) (.t 13)⟩]))
    (.ops [
      ⟨(some 6), none, .mv (.t 3)⟩,
      ⟨(some 7), none, .bin .add false (.t 6) (.c (.raw (.int .i64 (1))))⟩,
      ⟨(some 3), none, .mv (.t 7)⟩]))))))
  (.seq (.ops [
    ⟨(some 16), none, .load true 65 (.t 1)⟩,
    ⟨none, none, .store 65 (.t 2) (.t 16)⟩])
  .ret)))
def f27 : DFn := ⟨d27, [.cell 2 true 65], 17⟩
theorem h27 : decFn Try.prog 27 = some f27 := by kernel_rfl

def d28 : DCode :=
  (.seq (.ops [
    ⟨(some 4), none, .box (.t 1)⟩,
    ⟨(some 5), none, .box (.t 2)⟩,
    ⟨(some 6), none, .alloc (.st [(.raw (.int .i64 (0))), (.ac 64 (List.replicate 64 (0, 0)))])⟩,
    ⟨(some 7), none, .mv (.c (.raw (.int .i64 (0))))⟩])
  (.seq (.seq (.ops [
    ⟨(some 8), none, .mv (.t 0)⟩,
    ⟨(some 9), none, .call 50 [(.t 8)]⟩,
    ⟨(some 10), none, .un .not (.t 9)⟩,
    ⟨(some 11), none, .mv (.t 10)⟩,
    ⟨(some 12), (some (11, false)), .load false 1 (.t 4)⟩,
    ⟨(some 13), (some (11, false)), .mv (.t 0)⟩,
    ⟨(some 14), (some (11, false)), .call 51 [(.t 12), (.c (.raw (.int .i64 (1)))), (.t 13)]⟩,
    ⟨(some 15), (some (11, false)), .un .not (.t 14)⟩,
    ⟨(some 16), none, .pick (.t 11) (.c (.raw (.bool true))) (.t 15)⟩,
    ⟨(some 17), none, .mv (.t 16)⟩,
    ⟨(some 18), (some (17, false)), .load false 1 (.t 5)⟩,
    ⟨(some 19), (some (17, false)), .load false 1 (.t 4)⟩,
    ⟨(some 20), (some (17, false)), .call 51 [(.t 18), (.c (.raw (.int .i64 (0)))), (.t 19)]⟩,
    ⟨(some 21), (some (17, false)), .un .not (.t 20)⟩,
    ⟨(some 22), none, .pick (.t 17) (.c (.raw (.bool true))) (.t 21)⟩])
  (.cond (.t 22)
   (.seq (.ops [
     ⟨(some 23), none, .build [(.raw (.int .i64 (0))), (.ac 64 (List.replicate 64 (0, 0)))] []⟩,
     ⟨none, none, .store 65 (.t 6) (.t 23)⟩,
     ⟨(some 7), none, .mv (.c (.raw (.int .i64 (2))))⟩])
   .ret)
   .skip))
  (.seq (.ops [
    ⟨(some 24), none, .mv (.t 0)⟩,
    ⟨(some 25), none, .mkf 53 [(.t 4), (.t 5)]⟩,
    ⟨(some 26), none, .call 52 [(.t 24), (.t 25)]⟩,
    ⟨none, none, .store 65 (.t 6) (.t 26)⟩,
    ⟨(some 7), none, .mv (.c (.raw (.int .i64 (0))))⟩])
  .ret)))
def f28 : DFn := ⟨d28, [.cell 6 true 65, .tmp 7], 27⟩
theorem h28 : decFn Try.prog 28 = some f28 := by kernel_rfl

def d29 : DCode :=
  (.seq (.ops [
    ⟨(some 1), none, .box (.t 0)⟩,
    ⟨(some 2), none, .alloc (.st [(.raw (.int .i64 (0))), (.ac 64 (List.replicate 64 (0, 0)))])⟩])
  (.seq (.seq (.ops [
    ⟨(some 17), none, .mki 51 (.t 1)⟩])
  (.block 0
   (.seq (.ops [
     ⟨(some 18), none, .tas (.t 17) 52 (.raw (.pointer none))⟩,
     ⟨(some 19), none, .ext (.t 18) 1⟩,
     ⟨(some 20), none, .ext (.t 18) 0⟩])
   (.cond (.t 19)
    (.seq (.ops [
      ⟨(some 3), none, .mv (.t 20)⟩])
    (.ops [
      ⟨(some 21), none, .mv (.t 3)⟩,
      ⟨(some 22), none, .mv (.t 3)⟩,
      ⟨(some 23), none, .nck (.t 22)⟩,
      ⟨(some 24), none, .load false 1 (.t 23)⟩,
      ⟨(some 25), none, .call 54 [(.t 24)]⟩,
      ⟨(some 26), none, .nck (.t 21)⟩,
      ⟨none, none, .store 1 (.t 26) (.t 25)⟩]))
    (.seq (.ops [
      ⟨(some 27), none, .tas (.t 17) 54 (.raw (.pointer none))⟩,
      ⟨(some 28), none, .ext (.t 27) 1⟩,
      ⟨(some 29), none, .ext (.t 27) 0⟩])
    (.cond (.t 28)
     (.seq (.ops [
       ⟨(some 4), none, .mv (.t 29)⟩])
     (.ops [
       ⟨(some 30), none, .mv (.t 4)⟩,
       ⟨(some 31), none, .mv (.t 4)⟩,
       ⟨(some 32), none, .nck (.t 31)⟩,
       ⟨(some 33), none, .load false 1 (.t 32)⟩,
       ⟨(some 34), none, .call 55 [(.t 33)]⟩,
       ⟨(some 35), none, .nck (.t 30)⟩,
       ⟨none, none, .store 1 (.t 35) (.t 34)⟩]))
     (.seq (.ops [
       ⟨(some 36), none, .tas (.t 17) 51 (.raw (.pointer none))⟩,
       ⟨(some 37), none, .ext (.t 36) 1⟩,
       ⟨(some 38), none, .ext (.t 36) 0⟩])
     (.cond (.t 37)
      (.seq (.ops [
        ⟨(some 5), none, .mv (.t 38)⟩])
      (.seq (.ops [
        ⟨(some 39), none, .mv (.t 5)⟩,
        ⟨(some 40), none, .nck (.t 39)⟩,
        ⟨(some 41), none, .fad (.t 40) 1 1⟩,
        ⟨(some 42), none, .load true 64 (.t 41)⟩,
        ⟨(some 43), none, .mv (.c (.raw (.int .i64 (0))))⟩])
      (.block 1
       (.loop
        (.seq (.ops [
          ⟨(some 44), none, .bin .lss false (.t 43) (.c (.raw (.int .i64 (64))))⟩])
        (.seq (.cond (.t 44)
         .skip
         (.exit 1))
        (.seq (.block 2
         (.seq (.ops [
           ⟨(some 45), none, .mv (.t 43)⟩,
           ⟨(some 46), none, .idx 64 (.t 42) (.t 43)⟩,
           ⟨(some 6), none, .mv (.t 45)⟩,
           ⟨(some 7), none, .mv (.t 46)⟩])
         (.drw [
           ⟨(some 47), none, .mv (.t 5)⟩,
           ⟨(some 48), none, .mv (.t 6)⟩,
           ⟨(some 49), none, .mv (.t 7)⟩,
           ⟨(some 50), none, .call 55 [(.t 49)]⟩,
           ⟨(some 51), none, .nck (.t 47)⟩,
           ⟨(some 52), none, .fad (.t 51) 1 1⟩,
           ⟨(some 53), none, .iad 64 1 (.t 52) (.t 48)⟩] [
           ⟨none, none, .store 1 (.t 53) (.t 50)⟩])))
        (.ops [
          ⟨(some 54), none, .bin .add false (.t 43) (.c (.raw (.int .i64 (1))))⟩,
          ⟨(some 43), none, .mv (.t 54)⟩]))))))))
      (.seq (.ops [
        ⟨(some 55), none, .tas (.t 17) 55 (.raw (.pointer none))⟩,
        ⟨(some 56), none, .ext (.t 55) 1⟩,
        ⟨(some 57), none, .ext (.t 55) 0⟩])
      (.cond (.t 56)
       (.seq (.ops [
         ⟨(some 8), none, .mv (.t 57)⟩])
       (.seq (.ops [
         ⟨(some 58), none, .mv (.t 8)⟩,
         ⟨(some 59), none, .nck (.t 58)⟩,
         ⟨(some 60), none, .fad (.t 59) 1 1⟩,
         ⟨(some 61), none, .load true 64 (.t 60)⟩,
         ⟨(some 62), none, .mv (.c (.raw (.int .i64 (0))))⟩])
       (.block 3
        (.loop
         (.seq (.ops [
           ⟨(some 63), none, .bin .lss false (.t 62) (.c (.raw (.int .i64 (64))))⟩])
         (.seq (.cond (.t 63)
          .skip
          (.exit 3))
         (.seq (.block 4
          (.seq (.ops [
            ⟨(some 64), none, .mv (.t 62)⟩,
            ⟨(some 65), none, .idx 64 (.t 61) (.t 62)⟩,
            ⟨(some 9), none, .mv (.t 64)⟩,
            ⟨(some 10), none, .mv (.t 65)⟩])
          (.drw [
            ⟨(some 66), none, .mv (.t 8)⟩,
            ⟨(some 67), none, .mv (.t 9)⟩,
            ⟨(some 68), none, .mv (.t 10)⟩,
            ⟨(some 69), none, .call 54 [(.t 68)]⟩,
            ⟨(some 70), none, .nck (.t 66)⟩,
            ⟨(some 71), none, .fad (.t 70) 1 1⟩,
            ⟨(some 72), none, .iad 64 1 (.t 71) (.t 67)⟩] [
            ⟨none, none, .store 1 (.t 72) (.t 69)⟩])))
         (.ops [
           ⟨(some 73), none, .bin .add false (.t 62) (.c (.raw (.int .i64 (1))))⟩,
           ⟨(some 62), none, .mv (.t 73)⟩]))))))))
       (.seq (.ops [
         ⟨(some 74), none, .tas (.t 17) 56 (.raw (.pointer none))⟩,
         ⟨(some 75), none, .ext (.t 74) 1⟩,
         ⟨(some 76), none, .ext (.t 74) 0⟩])
       (.cond (.t 75)
        (.seq (.ops [
          ⟨(some 11), none, .mv (.t 76)⟩])
        (.ops [
          ⟨(some 77), none, .mv (.t 11)⟩,
          ⟨(some 78), none, .mv (.t 11)⟩,
          ⟨(some 79), none, .nck (.t 78)⟩,
          ⟨(some 80), none, .load false 1 (.t 79)⟩,
          ⟨(some 81), none, .call 56 [(.t 80)]⟩,
          ⟨(some 82), none, .nck (.t 77)⟩,
          ⟨none, none, .store 1 (.t 82) (.t 81)⟩]))
        (.seq (.ops [
          ⟨(some 83), none, .tas (.t 17) 59 (.raw (.pointer none))⟩,
          ⟨(some 84), none, .ext (.t 83) 1⟩,
          ⟨(some 85), none, .ext (.t 83) 0⟩])
        (.cond (.t 84)
         (.seq (.ops [
           ⟨(some 12), none, .mv (.t 85)⟩])
         (.ops [
           ⟨(some 86), none, .mv (.t 12)⟩,
           ⟨(some 87), none, .mv (.t 12)⟩,
           ⟨(some 88), none, .nck (.t 87)⟩,
           ⟨(some 89), none, .load false 1 (.t 88)⟩,
           ⟨(some 90), none, .call 57 [(.t 89)]⟩,
           ⟨(some 91), none, .nck (.t 86)⟩,
           ⟨none, none, .store 1 (.t 91) (.t 90)⟩]))
         (.seq (.ops [
           ⟨(some 92), none, .tas (.t 17) 62 (.raw (.pointer none))⟩,
           ⟨(some 93), none, .ext (.t 92) 1⟩,
           ⟨(some 94), none, .ext (.t 92) 0⟩])
         (.cond (.t 93)
          (.seq (.ops [
            ⟨(some 13), none, .mv (.t 94)⟩])
          (.ops [
            ⟨(some 95), none, .mv (.t 13)⟩,
            ⟨(some 96), none, .mv (.t 13)⟩,
            ⟨(some 97), none, .nck (.t 96)⟩,
            ⟨(some 98), none, .load false 1 (.t 97)⟩,
            ⟨(some 99), none, .call 58 [(.t 98)]⟩,
            ⟨(some 100), none, .nck (.t 95)⟩,
            ⟨none, none, .store 1 (.t 100) (.t 99)⟩]))
          (.seq (.ops [
            ⟨(some 101), none, .tas (.t 17) 65 (.raw (.pointer none))⟩,
            ⟨(some 102), none, .ext (.t 101) 1⟩,
            ⟨(some 103), none, .ext (.t 101) 0⟩])
          (.cond (.t 102)
           (.seq (.ops [
             ⟨(some 14), none, .mv (.t 103)⟩])
           (.ops [
             ⟨(some 104), none, .mv (.t 14)⟩,
             ⟨(some 105), none, .mv (.t 14)⟩,
             ⟨(some 106), none, .nck (.t 105)⟩,
             ⟨(some 107), none, .load false 1 (.t 106)⟩,
             ⟨(some 108), none, .call 59 [(.t 107)]⟩,
             ⟨(some 109), none, .nck (.t 104)⟩,
             ⟨none, none, .store 1 (.t 109) (.t 108)⟩]))
           (.seq (.ops [
             ⟨(some 110), none, .tas (.t 17) 68 (.raw (.pointer none))⟩,
             ⟨(some 111), none, .ext (.t 110) 1⟩,
             ⟨(some 112), none, .ext (.t 110) 0⟩])
           (.cond (.t 111)
            (.seq (.ops [
              ⟨(some 15), none, .mv (.t 112)⟩])
            (.ops [
              ⟨(some 113), none, .mv (.t 15)⟩,
              ⟨(some 114), none, .mv (.t 15)⟩,
              ⟨(some 115), none, .nck (.t 114)⟩,
              ⟨(some 116), none, .load false 1 (.t 115)⟩,
              ⟨(some 117), none, .call 60 [(.t 116)]⟩,
              ⟨(some 118), none, .nck (.t 113)⟩,
              ⟨none, none, .store 1 (.t 118) (.t 117)⟩]))
            (.seq (.ops [
              ⟨(some 119), none, .tai (.t 17) [80] (.raw .nilIface)⟩,
              ⟨(some 120), none, .ext (.t 119) 1⟩,
              ⟨(some 121), none, .ext (.t 119) 0⟩])
            (.cond (.t 120)
             (.seq (.ops [
               ⟨(some 16), none, .mv (.t 121)⟩])
             (.ops [
               ⟨(some 122), none, .mv (.t 16)⟩,
               ⟨(some 123), none, .inv (.t 122) [(80, 106)] []⟩]))
             .skip))))))))))))))))))))))
  (.seq (.ops [
    ⟨(some 124), none, .load true 65 (.t 1)⟩,
    ⟨none, none, .store 65 (.t 2) (.t 124)⟩])
  .ret)))
def f29 : DFn := ⟨d29, [.cell 2 true 65], 125⟩
theorem h29 : decFn Try.prog 29 = some f29 := by kernel_rfl

def d30 : DCode :=
  (.seq (.ops [
    ⟨(some 2), none, .box (.t 0)⟩,
    ⟨(some 3), none, .box (.t 1)⟩,
    ⟨(some 4), none, .mv (.c (.raw (.bool false)))⟩])
  (.seq (.seq (.ops [
    ⟨(some 5), none, .mv (.c (.raw (.int .i64 (0))))⟩])
  (.block 0
   (.loop
    (.seq (.seq (.ops [
      ⟨(some 6), none, .mv (.t 5)⟩,
      ⟨(some 7), none, .bin .lss false (.t 6) (.c (.raw (.int .i64 (64))))⟩])
    (.cond (.t 7)
     .skip
     (.exit 0)))
    (.seq (.block 1
     (.seq (.drw [
       ⟨(some 10), none, .mv (.t 5)⟩,
       ⟨(some 11), none, .iad 64 1 (.t 2) (.t 10)⟩,
       ⟨(some 12), none, .load false 1 (.t 11)⟩,
       ⟨(some 13), none, .cvC .f64 (.t 12)⟩,
       ⟨(some 14), none, .mv (.t 5)⟩,
       ⟨(some 15), none, .iad 64 1 (.t 3) (.t 14)⟩,
       ⟨(some 16), none, .load false 1 (.t 15)⟩,
       ⟨(some 17), none, .cvC .f64 (.t 16)⟩,
       ⟨(some 18), none, .call 61 [(.t 13), (.t 17)]⟩,
       ⟨(some 19), none, .un .not (.t 18)⟩] [
       ])
     (.cond (.t 19)
      (.seq (.ops [
        ⟨(some 4), none, .mv (.c (.raw (.bool false)))⟩])
      .ret)
      .skip)))
    (.ops [
      ⟨(some 8), none, .mv (.t 5)⟩,
      ⟨(some 9), none, .bin .add false (.t 8) (.c (.raw (.int .i64 (1))))⟩,
      ⟨(some 5), none, .mv (.t 9)⟩]))))))
  (.seq (.ops [
    ⟨(some 4), none, .mv (.c (.raw (.bool true)))⟩])
  .ret)))
def f30 : DFn := ⟨d30, [.tmp 4], 20⟩
theorem h30 : decFn Try.prog 30 = some f30 := by kernel_rfl

def d31 : DCode :=
  (.seq (.ops [
    ⟨(some 6), none, .alloc (.st [(.raw (.int .i64 (0))), (.ac 64 (List.replicate 64 (0, 0)))])⟩,
    ⟨(some 7), none, .mv (.c (.raw (.int .i64 (0))))⟩])
  (.seq (.seq (.ops [
    ⟨(some 11), none, .mv (.t 0)⟩,
    ⟨(some 12), none, .call 46 [(.t 11)]⟩,
    ⟨(some 13), none, .un .not (.t 12)⟩,
    ⟨(some 14), none, .mv (.t 13)⟩,
    ⟨(some 15), (some (14, false)), .mv (.t 1)⟩,
    ⟨(some 16), (some (14, false)), .mv (.t 0)⟩,
    ⟨(some 17), (some (14, false)), .bin .sub false (.t 16) (.c (.raw (.int .i64 (1))))⟩,
    ⟨(some 18), (some (14, false)), .call 47 [(.t 15), (.c (.raw (.int .i64 (0)))), (.t 17)]⟩,
    ⟨(some 19), (some (14, false)), .un .not (.t 18)⟩,
    ⟨(some 20), none, .pick (.t 14) (.c (.raw (.bool true))) (.t 19)⟩,
    ⟨(some 21), none, .mv (.t 20)⟩,
    ⟨(some 22), (some (21, false)), .mv (.t 2)⟩,
    ⟨(some 23), (some (21, false)), .mv (.t 0)⟩,
    ⟨(some 24), (some (21, false)), .mv (.t 1)⟩,
    ⟨(some 25), (some (21, false)), .bin .sub false (.t 23) (.t 24)⟩,
    ⟨(some 26), (some (21, false)), .call 47 [(.t 22), (.c (.raw (.int .i64 (0)))), (.t 25)]⟩,
    ⟨(some 27), (some (21, false)), .un .not (.t 26)⟩,
    ⟨(some 28), none, .pick (.t 21) (.c (.raw (.bool true))) (.t 27)⟩])
  (.cond (.t 28)
   (.seq (.ops [
     ⟨(some 29), none, .build [(.raw (.int .i64 (0))), (.ac 64 (List.replicate 64 (0, 0)))] []⟩,
     ⟨none, none, .store 65 (.t 6) (.t 29)⟩,
     ⟨(some 7), none, .mv (.c (.raw (.int .i64 (2))))⟩])
   .ret)
   .skip))
  (.seq (.ops [
    ⟨(some 30), none, .mv (.t 0)⟩,
    ⟨(some 31), none, .call 48 [(.t 30)]⟩,
    ⟨(some 8), none, .alloc (.st [(.raw (.int .i64 (0))), (.ac 64 (List.replicate 64 (0, 0)))])⟩,
    ⟨none, none, .store 65 (.t 8) (.t 31)⟩])
  (.seq (.seq (.ops [
    ⟨(some 9), none, .mv (.c (.raw (.int .i64 (0))))⟩])
  (.block 0
   (.loop
    (.seq (.seq (.ops [
      ⟨(some 32), none, .mv (.t 9)⟩,
      ⟨(some 33), none, .mv (.t 0)⟩,
      ⟨(some 34), none, .bin .lss false (.t 32) (.t 33)⟩])
    (.cond (.t 34)
     .skip
     (.exit 0)))
    (.seq (.block 1
     (.seq (.ops [
       ⟨(some 37), none, .mv (.t 1)⟩,
       ⟨(some 10), none, .mv (.t 37)⟩])
     (.block 2
      (.loop
       (.seq (.seq (.ops [
         ⟨(some 38), none, .mv (.t 10)⟩,
         ⟨(some 39), none, .mv (.t 1)⟩,
         ⟨(some 40), none, .mv (.t 2)⟩,
         ⟨(some 41), none, .bin .add false (.t 39) (.t 40)⟩,
         ⟨(some 42), none, .bin .lss false (.t 38) (.t 41)⟩])
       (.cond (.t 42)
        .skip
        (.exit 2)))
       (.seq (.block 3
        (.ops [
          ⟨(some 45), none, .mv (.t 0)⟩,
          ⟨(some 46), none, .mv (.t 9)⟩,
          ⟨(some 47), none, .bin .mul false (.t 45) (.t 46)⟩,
          ⟨(some 48), none, .mv (.t 10)⟩,
          ⟨(some 49), none, .bin .add false (.t 47) (.t 48)⟩,
          ⟨(some 50), none, .fad (.t 8) 1 1⟩,
          ⟨(some 51), none, .iad 64 1 (.t 50) (.t 49)⟩,
          ⟨none, none, .store 1 (.t 51) (.c (.cpx .f32 1065353216 0))⟩]))
       (.ops [
         ⟨(some 43), none, .mv (.t 10)⟩,
         ⟨(some 44), none, .bin .add false (.t 43) (.c (.raw (.int .i64 (1))))⟩,
         ⟨(some 10), none, .mv (.t 44)⟩])))))))
    (.ops [
      ⟨(some 35), none, .mv (.t 9)⟩,
      ⟨(some 36), none, .bin .add false (.t 35) (.c (.raw (.int .i64 (1))))⟩,
      ⟨(some 9), none, .mv (.t 36)⟩]))))))
  (.seq (.ops [
    ⟨(some 52), none, .load true 65 (.t 8)⟩,
    ⟨none, none, .store 65 (.t 6) (.t 52)⟩,
    ⟨(some 7), none, .mv (.c (.raw (.int .i64 (0))))⟩])
  .ret)))))
def f31 : DFn := ⟨d31, [.cell 6 true 65, .tmp 7], 53⟩
theorem h31 : decFn Try.prog 31 = some f31 := by kernel_rfl

def d32 : DCode :=
  (.seq (.ops [
    ⟨(some 4), none, .box (.t 1)⟩,
    ⟨(some 5), none, .box (.t 2)⟩,
    ⟨(some 6), none, .alloc (.st [(.raw (.int .i64 (0))), (.ac 64 (List.replicate 64 (0, 0)))])⟩,
    ⟨(some 7), none, .mv (.c (.raw (.int .i64 (0))))⟩])
  (.seq (.seq (.ops [
    ⟨(some 8), none, .mv (.t 0)⟩,
    ⟨(some 9), none, .call 50 [(.t 8)]⟩,
    ⟨(some 10), none, .un .not (.t 9)⟩,
    ⟨(some 11), none, .mv (.t 10)⟩,
    ⟨(some 12), (some (11, false)), .load false 1 (.t 4)⟩,
    ⟨(some 13), (some (11, false)), .mv (.t 0)⟩,
    ⟨(some 14), (some (11, false)), .bin .sub false (.t 13) (.c (.raw (.int .i64 (1))))⟩,
    ⟨(some 15), (some (11, false)), .call 51 [(.t 12), (.c (.raw (.int .i64 (0)))), (.t 14)]⟩,
    ⟨(some 16), (some (11, false)), .un .not (.t 15)⟩,
    ⟨(some 17), none, .pick (.t 11) (.c (.raw (.bool true))) (.t 16)⟩,
    ⟨(some 18), none, .mv (.t 17)⟩,
    ⟨(some 19), (some (18, false)), .load false 1 (.t 5)⟩,
    ⟨(some 20), (some (18, false)), .mv (.t 0)⟩,
    ⟨(some 21), (some (18, false)), .load false 1 (.t 4)⟩,
    ⟨(some 22), (some (18, false)), .bin .sub false (.t 20) (.t 21)⟩,
    ⟨(some 23), (some (18, false)), .call 51 [(.t 19), (.c (.raw (.int .i64 (0)))), (.t 22)]⟩,
    ⟨(some 24), (some (18, false)), .un .not (.t 23)⟩,
    ⟨(some 25), none, .pick (.t 18) (.c (.raw (.bool true))) (.t 24)⟩])
  (.cond (.t 25)
   (.seq (.ops [
     ⟨(some 26), none, .build [(.raw (.int .i64 (0))), (.ac 64 (List.replicate 64 (0, 0)))] []⟩,
     ⟨none, none, .store 65 (.t 6) (.t 26)⟩,
     ⟨(some 7), none, .mv (.c (.raw (.int .i64 (2))))⟩])
   .ret)
   .skip))
  (.seq (.ops [
    ⟨(some 27), none, .mv (.t 0)⟩,
    ⟨(some 28), none, .mkf 62 [(.t 4), (.t 5)]⟩,
    ⟨(some 29), none, .call 52 [(.t 27), (.t 28)]⟩,
    ⟨none, none, .store 65 (.t 6) (.t 29)⟩,
    ⟨(some 7), none, .mv (.c (.raw (.int .i64 (0))))⟩])
  .ret)))
def f32 : DFn := ⟨d32, [.cell 6 true 65, .tmp 7], 30⟩
theorem h32 : decFn Try.prog 32 = some f32 := by kernel_rfl

def d33 : DCode :=
  (.seq (.ops [
    ⟨(some 4), none, .alloc (.st [(.raw (.int .i64 (0))), (.ac 64 (List.replicate 64 (0, 0)))])⟩,
    ⟨(some 5), none, .mv (.c (.raw (.int .i64 (0))))⟩])
  (.seq (.seq (.ops [
    ⟨(some 9), none, .mv (.t 0)⟩,
    ⟨(some 10), none, .call 46 [(.t 9)]⟩,
    ⟨(some 11), none, .un .not (.t 10)⟩,
    ⟨(some 12), none, .mv (.t 11)⟩,
    ⟨(some 13), (some (12, false)), .mv (.t 1)⟩,
    ⟨(some 14), (some (12, false)), .mv (.t 0)⟩,
    ⟨(some 15), (some (12, false)), .call 47 [(.t 13), (.c (.raw (.int .i64 (1)))), (.t 14)]⟩,
    ⟨(some 16), (some (12, false)), .un .not (.t 15)⟩,
    ⟨(some 17), none, .pick (.t 12) (.c (.raw (.bool true))) (.t 16)⟩])
  (.cond (.t 17)
   (.seq (.ops [
     ⟨(some 18), none, .build [(.raw (.int .i64 (0))), (.ac 64 (List.replicate 64 (0, 0)))] []⟩,
     ⟨none, none, .store 65 (.t 4) (.t 18)⟩,
     ⟨(some 5), none, .mv (.c (.raw (.int .i64 (2))))⟩])
   .ret)
   .skip))
  (.seq (.ops [
    ⟨(some 19), none, .mv (.t 0)⟩,
    ⟨(some 20), none, .call 48 [(.t 19)]⟩,
    ⟨(some 6), none, .alloc (.st [(.raw (.int .i64 (0))), (.ac 64 (List.replicate 64 (0, 0)))])⟩,
    ⟨none, none, .store 65 (.t 6) (.t 20)⟩])
  (.seq (.seq (.ops [
    ⟨(some 7), none, .mv (.c (.raw (.int .i64 (0))))⟩])
  (.block 0
   (.loop
    (.seq (.seq (.ops [
      ⟨(some 21), none, .mv (.t 7)⟩,
      ⟨(some 22), none, .mv (.t 0)⟩,
      ⟨(some 23), none, .bin .lss false (.t 21) (.t 22)⟩])
    (.cond (.t 23)
     .skip
     (.exit 0)))
    (.seq (.block 1
     (.seq (.ops [
       ⟨(some 8), none, .mv (.c (.raw (.int .i64 (0))))⟩])
     (.block 2
      (.loop
       (.seq (.seq (.ops [
         ⟨(some 26), none, .mv (.t 8)⟩,
         ⟨(some 27), none, .mv (.t 0)⟩,
         ⟨(some 28), none, .bin .lss false (.t 26) (.t 27)⟩])
       (.cond (.t 28)
        .skip
        (.exit 2)))
       (.seq (.block 3
        (.seq (.drw [
          ⟨(some 31), none, .mv (.t 7)⟩,
          ⟨(some 32), none, .mv (.t 1)⟩,
          ⟨(some 33), none, .bin .quo false (.t 31) (.t 32)⟩,
          ⟨(some 34), none, .mv (.t 8)⟩,
          ⟨(some 35), none, .mv (.t 1)⟩,
          ⟨(some 36), none, .bin .quo false (.t 34) (.t 35)⟩,
          ⟨(some 37), none, .bin .add false (.t 33) (.t 36)⟩,
          ⟨(some 38), none, .bin .rem false (.t 37) (.c (.raw (.int .i64 (2))))⟩,
          ⟨(some 39), none, .bin .eql false (.t 38) (.c (.raw (.int .i64 (0))))⟩] [
          ])
        (.cond (.t 39)
         (.ops [
           ⟨(some 40), none, .mv (.t 0)⟩,
           ⟨(some 41), none, .mv (.t 7)⟩,
           ⟨(some 42), none, .bin .mul false (.t 40) (.t 41)⟩,
           ⟨(some 43), none, .mv (.t 8)⟩,
           ⟨(some 44), none, .bin .add false (.t 42) (.t 43)⟩,
           ⟨(some 45), none, .fad (.t 6) 1 1⟩,
           ⟨(some 46), none, .iad 64 1 (.t 45) (.t 44)⟩,
           ⟨none, none, .store 1 (.t 46) (.c (.cpx .f32 1065353216 0))⟩])
         .skip)))
       (.ops [
         ⟨(some 29), none, .mv (.t 8)⟩,
         ⟨(some 30), none, .bin .add false (.t 29) (.c (.raw (.int .i64 (1))))⟩,
         ⟨(some 8), none, .mv (.t 30)⟩])))))))
    (.ops [
      ⟨(some 24), none, .mv (.t 7)⟩,
      ⟨(some 25), none, .bin .add false (.t 24) (.c (.raw (.int .i64 (1))))⟩,
      ⟨(some 7), none, .mv (.t 25)⟩]))))))
  (.seq (.ops [
    ⟨(some 47), none, .load true 65 (.t 6)⟩,
    ⟨none, none, .store 65 (.t 4) (.t 47)⟩,
    ⟨(some 5), none, .mv (.c (.raw (.int .i64 (0))))⟩])
  .ret)))))
def f33 : DFn := ⟨d33, [.cell 4 true 65, .tmp 5], 48⟩
theorem h33 : decFn Try.prog 33 = some f33 := by kernel_rfl

def d34 : DCode :=
  (.seq (.ops [
    ⟨(some 3), none, .box (.t 1)⟩,
    ⟨(some 4), none, .alloc (.st [(.raw (.int .i64 (0))), (.ac 64 (List.replicate 64 (0, 0)))])⟩,
    ⟨(some 5), none, .mv (.c (.raw (.int .i64 (0))))⟩])
  (.seq (.seq (.ops [
    ⟨(some 6), none, .mv (.t 0)⟩,
    ⟨(some 7), none, .call 50 [(.t 6)]⟩,
    ⟨(some 8), none, .un .not (.t 7)⟩,
    ⟨(some 9), none, .mv (.t 8)⟩,
    ⟨(some 10), (some (9, false)), .load false 1 (.t 3)⟩,
    ⟨(some 11), (some (9, false)), .mv (.t 0)⟩,
    ⟨(some 12), (some (9, false)), .call 51 [(.t 10), (.c (.raw (.int .i64 (1)))), (.t 11)]⟩,
    ⟨(some 13), (some (9, false)), .un .not (.t 12)⟩,
    ⟨(some 14), none, .pick (.t 9) (.c (.raw (.bool true))) (.t 13)⟩])
  (.cond (.t 14)
   (.seq (.ops [
     ⟨(some 15), none, .build [(.raw (.int .i64 (0))), (.ac 64 (List.replicate 64 (0, 0)))] []⟩,
     ⟨none, none, .store 65 (.t 4) (.t 15)⟩,
     ⟨(some 5), none, .mv (.c (.raw (.int .i64 (2))))⟩])
   .ret)
   .skip))
  (.seq (.ops [
    ⟨(some 16), none, .mv (.t 0)⟩,
    ⟨(some 17), none, .mkf 63 [(.t 3)]⟩,
    ⟨(some 18), none, .call 52 [(.t 16), (.t 17)]⟩,
    ⟨none, none, .store 65 (.t 4) (.t 18)⟩,
    ⟨(some 5), none, .mv (.c (.raw (.int .i64 (0))))⟩])
  .ret)))
def f34 : DFn := ⟨d34, [.cell 4 true 65, .tmp 5], 19⟩
theorem h34 : decFn Try.prog 34 = some f34 := by kernel_rfl

def d35 : DCode :=
  (.seq (.ops [
    ⟨(some 8), none, .alloc (.st [(.raw (.int .i64 (0))), (.ac 64 (List.replicate 64 (0, 0)))])⟩,
    ⟨(some 9), none, .mv (.c (.raw (.int .i64 (0))))⟩])
  (.seq (.seq (.ops [
    ⟨(some 13), none, .mv (.t 0)⟩,
    ⟨(some 14), none, .mv (.t 1)⟩,
    ⟨(some 15), none, .mv (.t 2)⟩,
    ⟨(some 16), none, .call 64 [(.t 13), (.t 14), (.t 15)]⟩,
    ⟨(some 17), none, .un .not (.t 16)⟩,
    ⟨(some 18), none, .mv (.t 17)⟩,
    ⟨(some 19), (some (18, false)), .mv (.t 3)⟩,
    ⟨(some 20), (some (18, false)), .call 47 [(.t 19), (.c (.raw (.int .i64 (0)))), (.c (.raw (.int .i64 (1000))))]⟩,
    ⟨(some 21), (some (18, false)), .un .not (.t 20)⟩,
    ⟨(some 22), none, .pick (.t 18) (.c (.raw (.bool true))) (.t 21)⟩])
  (.cond (.t 22)
   (.seq (.ops [
     ⟨(some 23), none, .build [(.raw (.int .i64 (0))), (.ac 64 (List.replicate 64 (0, 0)))] []⟩,
     ⟨none, none, .store 65 (.t 8) (.t 23)⟩,
     ⟨(some 9), none, .mv (.c (.raw (.int .i64 (2))))⟩])
   .ret)
   .skip))
  (.seq (.ops [
    ⟨(some 24), none, .mv (.t 0)⟩,
    ⟨(some 25), none, .call 48 [(.t 24)]⟩,
    ⟨(some 10), none, .alloc (.st [(.raw (.int .i64 (0))), (.ac 64 (List.replicate 64 (0, 0)))])⟩,
    ⟨none, none, .store 65 (.t 10) (.t 25)⟩])
  (.seq (.seq (.ops [
    ⟨(some 11), none, .mv (.c (.raw (.int .i64 (0))))⟩])
  (.block 0
   (.loop
    (.seq (.seq (.ops [
      ⟨(some 26), none, .mv (.t 11)⟩,
      ⟨(some 27), none, .mv (.t 0)⟩,
      ⟨(some 28), none, .bin .lss false (.t 26) (.t 27)⟩])
    (.cond (.t 28)
     .skip
     (.exit 0)))
    (.seq (.block 1
     (.seq (.ops [
       ⟨(some 12), none, .mv (.c (.raw (.int .i64 (0))))⟩])
     (.block 2
      (.loop
       (.seq (.seq (.ops [
         ⟨(some 31), none, .mv (.t 12)⟩,
         ⟨(some 32), none, .mv (.t 0)⟩,
         ⟨(some 33), none, .bin .lss false (.t 31) (.t 32)⟩])
       (.cond (.t 33)
        .skip
        (.exit 2)))
       (.seq (.block 3
        (.seq (.ops [
          ⟨(some 36), none, .mv (.t 11)⟩,
          ⟨(some 37), none, .mv (.t 12)⟩,
          ⟨(some 38), none, .mv (.t 1)⟩,
          ⟨(some 39), none, .mv (.t 2)⟩,
          ⟨(some 40), none, .call 65 [(.t 36), (.t 37), (.t 38), (.t 39)]⟩,
          ⟨(some 41), none, .mv (.t 3)⟩,
          ⟨(some 42), none, .bin .leq false (.t 40) (.t 41)⟩])
        (.cond (.t 42)
         (.ops [
           ⟨(some 43), none, .mv (.t 0)⟩,
           ⟨(some 44), none, .mv (.t 11)⟩,
           ⟨(some 45), none, .bin .mul false (.t 43) (.t 44)⟩,
           ⟨(some 46), none, .mv (.t 12)⟩,
           ⟨(some 47), none, .bin .add false (.t 45) (.t 46)⟩,
           ⟨(some 48), none, .fad (.t 10) 1 1⟩,
           ⟨(some 49), none, .iad 64 1 (.t 48) (.t 47)⟩,
           ⟨none, none, .store 1 (.t 49) (.c (.cpx .f32 1065353216 0))⟩])
         .skip)))
       (.ops [
         ⟨(some 34), none, .mv (.t 12)⟩,
         ⟨(some 35), none, .bin .add false (.t 34) (.c (.raw (.int .i64 (1))))⟩,
         ⟨(some 12), none, .mv (.t 35)⟩])))))))
    (.ops [
      ⟨(some 29), none, .mv (.t 11)⟩,
      ⟨(some 30), none, .bin .add false (.t 29) (.c (.raw (.int .i64 (1))))⟩,
      ⟨(some 11), none, .mv (.t 30)⟩]))))))
  (.seq (.ops [
    ⟨(some 50), none, .load true 65 (.t 10)⟩,
    ⟨none, none, .store 65 (.t 8) (.t 50)⟩,
    ⟨(some 9), none, .mv (.c (.raw (.int .i64 (0))))⟩])
  .ret)))))
def f35 : DFn := ⟨d35, [.cell 8 true 65, .tmp 9], 51⟩
theorem h35 : decFn Try.prog 35 = some f35 := by kernel_rfl

def d36 : DCode :=
  (.seq (.ops [
    ⟨(some 5), none, .box (.t 1)⟩,
    ⟨(some 6), none, .box (.t 2)⟩,
    ⟨(some 7), none, .box (.t 3)⟩,
    ⟨(some 8), none, .alloc (.st [(.raw (.int .i64 (0))), (.ac 64 (List.replicate 64 (0, 0)))])⟩,
    ⟨(some 9), none, .mv (.c (.raw (.int .i64 (0))))⟩])
  (.seq (.seq (.ops [
    ⟨(some 10), none, .mv (.t 0)⟩,
    ⟨(some 11), none, .load false 1 (.t 5)⟩,
    ⟨(some 12), none, .load false 1 (.t 6)⟩,
    ⟨(some 13), none, .call 66 [(.t 10), (.t 11), (.t 12)]⟩,
    ⟨(some 14), none, .un .not (.t 13)⟩,
    ⟨(some 15), none, .mv (.t 14)⟩,
    ⟨(some 16), (some (15, false)), .load false 1 (.t 7)⟩,
    ⟨(some 17), (some (15, false)), .call 51 [(.t 16), (.c (.raw (.int .i64 (0)))), (.c (.raw (.int .i64 (1000))))]⟩,
    ⟨(some 18), (some (15, false)), .un .not (.t 17)⟩,
    ⟨(some 19), none, .pick (.t 15) (.c (.raw (.bool true))) (.t 18)⟩])
  (.cond (.t 19)
   (.seq (.ops [
     ⟨(some 20), none, .build [(.raw (.int .i64 (0))), (.ac 64 (List.replicate 64 (0, 0)))] []⟩,
     ⟨none, none, .store 65 (.t 8) (.t 20)⟩,
     ⟨(some 9), none, .mv (.c (.raw (.int .i64 (2))))⟩])
   .ret)
   .skip))
  (.seq (.ops [
    ⟨(some 21), none, .mv (.t 0)⟩,
    ⟨(some 22), none, .mkf 67 [(.t 5), (.t 6), (.t 7)]⟩,
    ⟨(some 23), none, .call 52 [(.t 21), (.t 22)]⟩,
    ⟨none, none, .store 65 (.t 8) (.t 23)⟩,
    ⟨(some 9), none, .mv (.c (.raw (.int .i64 (0))))⟩])
  .ret)))
def f36 : DFn := ⟨d36, [.cell 8 true 65, .tmp 9], 24⟩
theorem h36 : decFn Try.prog 36 = some f36 := by kernel_rfl

def d37 : DCode :=
  (.seq (.ops [
    ⟨(some 8), none, .alloc (.st [(.raw (.int .i64 (0))), (.ac 64 (List.replicate 64 (0, 0)))])⟩,
    ⟨(some 9), none, .mv (.c (.raw (.int .i64 (0))))⟩])
  (.seq (.seq (.ops [
    ⟨(some 13), none, .mv (.t 0)⟩,
    ⟨(some 14), none, .mv (.t 1)⟩,
    ⟨(some 15), none, .mv (.t 2)⟩,
    ⟨(some 16), none, .call 64 [(.t 13), (.t 14), (.t 15)]⟩,
    ⟨(some 17), none, .un .not (.t 16)⟩,
    ⟨(some 18), none, .mv (.t 17)⟩,
    ⟨(some 19), (some (18, false)), .mv (.t 3)⟩,
    ⟨(some 20), (some (18, false)), .call 47 [(.t 19), (.c (.raw (.int .i64 (1)))), (.c (.raw (.int .i64 (1000))))]⟩,
    ⟨(some 21), (some (18, false)), .un .not (.t 20)⟩,
    ⟨(some 22), none, .pick (.t 18) (.c (.raw (.bool true))) (.t 21)⟩])
  (.cond (.t 22)
   (.seq (.ops [
     ⟨(some 23), none, .build [(.raw (.int .i64 (0))), (.ac 64 (List.replicate 64 (0, 0)))] []⟩,
     ⟨none, none, .store 65 (.t 8) (.t 23)⟩,
     ⟨(some 9), none, .mv (.c (.raw (.int .i64 (2))))⟩])
   .ret)
   .skip))
  (.seq (.ops [
    ⟨(some 24), none, .mv (.t 0)⟩,
    ⟨(some 25), none, .call 48 [(.t 24)]⟩,
    ⟨(some 10), none, .alloc (.st [(.raw (.int .i64 (0))), (.ac 64 (List.replicate 64 (0, 0)))])⟩,
    ⟨none, none, .store 65 (.t 10) (.t 25)⟩])
  (.seq (.seq (.ops [
    ⟨(some 11), none, .mv (.c (.raw (.int .i64 (0))))⟩])
  (.block 0
   (.loop
    (.seq (.seq (.ops [
      ⟨(some 26), none, .mv (.t 11)⟩,
      ⟨(some 27), none, .mv (.t 0)⟩,
      ⟨(some 28), none, .bin .lss false (.t 26) (.t 27)⟩])
    (.cond (.t 28)
     .skip
     (.exit 0)))
    (.seq (.block 1
     (.seq (.ops [
       ⟨(some 12), none, .mv (.c (.raw (.int .i64 (0))))⟩])
     (.block 2
      (.loop
       (.seq (.seq (.ops [
         ⟨(some 31), none, .mv (.t 12)⟩,
         ⟨(some 32), none, .mv (.t 0)⟩,
         ⟨(some 33), none, .bin .lss false (.t 31) (.t 32)⟩])
       (.cond (.t 33)
        .skip
        (.exit 2)))
       (.seq (.block 3
        (.seq (.ops [
          ⟨(some 36), none, .mv (.t 11)⟩,
          ⟨(some 37), none, .mv (.t 12)⟩,
          ⟨(some 38), none, .mv (.t 1)⟩,
          ⟨(some 39), none, .mv (.t 2)⟩,
          ⟨(some 40), none, .call 65 [(.t 36), (.t 37), (.t 38), (.t 39)]⟩,
          ⟨(some 41), none, .mv (.t 3)⟩,
          ⟨(some 42), none, .bin .quo false (.t 40) (.t 41)⟩,
          ⟨(some 43), none, .bin .rem false (.t 42) (.c (.raw (.int .i64 (2))))⟩,
          ⟨(some 44), none, .bin .eql false (.t 43) (.c (.raw (.int .i64 (0))))⟩])
        (.cond (.t 44)
         (.ops [
           ⟨(some 45), none, .mv (.t 0)⟩,
           ⟨(some 46), none, .mv (.t 11)⟩,
           ⟨(some 47), none, .bin .mul false (.t 45) (.t 46)⟩,
           ⟨(some 48), none, .mv (.t 12)⟩,
           ⟨(some 49), none, .bin .add false (.t 47) (.t 48)⟩,
           ⟨(some 50), none, .fad (.t 10) 1 1⟩,
           ⟨(some 51), none, .iad 64 1 (.t 50) (.t 49)⟩,
           ⟨none, none, .store 1 (.t 51) (.c (.cpx .f32 1065353216 0))⟩])
         .skip)))
       (.ops [
         ⟨(some 34), none, .mv (.t 12)⟩,
         ⟨(some 35), none, .bin .add false (.t 34) (.c (.raw (.int .i64 (1))))⟩,
         ⟨(some 12), none, .mv (.t 35)⟩])))))))
    (.ops [
      ⟨(some 29), none, .mv (.t 11)⟩,
      ⟨(some 30), none, .bin .add false (.t 29) (.c (.raw (.int .i64 (1))))⟩,
      ⟨(some 11), none, .mv (.t 30)⟩]))))))
  (.seq (.ops [
    ⟨(some 52), none, .load true 65 (.t 10)⟩,
    ⟨none, none, .store 65 (.t 8) (.t 52)⟩,
    ⟨(some 9), none, .mv (.c (.raw (.int .i64 (0))))⟩])
  .ret)))))
def f37 : DFn := ⟨d37, [.cell 8 true 65, .tmp 9], 53⟩
theorem h37 : decFn Try.prog 37 = some f37 := by kernel_rfl

def d38 : DCode :=
  (.seq (.ops [
    ⟨(some 5), none, .box (.t 1)⟩,
    ⟨(some 6), none, .box (.t 2)⟩,
    ⟨(some 7), none, .box (.t 3)⟩,
    ⟨(some 8), none, .alloc (.st [(.raw (.int .i64 (0))), (.ac 64 (List.replicate 64 (0, 0)))])⟩,
    ⟨(some 9), none, .mv (.c (.raw (.int .i64 (0))))⟩])
  (.seq (.seq (.ops [
    ⟨(some 10), none, .mv (.t 0)⟩,
    ⟨(some 11), none, .load false 1 (.t 5)⟩,
    ⟨(some 12), none, .load false 1 (.t 6)⟩,
    ⟨(some 13), none, .call 66 [(.t 10), (.t 11), (.t 12)]⟩,
    ⟨(some 14), none, .un .not (.t 13)⟩,
    ⟨(some 15), none, .mv (.t 14)⟩,
    ⟨(some 16), (some (15, false)), .load false 1 (.t 7)⟩,
    ⟨(some 17), (some (15, false)), .call 51 [(.t 16), (.c (.raw (.int .i64 (1)))), (.c (.raw (.int .i64 (1000))))]⟩,
    ⟨(some 18), (some (15, false)), .un .not (.t 17)⟩,
    ⟨(some 19), none, .pick (.t 15) (.c (.raw (.bool true))) (.t 18)⟩])
  (.cond (.t 19)
   (.seq (.ops [
     ⟨(some 20), none, .build [(.raw (.int .i64 (0))), (.ac 64 (List.replicate 64 (0, 0)))] []⟩,
     ⟨none, none, .store 65 (.t 8) (.t 20)⟩,
     ⟨(some 9), none, .mv (.c (.raw (.int .i64 (2))))⟩])
   .ret)
   .skip))
  (.seq (.ops [
    ⟨(some 21), none, .mv (.t 0)⟩,
    ⟨(some 22), none, .mkf 69 [(.t 5), (.t 6), (.t 7)]⟩,
    ⟨(some 23), none, .call 52 [(.t 21), (.t 22)]⟩,
    ⟨none, none, .store 65 (.t 8) (.t 23)⟩,
    ⟨(some 9), none, .mv (.c (.raw (.int .i64 (0))))⟩])
  .ret)))
def f38 : DFn := ⟨d38, [.cell 8 true 65, .tmp 9], 24⟩
theorem h38 : decFn Try.prog 38 = some f38 := by kernel_rfl

def d39 : DCode :=
  (.seq (.ops [
    ⟨(some 4), none, .alloc (.st [(.raw (.int .i64 (0))), (.ac 64 (List.replicate 64 (0, 0)))])⟩,
    ⟨(some 5), none, .mv (.c (.raw (.int .i64 (0))))⟩])
  (.seq (.seq (.ops [
    ⟨(some 9), none, .mv (.t 0)⟩,
    ⟨(some 10), none, .call 46 [(.t 9)]⟩,
    ⟨(some 11), none, .un .not (.t 10)⟩,
    ⟨(some 12), none, .mv (.t 11)⟩,
    ⟨(some 13), (some (12, false)), .mv (.t 1)⟩,
    ⟨(some 14), (some (12, false)), .mv (.t 0)⟩,
    ⟨(some 15), (some (12, false)), .mv (.t 0)⟩,
    ⟨(some 16), (some (12, false)), .bin .mul false (.t 14) (.t 15)⟩,
    ⟨(some 17), (some (12, false)), .bin .sub false (.t 16) (.c (.raw (.int .i64 (1))))⟩,
    ⟨(some 18), (some (12, false)), .call 47 [(.t 13), (.c (.raw (.int .i64 (0)))), (.t 17)]⟩,
    ⟨(some 19), (some (12, false)), .un .not (.t 18)⟩,
    ⟨(some 20), none, .pick (.t 12) (.c (.raw (.bool true))) (.t 19)⟩])
  (.cond (.t 20)
   (.seq (.ops [
     ⟨(some 21), none, .build [(.raw (.int .i64 (0))), (.ac 64 (List.replicate 64 (0, 0)))] []⟩,
     ⟨none, none, .store 65 (.t 4) (.t 21)⟩,
     ⟨(some 5), none, .mv (.c (.raw (.int .i64 (2))))⟩])
   .ret)
   .skip))
  (.seq (.ops [
    ⟨(some 22), none, .mv (.t 0)⟩,
    ⟨(some 23), none, .mv (.t 0)⟩,
    ⟨(some 24), none, .bin .mul false (.t 22) (.t 23)⟩,
    ⟨(some 25), none, .mv (.t 1)⟩,
    ⟨(some 26), none, .call 70 [(.t 24), (.t 25)]⟩,
    ⟨(some 27), none, .mv (.t 0)⟩,
    ⟨(some 28), none, .call 48 [(.t 27)]⟩,
    ⟨(some 7), none, .alloc (.st [(.raw (.int .i64 (0))), (.ac 64 (List.replicate 64 (0, 0)))])⟩,
    ⟨(some 6), none, .mv (.t 26)⟩,
    ⟨none, none, .store 65 (.t 7) (.t 28)⟩])
  (.seq (.seq (.ops [
    ⟨(some 8), none, .mv (.c (.raw (.int .i64 (0))))⟩])
  (.block 0
   (.loop
    (.seq (.seq (.ops [
      ⟨(some 29), none, .mv (.t 8)⟩,
      ⟨(some 30), none, .mv (.t 6)⟩,
      ⟨(some 31), none, .len (.t 30)⟩,
      ⟨(some 32), none, .bin .lss false (.t 29) (.t 31)⟩])
    (.cond (.t 32)
     .skip
     (.exit 0)))
    (.seq (.block 1
     (.ops [
       ⟨(some 35), none, .mv (.t 8)⟩,
       ⟨(some 36), none, .mv (.t 6)⟩,
       ⟨(some 37), none, .mv (.t 8)⟩,
       ⟨(some 38), none, .ias 1 (.t 36) (.t 37)⟩,
       ⟨(some 39), none, .load false 1 (.t 38)⟩,
       ⟨(some 40), none, .mkc (.t 39) (.c (.flt .f32 0))⟩,
       ⟨(some 41), none, .fad (.t 7) 1 1⟩,
       ⟨(some 42), none, .iad 64 1 (.t 41) (.t 35)⟩,
       ⟨none, none, .store 1 (.t 42) (.t 40)⟩]))
    (.ops [
      ⟨(some 33), none, .mv (.t 8)⟩,
      ⟨(some 34), none, .bin .add false (.t 33) (.c (.raw (.int .i64 (1))))⟩,
      ⟨(some 8), none, .mv (.t 34)⟩]))))))
  (.seq (.ops [
    ⟨(some 43), none, .load true 65 (.t 7)⟩,
    ⟨none, none, .store 65 (.t 4) (.t 43)⟩,
    ⟨(some 5), none, .mv (.c (.raw (.int .i64 (0))))⟩])
  .ret)))))
def f39 : DFn := ⟨d39, [.cell 4 true 65, .tmp 5], 44⟩
theorem h39 : decFn Try.prog 39 = some f39 := by kernel_rfl

def d40 : DCode :=
  (.seq (.ops [
    ⟨(some 3), none, .box (.t 1)⟩,
    ⟨(some 4), none, .alloc (.st [(.raw (.int .i64 (0))), (.ac 64 (List.replicate 64 (0, 0)))])⟩,
    ⟨(some 5), none, .mv (.c (.raw (.int .i64 (0))))⟩])
  (.seq (.seq (.ops [
    ⟨(some 6), none, .mv (.t 0)⟩,
    ⟨(some 7), none, .call 50 [(.t 6)]⟩,
    ⟨(some 8), none, .un .not (.t 7)⟩,
    ⟨(some 9), none, .mv (.t 8)⟩,
    ⟨(some 10), (some (9, false)), .load false 1 (.t 3)⟩,
    ⟨(some 11), (some (9, false)), .mv (.t 0)⟩,
    ⟨(some 12), (some (9, false)), .mv (.t 0)⟩,
    ⟨(some 13), (some (9, false)), .bin .mul false (.t 11) (.t 12)⟩,
    ⟨(some 14), (some (9, false)), .bin .sub false (.t 13) (.c (.raw (.int .i64 (1))))⟩,
    ⟨(some 15), (some (9, false)), .call 51 [(.t 10), (.c (.raw (.int .i64 (0)))), (.t 14)]⟩,
    ⟨(some 16), (some (9, false)), .un .not (.t 15)⟩,
    ⟨(some 17), none, .pick (.t 9) (.c (.raw (.bool true))) (.t 16)⟩])
  (.cond (.t 17)
   (.seq (.ops [
     ⟨(some 18), none, .build [(.raw (.int .i64 (0))), (.ac 64 (List.replicate 64 (0, 0)))] []⟩,
     ⟨none, none, .store 65 (.t 4) (.t 18)⟩,
     ⟨(some 5), none, .mv (.c (.raw (.int .i64 (2))))⟩])
   .ret)
   .skip))
  (.seq (.ops [
    ⟨(some 19), none, .mv (.t 0)⟩,
    ⟨(some 20), none, .mkf 72 [(.t 3)]⟩,
    ⟨(some 21), none, .call 71 [(.t 19), (.t 20)]⟩,
    ⟨none, none, .store 65 (.t 4) (.t 21)⟩,
    ⟨(some 5), none, .mv (.c (.raw (.int .i64 (0))))⟩])
  .ret)))
def f40 : DFn := ⟨d40, [.cell 4 true 65, .tmp 5], 22⟩
theorem h40 : decFn Try.prog 40 = some f40 := by kernel_rfl

def d41 : DCode :=
  (.seq (.ops [
    ⟨(some 1), none, .box (.t 0)⟩,
    ⟨(some 2), none, .alloc (.st [(.st [(.raw (.int .i64 (0))), (.ac 64 (List.replicate 64 (0, 0)))]), (.st [(.raw (.int .i64 (0))), (.ac 64 (List.replicate 64 (0, 0)))]), (.st [(.raw (.int .i64 (0))), (.af 64 (List.replicate 64 0))])])⟩])
  (.seq (.drw [
    ⟨(some 3), none, .fad (.t 1) 0 0⟩,
    ⟨(some 4), none, .load true 65 (.t 3)⟩,
    ⟨(some 5), none, .call 27 [(.t 4)]⟩,
    ⟨(some 6), none, .fad (.t 1) 1 65⟩,
    ⟨(some 7), none, .load true 65 (.t 6)⟩,
    ⟨(some 8), none, .call 27 [(.t 7)]⟩,
    ⟨(some 9), none, .fad (.t 1) 2 130⟩,
    ⟨(some 10), none, .load true 65 (.t 9)⟩,
    ⟨(some 11), none, .call 74 [(.t 10)]⟩,
    ⟨(some 12), none, .build [(.st [(.raw (.int .i64 (0))), (.ac 64 (List.replicate 64 (0, 0)))]), (.st [(.raw (.int .i64 (0))), (.ac 64 (List.replicate 64 (0, 0)))]), (.st [(.raw (.int .i64 (0))), (.af 64 (List.replicate 64 0))])] [(0, 0, 65, (.t 5)), (1, 65, 65, (.t 8)), (2, 130, 65, (.t 11))]⟩] [
    ⟨none, none, .store 195 (.t 2) (.t 12)⟩])
  .ret))
def f41 : DFn := ⟨d41, [.cell 2 true 195], 13⟩
theorem h41 : decFn Try.prog 41 = some f41 := by kernel_rfl

def d42 : DCode :=
  (.seq (.ops [
    ⟨(some 0), none, .alloc (.st [(.st [(.raw (.int .i64 (0))), (.ac 64 (List.replicate 64 (0, 0)))]), (.st [(.raw (.int .i64 (0))), (.ac 64 (List.replicate 64 (0, 0)))]), (.st [(.raw (.int .i64 (0))), (.af 64 (List.replicate 64 0))])])⟩])
  (.seq (.ops [
    ⟨(some 1), none, .call 75 []⟩,
    ⟨none, none, .store 195 (.t 0) (.t 1)⟩])
  .ret))
def f42 : DFn := ⟨d42, [.cell 0 true 195], 2⟩
theorem h42 : decFn Try.prog 42 = some f42 := by kernel_rfl

def d43 : DCode :=
  (.seq (.ops [
    ⟨(some 1), none, .box (.t 0)⟩,
    ⟨(some 2), none, .alloc (.st [(.st [(.raw (.int .i64 (0))), (.ac 64 (List.replicate 64 (0, 0)))]), (.st [(.raw (.int .i64 (0))), (.ac 64 (List.replicate 64 (0, 0)))]), (.st [(.raw (.int .i64 (0))), (.af 64 (List.replicate 64 0))])])⟩])
  (.seq (.seq (.ops [
    ⟨(some 17), none, .mki 80 (.t 1)⟩])
  (.block 0
   (.seq (.ops [
     ⟨(some 18), none, .tas (.t 17) 52 (.raw (.pointer none))⟩,
     ⟨(some 19), none, .ext (.t 18) 1⟩,
     ⟨(some 20), none, .ext (.t 18) 0⟩])
   (.cond (.t 19)
    (.seq (.ops [
      ⟨(some 3), none, .mv (.t 20)⟩])
    (.ops [
      ⟨(some 21), none, .mv (.t 3)⟩,
      ⟨(some 22), none, .mv (.t 3)⟩,
      ⟨(some 23), none, .nck (.t 22)⟩,
      ⟨(some 24), none, .load false 1 (.t 23)⟩,
      ⟨(some 25), none, .call 54 [(.t 24)]⟩,
      ⟨(some 26), none, .nck (.t 21)⟩,
      ⟨none, none, .store 1 (.t 26) (.t 25)⟩]))
    (.seq (.ops [
      ⟨(some 27), none, .tas (.t 17) 54 (.raw (.pointer none))⟩,
      ⟨(some 28), none, .ext (.t 27) 1⟩,
      ⟨(some 29), none, .ext (.t 27) 0⟩])
    (.cond (.t 28)
     (.seq (.ops [
       ⟨(some 4), none, .mv (.t 29)⟩])
     (.ops [
       ⟨(some 30), none, .mv (.t 4)⟩,
       ⟨(some 31), none, .mv (.t 4)⟩,
       ⟨(some 32), none, .nck (.t 31)⟩,
       ⟨(some 33), none, .load false 1 (.t 32)⟩,
       ⟨(some 34), none, .call 55 [(.t 33)]⟩,
       ⟨(some 35), none, .nck (.t 30)⟩,
       ⟨none, none, .store 1 (.t 35) (.t 34)⟩]))
     (.seq (.ops [
       ⟨(some 36), none, .tas (.t 17) 51 (.raw (.pointer none))⟩,
       ⟨(some 37), none, .ext (.t 36) 1⟩,
       ⟨(some 38), none, .ext (.t 36) 0⟩])
     (.cond (.t 37)
      (.seq (.ops [
        ⟨(some 5), none, .mv (.t 38)⟩])
      (.seq (.ops [
        ⟨(some 39), none, .mv (.t 5)⟩,
        ⟨(some 40), none, .nck (.t 39)⟩,
        ⟨(some 41), none, .fad (.t 40) 1 1⟩,
        ⟨(some 42), none, .load true 64 (.t 41)⟩,
        ⟨(some 43), none, .mv (.c (.raw (.int .i64 (0))))⟩])
      (.block 1
       (.loop
        (.seq (.ops [
          ⟨(some 44), none, .bin .lss false (.t 43) (.c (.raw (.int .i64 (64))))⟩])
        (.seq (.cond (.t 44)
         .skip
         (.exit 1))
        (.seq (.block 2
         (.seq (.ops [
           ⟨(some 45), none, .mv (.t 43)⟩,
           ⟨(some 46), none, .idx 64 (.t 42) (.t 43)⟩,
           ⟨(some 6), none, .mv (.t 45)⟩,
           ⟨(some 7), none, .mv (.t 46)⟩])
         (.drw [
           ⟨(some 47), none, .mv (.t 5)⟩,
           ⟨(some 48), none, .mv (.t 6)⟩,
           ⟨(some 49), none, .mv (.t 7)⟩,
           ⟨(some 50), none, .call 55 [(.t 49)]⟩,
           ⟨(some 51), none, .nck (.t 47)⟩,
           ⟨(some 52), none, .fad (.t 51) 1 1⟩,
           ⟨(some 53), none, .iad 64 1 (.t 52) (.t 48)⟩] [
           ⟨none, none, .store 1 (.t 53) (.t 50)⟩])))
        (.ops [
          ⟨(some 54), none, .bin .add false (.t 43) (.c (.raw (.int .i64 (1))))⟩,
          ⟨(some 43), none, .mv (.t 54)⟩]))))))))
      (.seq (.ops [
        ⟨(some 55), none, .tas (.t 17) 55 (.raw (.pointer none))⟩,
        ⟨(some 56), none, .ext (.t 55) 1⟩,
        ⟨(some 57), none, .ext (.t 55) 0⟩])
      (.cond (.t 56)
       (.seq (.ops [
         ⟨(some 8), none, .mv (.t 57)⟩])
       (.seq (.ops [
         ⟨(some 58), none, .mv (.t 8)⟩,
         ⟨(some 59), none, .nck (.t 58)⟩,
         ⟨(some 60), none, .fad (.t 59) 1 1⟩,
         ⟨(some 61), none, .load true 64 (.t 60)⟩,
         ⟨(some 62), none, .mv (.c (.raw (.int .i64 (0))))⟩])
       (.block 3
        (.loop
         (.seq (.ops [
           ⟨(some 63), none, .bin .lss false (.t 62) (.c (.raw (.int .i64 (64))))⟩])
         (.seq (.cond (.t 63)
          .skip
          (.exit 3))
         (.seq (.block 4
          (.seq (.ops [
            ⟨(some 64), none, .mv (.t 62)⟩,
            ⟨(some 65), none, .idx 64 (.t 61) (.t 62)⟩,
            ⟨(some 9), none, .mv (.t 64)⟩,
            ⟨(some 10), none, .mv (.t 65)⟩])
          (.drw [
            ⟨(some 66), none, .mv (.t 8)⟩,
            ⟨(some 67), none, .mv (.t 9)⟩,
            ⟨(some 68), none, .mv (.t 10)⟩,
            ⟨(some 69), none, .call 54 [(.t 68)]⟩,
            ⟨(some 70), none, .nck (.t 66)⟩,
            ⟨(some 71), none, .fad (.t 70) 1 1⟩,
            ⟨(some 72), none, .iad 64 1 (.t 71) (.t 67)⟩] [
            ⟨none, none, .store 1 (.t 72) (.t 69)⟩])))
         (.ops [
           ⟨(some 73), none, .bin .add false (.t 62) (.c (.raw (.int .i64 (1))))⟩,
           ⟨(some 62), none, .mv (.t 73)⟩]))))))))
       (.seq (.ops [
         ⟨(some 74), none, .tas (.t 17) 56 (.raw (.pointer none))⟩,
         ⟨(some 75), none, .ext (.t 74) 1⟩,
         ⟨(some 76), none, .ext (.t 74) 0⟩])
       (.cond (.t 75)
        (.seq (.ops [
          ⟨(some 11), none, .mv (.t 76)⟩])
        (.ops [
          ⟨(some 77), none, .mv (.t 11)⟩,
          ⟨(some 78), none, .mv (.t 11)⟩,
          ⟨(some 79), none, .nck (.t 78)⟩,
          ⟨(some 80), none, .load false 1 (.t 79)⟩,
          ⟨(some 81), none, .call 56 [(.t 80)]⟩,
          ⟨(some 82), none, .nck (.t 77)⟩,
          ⟨none, none, .store 1 (.t 82) (.t 81)⟩]))
        (.seq (.ops [
          ⟨(some 83), none, .tas (.t 17) 59 (.raw (.pointer none))⟩,
          ⟨(some 84), none, .ext (.t 83) 1⟩,
          ⟨(some 85), none, .ext (.t 83) 0⟩])
        (.cond (.t 84)
         (.seq (.ops [
           ⟨(some 12), none, .mv (.t 85)⟩])
         (.ops [
           ⟨(some 86), none, .mv (.t 12)⟩,
           ⟨(some 87), none, .mv (.t 12)⟩,
           ⟨(some 88), none, .nck (.t 87)⟩,
           ⟨(some 89), none, .load false 1 (.t 88)⟩,
           ⟨(some 90), none, .call 57 [(.t 89)]⟩,
           ⟨(some 91), none, .nck (.t 86)⟩,
           ⟨none, none, .store 1 (.t 91) (.t 90)⟩]))
         (.seq (.ops [
           ⟨(some 92), none, .tas (.t 17) 62 (.raw (.pointer none))⟩,
           ⟨(some 93), none, .ext (.t 92) 1⟩,
           ⟨(some 94), none, .ext (.t 92) 0⟩])
         (.cond (.t 93)
          (.seq (.ops [
            ⟨(some 13), none, .mv (.t 94)⟩])
          (.ops [
            ⟨(some 95), none, .mv (.t 13)⟩,
            ⟨(some 96), none, .mv (.t 13)⟩,
            ⟨(some 97), none, .nck (.t 96)⟩,
            ⟨(some 98), none, .load false 1 (.t 97)⟩,
            ⟨(some 99), none, .call 58 [(.t 98)]⟩,
            ⟨(some 100), none, .nck (.t 95)⟩,
            ⟨none, none, .store 1 (.t 100) (.t 99)⟩]))
          (.seq (.ops [
            ⟨(some 101), none, .tas (.t 17) 65 (.raw (.pointer none))⟩,
            ⟨(some 102), none, .ext (.t 101) 1⟩,
            ⟨(some 103), none, .ext (.t 101) 0⟩])
          (.cond (.t 102)
           (.seq (.ops [
             ⟨(some 14), none, .mv (.t 103)⟩])
           (.ops [
             ⟨(some 104), none, .mv (.t 14)⟩,
             ⟨(some 105), none, .mv (.t 14)⟩,
             ⟨(some 106), none, .nck (.t 105)⟩,
             ⟨(some 107), none, .load false 1 (.t 106)⟩,
             ⟨(some 108), none, .call 59 [(.t 107)]⟩,
             ⟨(some 109), none, .nck (.t 104)⟩,
             ⟨none, none, .store 1 (.t 109) (.t 108)⟩]))
           (.seq (.ops [
             ⟨(some 110), none, .tas (.t 17) 68 (.raw (.pointer none))⟩,
             ⟨(some 111), none, .ext (.t 110) 1⟩,
             ⟨(some 112), none, .ext (.t 110) 0⟩])
           (.cond (.t 111)
            (.seq (.ops [
              ⟨(some 15), none, .mv (.t 112)⟩])
            (.ops [
              ⟨(some 113), none, .mv (.t 15)⟩,
              ⟨(some 114), none, .mv (.t 15)⟩,
              ⟨(some 115), none, .nck (.t 114)⟩,
              ⟨(some 116), none, .load false 1 (.t 115)⟩,
              ⟨(some 117), none, .call 60 [(.t 116)]⟩,
              ⟨(some 118), none, .nck (.t 113)⟩,
              ⟨none, none, .store 1 (.t 118) (.t 117)⟩]))
            (.seq (.ops [
              ⟨(some 119), none, .tai (.t 17) [80] (.raw .nilIface)⟩,
              ⟨(some 120), none, .ext (.t 119) 1⟩,
              ⟨(some 121), none, .ext (.t 119) 0⟩])
            (.cond (.t 120)
             (.seq (.ops [
               ⟨(some 16), none, .mv (.t 121)⟩])
             (.ops [
               ⟨(some 122), none, .mv (.t 16)⟩,
               ⟨(some 123), none, .inv (.t 122) [(80, 106)] []⟩]))
             .skip))))))))))))))))))))))
  (.seq (.ops [
    ⟨(some 124), none, .load true 195 (.t 1)⟩,
    ⟨none, none, .store 195 (.t 2) (.t 124)⟩])
  .ret)))
def f43 : DFn := ⟨d43, [.cell 2 true 195], 125⟩
theorem h43 : decFn Try.prog 43 = some f43 := by kernel_rfl

def d44 : DCode :=
  (.seq (.ops [
    ⟨(some 0), none, .alloc (.st [(.st [(.raw (.int .i64 (0))), (.ac 64 (List.replicate 64 (0, 0)))]), (.st [(.raw (.int .i64 (0))), (.ac 64 (List.replicate 64 (0, 0)))]), (.st [(.raw (.int .i64 (0))), (.af 64 (List.replicate 64 0))])])⟩])
  (.seq (.ops [
    ⟨(some 4), none, .call 76 [(.c (.raw (.int .i64 (2)))), (.c (.cpx .f32 1065353216 0))]⟩,
    ⟨(some 3), none, .mv (.t 4)⟩,
    ⟨(some 5), none, .ext (.t 3) 0⟩,
    ⟨(some 6), none, .ext (.t 3) 1⟩,
    ⟨(some 1), none, .alloc (.st [(.raw (.int .i64 (0))), (.ac 64 (List.replicate 64 (0, 0)))])⟩,
    ⟨none, none, .store 65 (.t 1) (.t 5)⟩,
    ⟨(some 2), none, .mv (.t 6)⟩])
  (.seq (.ops [
    ⟨(some 7), none, .load true 65 (.t 1)⟩,
    ⟨(some 8), none, .load true 65 (.t 1)⟩,
    ⟨(some 9), none, .build [(.raw (.int .i64 (0))), (.af 64 (List.replicate 64 0))] [(0, 0, 1, (.c (.raw (.int .i64 (2)))))]⟩,
    ⟨(some 10), none, .build [(.st [(.raw (.int .i64 (0))), (.ac 64 (List.replicate 64 (0, 0)))]), (.st [(.raw (.int .i64 (0))), (.ac 64 (List.replicate 64 (0, 0)))]), (.st [(.raw (.int .i64 (0))), (.af 64 (List.replicate 64 0))])] [(0, 0, 65, (.t 7)), (1, 65, 65, (.t 8)), (2, 130, 65, (.t 9))]⟩,
    ⟨none, none, .store 195 (.t 0) (.t 10)⟩])
  .ret)))
def f44 : DFn := ⟨d44, [.cell 0 true 195], 11⟩
theorem h44 : decFn Try.prog 44 = some f44 := by kernel_rfl

def d45 : DCode :=
  (.seq (.ops [
    ⟨(some 2), none, .box (.t 0)⟩,
    ⟨(some 3), none, .box (.t 1)⟩,
    ⟨(some 4), none, .mv (.c (.raw (.bool false)))⟩])
  (.seq (.seq (.ops [
    ⟨(some 5), none, .fad (.t 2) 0 0⟩,
    ⟨(some 6), none, .load false 1 (.t 5)⟩,
    ⟨(some 7), none, .fad (.t 3) 0 0⟩,
    ⟨(some 8), none, .load false 1 (.t 7)⟩,
    ⟨(some 9), none, .bin .neq false (.t 6) (.t 8)⟩])
  (.cond (.t 9)
   (.seq (.ops [
     ⟨(some 4), none, .mv (.c (.raw (.bool false)))⟩])
   .ret)
   .skip))
  (.seq (.seq (.ops [
    ⟨(some 10), none, .fad (.t 2) 1 1⟩,
    ⟨(some 11), none, .load true 64 (.t 10)⟩,
    ⟨(some 12), none, .fad (.t 3) 1 1⟩,
    ⟨(some 13), none, .load true 64 (.t 12)⟩,
    ⟨(some 14), none, .call 77 [(.t 11), (.t 13)]⟩,
    ⟨(some 15), none, .un .not (.t 14)⟩])
  (.cond (.t 15)
   (.seq (.ops [
     ⟨(some 4), none, .mv (.c (.raw (.bool false)))⟩])
   .ret)
   .skip))
  (.seq (.ops [
    ⟨(some 4), none, .mv (.c (.raw (.bool true)))⟩])
  .ret))))
def f45 : DFn := ⟨d45, [.tmp 4], 16⟩
theorem h45 : decFn Try.prog 45 = some f45 := by kernel_rfl

def d46 : DCode :=
  (.seq (.ops [
    ⟨(some 2), none, .mv (.c (.raw (.bool false)))⟩])
  (.seq (.ops [
    ⟨(some 3), none, .mv (.t 0)⟩,
    ⟨(some 4), none, .bin .eql false (.t 3) (.c (.raw (.int .i64 (1))))⟩,
    ⟨(some 5), none, .mv (.t 4)⟩,
    ⟨(some 6), (some (5, false)), .mv (.t 0)⟩,
    ⟨(some 7), (some (5, false)), .bin .eql false (.t 6) (.c (.raw (.int .i64 (2))))⟩,
    ⟨(some 8), none, .pick (.t 5) (.c (.raw (.bool true))) (.t 7)⟩,
    ⟨(some 9), none, .mv (.t 8)⟩,
    ⟨(some 10), (some (9, false)), .mv (.t 0)⟩,
    ⟨(some 11), (some (9, false)), .bin .eql false (.t 10) (.c (.raw (.int .i64 (4))))⟩,
    ⟨(some 12), none, .pick (.t 9) (.c (.raw (.bool true))) (.t 11)⟩,
    ⟨(some 13), none, .mv (.t 12)⟩,
    ⟨(some 14), (some (13, false)), .mv (.t 0)⟩,
    ⟨(some 15), (some (13, false)), .bin .eql false (.t 14) (.c (.raw (.int .i64 (8))))⟩,
    ⟨(some 16), none, .pick (.t 13) (.c (.raw (.bool true))) (.t 15)⟩,
    ⟨(some 2), none, .mv (.t 16)⟩])
  .ret))
def f46 : DFn := ⟨d46, [.tmp 2], 17⟩
theorem h46 : decFn Try.prog 46 = some f46 := by kernel_rfl

def d47 : DCode :=
  (.seq (.ops [
    ⟨(some 6), none, .mv (.c (.raw (.bool false)))⟩])
  (.seq (.ops [
    ⟨(some 7), none, .mv (.t 0)⟩,
    ⟨(some 8), none, .mv (.t 1)⟩,
    ⟨(some 9), none, .bin .geq false (.t 7) (.t 8)⟩,
    ⟨(some 10), none, .mv (.t 9)⟩,
    ⟨(some 11), (some (10, true)), .mv (.t 0)⟩,
    ⟨(some 12), (some (10, true)), .mv (.t 2)⟩,
    ⟨(some 13), (some (10, true)), .bin .leq false (.t 11) (.t 12)⟩,
    ⟨(some 14), none, .pick (.t 10) (.t 13) (.c (.raw (.bool false)))⟩,
    ⟨(some 6), none, .mv (.t 14)⟩])
  .ret))
def f47 : DFn := ⟨d47, [.tmp 6], 15⟩
theorem h47 : decFn Try.prog 47 = some f47 := by kernel_rfl

def d48 : DCode :=
  (.seq (.ops [
    ⟨(some 2), none, .alloc (.st [(.raw (.int .i64 (0))), (.ac 64 (List.replicate 64 (0, 0)))])⟩])
  (.seq (.ops [
    ⟨(some 3), none, .mv (.t 0)⟩,
    ⟨(some 4), none, .build [(.raw (.int .i64 (0))), (.ac 64 (List.replicate 64 (0, 0)))] [(0, 0, 1, (.t 3))]⟩,
    ⟨none, none, .store 65 (.t 2) (.t 4)⟩])
  .ret))
def f48 : DFn := ⟨d48, [.cell 2 true 65], 5⟩
theorem h48 : decFn Try.prog 48 = some f48 := by kernel_rfl

def d49 : DCode :=
  (.seq (.ops [
    ⟨(some 2), none, .mv (.c (.cpx .f32 0 0))⟩])
  (.seq (.ops [
    ⟨(some 3), none, .mv (.t 0)⟩,
    ⟨(some 4), none, .re (.t 3)⟩,
    ⟨(some 5), none, .call 78 [(.t 4)]⟩,
    ⟨(some 6), none, .mv (.t 0)⟩,
    ⟨(some 7), none, .im (.t 6)⟩,
    ⟨(some 8), none, .call 78 [(.t 7)]⟩,
    ⟨(some 9), none, .mkc (.t 5) (.t 8)⟩,
    ⟨(some 2), none, .mv (.t 9)⟩])
  .ret))
def f49 : DFn := ⟨d49, [.tmp 2], 10⟩
theorem h49 : decFn Try.prog 49 = some f49 := by kernel_rfl

def d50 : DCode :=
  (.seq (.ops [
    ⟨(some 2), none, .mv (.c (.raw (.bool false)))⟩])
  (.seq (.ops [
    ⟨(some 3), none, .mv (.t 0)⟩,
    ⟨(some 4), none, .bin .eql false (.t 3) (.c (.raw (.int .i64 (1))))⟩,
    ⟨(some 5), none, .mv (.t 4)⟩,
    ⟨(some 6), (some (5, false)), .mv (.t 0)⟩,
    ⟨(some 7), (some (5, false)), .bin .eql false (.t 6) (.c (.raw (.int .i64 (2))))⟩,
    ⟨(some 8), none, .pick (.t 5) (.c (.raw (.bool true))) (.t 7)⟩,
    ⟨(some 9), none, .mv (.t 8)⟩,
    ⟨(some 10), (some (9, false)), .mv (.t 0)⟩,
    ⟨(some 11), (some (9, false)), .bin .eql false (.t 10) (.c (.raw (.int .i64 (4))))⟩,
    ⟨(some 12), none, .pick (.t 9) (.c (.raw (.bool true))) (.t 11)⟩,
    ⟨(some 13), none, .mv (.t 12)⟩,
    ⟨(some 14), (some (13, false)), .mv (.t 0)⟩,
    ⟨(some 15), (some (13, false)), .bin .eql false (.t 14) (.c (.raw (.int .i64 (8))))⟩,
    ⟨(some 16), none, .pick (.t 13) (.c (.raw (.bool true))) (.t 15)⟩,
    ⟨(some 2), none, .mv (.t 16)⟩])
  .ret))
def f50 : DFn := ⟨d50, [.tmp 2], 17⟩
theorem h50 : decFn Try.prog 50 = some f50 := by kernel_rfl

def d51 : DCode :=
  (.seq (.ops [
    ⟨(some 6), none, .mv (.c (.raw (.bool false)))⟩])
  (.seq (.ops [
    ⟨(some 7), none, .mv (.t 0)⟩,
    ⟨(some 8), none, .mv (.t 1)⟩,
    ⟨(some 9), none, .bin .geq false (.t 7) (.t 8)⟩,
    ⟨(some 10), none, .mv (.t 9)⟩,
    ⟨(some 11), (some (10, true)), .mv (.t 0)⟩,
    ⟨(some 12), (some (10, true)), .mv (.t 2)⟩,
    ⟨(some 13), (some (10, true)), .bin .leq false (.t 11) (.t 12)⟩,
    ⟨(some 14), none, .pick (.t 10) (.t 13) (.c (.raw (.bool false)))⟩,
    ⟨(some 6), none, .mv (.t 14)⟩])
  .ret))
def f51 : DFn := ⟨d51, [.tmp 6], 15⟩
theorem h51 : decFn Try.prog 51 = some f51 := by kernel_rfl

def d52 : DCode :=
  (.seq (.ops [
    ⟨(some 3), none, .box (.t 1)⟩,
    ⟨(some 4), none, .alloc (.st [(.raw (.int .i64 (0))), (.ac 64 (List.replicate 64 (0, 0)))])⟩])
  (.seq (.ops [
    ⟨(some 5), none, .mv (.t 0)⟩,
    ⟨(some 6), none, .mkf 79 [(.t 3)]⟩,
    ⟨(some 7), none, .call 71 [(.t 5), (.t 6)]⟩,
    ⟨none, none, .store 65 (.t 4) (.t 7)⟩])
  .ret))
def f52 : DFn := ⟨d52, [.cell 4 true 65], 8⟩
theorem h52 : decFn Try.prog 52 = some f52 := by kernel_rfl

def d53 : DCode :=
  (.seq (.ops [
    ⟨(some 6), none, .mv (.c (.raw (.bool false)))⟩])
  (.seq (.drw [
    ⟨(some 7), none, .mv (.t 1)⟩,
    ⟨(some 8), none, .load false 1 (.t 2)⟩,
    ⟨(some 9), none, .bin .rem false (.t 7) (.t 8)⟩,
    ⟨(some 10), none, .load false 1 (.t 3)⟩,
    ⟨(some 11), none, .bin .lss false (.t 9) (.t 10)⟩,
    ⟨(some 6), none, .mv (.t 11)⟩] [
    ])
  .ret))
def f53 : DFn := ⟨d53, [.tmp 6], 12⟩
theorem h53 : decFn Try.prog 53 = some f53 := by kernel_rfl

def d54 : DCode :=
  (.seq (.ops [
    ⟨(some 2), none, .mv (.c (.flt .f32 0))⟩])
  (.seq (.seq (.ops [
    ⟨(some 3), none, .mv (.t 0)⟩,
    ⟨(some 4), none, .bin .eql false (.t 3) (.c (.flt .f32 0))⟩])
  (.cond (.t 4)
   (.seq (.ops [
     ⟨(some 2), none, .mv (.c (.flt .f32 0))⟩])
   .ret)
   .skip))
  (.seq (.ops [
    ⟨(some 5), none, .mv (.t 0)⟩,
    ⟨(some 2), none, .mv (.t 5)⟩])
  .ret)))
def f54 : DFn := ⟨d54, [.tmp 2], 6⟩
theorem h54 : decFn Try.prog 54 = some f54 := by kernel_rfl

def d55 : DCode :=
  (.seq (.ops [
    ⟨(some 2), none, .mv (.c (.cpx .f32 0 0))⟩])
  (.seq (.ops [
    ⟨(some 3), none, .mv (.t 0)⟩,
    ⟨(some 4), none, .re (.t 3)⟩,
    ⟨(some 5), none, .call 54 [(.t 4)]⟩,
    ⟨(some 6), none, .mv (.t 0)⟩,
    ⟨(some 7), none, .im (.t 6)⟩,
    ⟨(some 8), none, .call 54 [(.t 7)]⟩,
    ⟨(some 9), none, .mkc (.t 5) (.t 8)⟩,
    ⟨(some 2), none, .mv (.t 9)⟩])
  .ret))
def f55 : DFn := ⟨d55, [.tmp 2], 10⟩
theorem h55 : decFn Try.prog 55 = some f55 := by kernel_rfl

def d56 : DCode :=
  (.seq (.ops [
    ⟨(some 2), none, .mv (.c (nilS 1))⟩])
  (.seq (.seq (.ops [
    ⟨(some 5), none, .mv (.t 0)⟩,
    ⟨(some 6), none, .len (.t 5)⟩,
    ⟨(some 7), none, .mv (.c (.raw (.int .i64 (0))))⟩])
  (.block 0
   (.loop
    (.seq (.ops [
      ⟨(some 8), none, .bin .lss false (.t 7) (.t 6)⟩])
    (.seq (.cond (.t 8)
     .skip
     (.exit 0))
    (.seq (.block 1
     (.seq (.ops [
       ⟨(some 9), none, .mv (.t 7)⟩,
       ⟨(some 10), none, .ias 1 (.t 5) (.t 7)⟩,
       ⟨(some 11), none, .load false 1 (.t 10)⟩,
       ⟨(some 3), none, .mv (.t 9)⟩,
       ⟨(some 4), none, .mv (.t 11)⟩])
     (.ops [
       ⟨(some 12), none, .mv (.t 0)⟩,
       ⟨(some 13), none, .mv (.t 3)⟩,
       ⟨(some 14), none, .mv (.t 4)⟩,
       ⟨(some 15), none, .call 80 [(.t 14)]⟩,
       ⟨(some 16), none, .ias 1 (.t 12) (.t 13)⟩,
       ⟨none, none, .store 1 (.t 16) (.t 15)⟩])))
    (.ops [
      ⟨(some 17), none, .bin .add false (.t 7) (.c (.raw (.int .i64 (1))))⟩,
      ⟨(some 7), none, .mv (.t 17)⟩])))))))
  (.seq (.ops [
    ⟨(some 18), none, .mv (.t 0)⟩,
    ⟨(some 2), none, .mv (.t 18)⟩])
  .ret)))
def f56 : DFn := ⟨d56, [.tmp 2], 19⟩
theorem h56 : decFn Try.prog 56 = some f56 := by kernel_rfl

def d57 : DCode :=
  (.seq (.ops [
    ⟨(some 2), none, .mv (.c (nilS 1))⟩])
  (.seq (.seq (.ops [
    ⟨(some 5), none, .mv (.t 0)⟩,
    ⟨(some 6), none, .len (.t 5)⟩,
    ⟨(some 7), none, .mv (.c (.raw (.int .i64 (0))))⟩])
  (.block 0
   (.loop
    (.seq (.ops [
      ⟨(some 8), none, .bin .lss false (.t 7) (.t 6)⟩])
    (.seq (.cond (.t 8)
     .skip
     (.exit 0))
    (.seq (.block 1
     (.seq (.ops [
       ⟨(some 9), none, .mv (.t 7)⟩,
       ⟨(some 10), none, .ias 1 (.t 5) (.t 7)⟩,
       ⟨(some 11), none, .load false 1 (.t 10)⟩,
       ⟨(some 3), none, .mv (.t 9)⟩,
       ⟨(some 4), none, .mv (.t 11)⟩])
     (.ops [
       ⟨(some 12), none, .mv (.t 0)⟩,
       ⟨(some 13), none, .mv (.t 3)⟩,
       ⟨(some 14), none, .mv (.t 4)⟩,
       ⟨(some 15), none, .call 81 [(.t 14)]⟩,
       ⟨(some 16), none, .ias 1 (.t 12) (.t 13)⟩,
       ⟨none, none, .store 1 (.t 16) (.t 15)⟩])))
    (.ops [
      ⟨(some 17), none, .bin .add false (.t 7) (.c (.raw (.int .i64 (1))))⟩,
      ⟨(some 7), none, .mv (.t 17)⟩])))))))
  (.seq (.ops [
    ⟨(some 18), none, .mv (.t 0)⟩,
    ⟨(some 2), none, .mv (.t 18)⟩])
  .ret)))
def f57 : DFn := ⟨d57, [.tmp 2], 19⟩
theorem h57 : decFn Try.prog 57 = some f57 := by kernel_rfl

def d58 : DCode :=
  (.seq (.ops [
    ⟨(some 2), none, .mv (.c (nilS 1))⟩])
  (.seq (.seq (.ops [
    ⟨(some 5), none, .mv (.t 0)⟩,
    ⟨(some 6), none, .len (.t 5)⟩,
    ⟨(some 7), none, .mv (.c (.raw (.int .i64 (0))))⟩])
  (.block 0
   (.loop
    (.seq (.ops [
      ⟨(some 8), none, .bin .lss false (.t 7) (.t 6)⟩])
    (.seq (.cond (.t 8)
     .skip
     (.exit 0))
    (.seq (.block 1
     (.seq (.ops [
       ⟨(some 9), none, .mv (.t 7)⟩,
       ⟨(some 10), none, .ias 65 (.t 5) (.t 7)⟩,
       ⟨(some 11), none, .load true 65 (.t 10)⟩,
       ⟨(some 4), none, .alloc (.st [(.raw (.int .i64 (0))), (.ac 64 (List.replicate 64 (0, 0)))])⟩,
       ⟨(some 3), none, .mv (.t 9)⟩,
       ⟨none, none, .store 65 (.t 4) (.t 11)⟩])
     (.ops [
       ⟨(some 12), none, .mv (.t 0)⟩,
       ⟨(some 13), none, .mv (.t 3)⟩,
       ⟨(some 14), none, .load true 65 (.t 4)⟩,
       ⟨(some 15), none, .call 29 [(.t 14)]⟩,
       ⟨(some 16), none, .ias 65 (.t 12) (.t 13)⟩,
       ⟨none, none, .store 65 (.t 16) (.t 15)⟩])))
    (.ops [
      ⟨(some 17), none, .bin .add false (.t 7) (.c (.raw (.int .i64 (1))))⟩,
      ⟨(some 7), none, .mv (.t 17)⟩])))))))
  (.seq (.ops [
    ⟨(some 18), none, .mv (.t 0)⟩,
    ⟨(some 2), none, .mv (.t 18)⟩])
  .ret)))
def f58 : DFn := ⟨d58, [.tmp 2], 19⟩
theorem h58 : decFn Try.prog 58 = some f58 := by kernel_rfl

def d59 : DCode :=
  (.seq (.ops [
    ⟨(some 2), none, .mv (.c (nilS 1))⟩])
  (.seq (.seq (.ops [
    ⟨(some 5), none, .mv (.t 0)⟩,
    ⟨(some 6), none, .len (.t 5)⟩,
    ⟨(some 7), none, .mv (.c (.raw (.int .i64 (0))))⟩])
  (.block 0
   (.loop
    (.seq (.ops [
      ⟨(some 8), none, .bin .lss false (.t 7) (.t 6)⟩])
    (.seq (.cond (.t 8)
     .skip
     (.exit 0))
    (.seq (.block 1
     (.seq (.ops [
       ⟨(some 9), none, .mv (.t 7)⟩,
       ⟨(some 10), none, .ias 65 (.t 5) (.t 7)⟩,
       ⟨(some 11), none, .load true 65 (.t 10)⟩,
       ⟨(some 4), none, .alloc (.st [(.raw (.int .i64 (0))), (.af 64 (List.replicate 64 0))])⟩,
       ⟨(some 3), none, .mv (.t 9)⟩,
       ⟨none, none, .store 65 (.t 4) (.t 11)⟩])
     (.ops [
       ⟨(some 12), none, .mv (.t 0)⟩,
       ⟨(some 13), none, .mv (.t 3)⟩,
       ⟨(some 14), none, .load true 65 (.t 4)⟩,
       ⟨(some 15), none, .call 82 [(.t 14)]⟩,
       ⟨(some 16), none, .ias 65 (.t 12) (.t 13)⟩,
       ⟨none, none, .store 65 (.t 16) (.t 15)⟩])))
    (.ops [
      ⟨(some 17), none, .bin .add false (.t 7) (.c (.raw (.int .i64 (1))))⟩,
      ⟨(some 7), none, .mv (.t 17)⟩])))))))
  (.seq (.ops [
    ⟨(some 18), none, .mv (.t 0)⟩,
    ⟨(some 2), none, .mv (.t 18)⟩])
  .ret)))
def f59 : DFn := ⟨d59, [.tmp 2], 19⟩
theorem h59 : decFn Try.prog 59 = some f59 := by kernel_rfl

def d60 : DCode :=
  (.seq (.ops [
    ⟨(some 2), none, .mv (.c (nilS 1))⟩])
  (.seq (.seq (.ops [
    ⟨(some 5), none, .mv (.t 0)⟩,
    ⟨(some 6), none, .len (.t 5)⟩,
    ⟨(some 7), none, .mv (.c (.raw (.int .i64 (0))))⟩])
  (.block 0
   (.loop
    (.seq (.ops [
      ⟨(some 8), none, .bin .lss false (.t 7) (.t 6)⟩])
    (.seq (.cond (.t 8)
     .skip
     (.exit 0))
    (.seq (.block 1
     (.seq (.ops [
       ⟨(some 9), none, .mv (.t 7)⟩,
       ⟨(some 10), none, .ias 1 (.t 5) (.t 7)⟩,
       ⟨(some 11), none, .load false 1 (.t 10)⟩,
       ⟨(some 3), none, .mv (.t 9)⟩,
       ⟨(some 4), none, .mv (.t 11)⟩])
     (.ops [
       ⟨(some 12), none, .mv (.t 0)⟩,
       ⟨(some 13), none, .mv (.t 3)⟩,
       ⟨(some 14), none, .mv (.t 4)⟩,
       ⟨(some 15), none, .call 83 [(.t 14)]⟩,
       ⟨(some 16), none, .ias 1 (.t 12) (.t 13)⟩,
       ⟨none, none, .store 1 (.t 16) (.t 15)⟩])))
    (.ops [
      ⟨(some 17), none, .bin .add false (.t 7) (.c (.raw (.int .i64 (1))))⟩,
      ⟨(some 7), none, .mv (.t 17)⟩])))))))
  (.seq (.ops [
    ⟨(some 18), none, .mv (.t 0)⟩,
    ⟨(some 2), none, .mv (.t 18)⟩])
  .ret)))
def f60 : DFn := ⟨d60, [.tmp 2], 19⟩
theorem h60 : decFn Try.prog 60 = some f60 := by kernel_rfl

def d61 : DCode :=
  (.seq (.ops [
    ⟨(some 4), none, .mv (.c (.raw (.bool false)))⟩])
  (.seq (.ops [
    ⟨(some 5), none, .mv (.t 0)⟩,
    ⟨(some 6), none, .re (.t 5)⟩,
    ⟨(some 7), none, .mv (.t 1)⟩,
    ⟨(some 8), none, .re (.t 7)⟩,
    ⟨(some 9), none, .call 84 [(.t 6), (.t 8)]⟩,
    ⟨(some 10), none, .mv (.t 9)⟩,
    ⟨(some 11), (some (10, true)), .mv (.t 0)⟩,
    ⟨(some 12), (some (10, true)), .im (.t 11)⟩,
    ⟨(some 13), (some (10, true)), .mv (.t 1)⟩,
    ⟨(some 14), (some (10, true)), .im (.t 13)⟩,
    ⟨(some 15), (some (10, true)), .call 84 [(.t 12), (.t 14)]⟩,
    ⟨(some 16), none, .pick (.t 10) (.t 15) (.c (.raw (.bool false)))⟩,
    ⟨(some 4), none, .mv (.t 16)⟩])
  .ret))
def f61 : DFn := ⟨d61, [.tmp 4], 17⟩
theorem h61 : decFn Try.prog 61 = some f61 := by kernel_rfl

def d62 : DCode :=
  (.seq (.ops [
    ⟨(some 6), none, .mv (.c (.raw (.bool false)))⟩])
  (.seq (.ops [
    ⟨(some 7), none, .mv (.t 1)⟩,
    ⟨(some 8), none, .load false 1 (.t 2)⟩,
    ⟨(some 9), none, .load false 1 (.t 2)⟩,
    ⟨(some 10), none, .load false 1 (.t 3)⟩,
    ⟨(some 11), none, .bin .add false (.t 9) (.t 10)⟩,
    ⟨(some 12), none, .bin .sub false (.t 11) (.c (.raw (.int .i64 (1))))⟩,
    ⟨(some 13), none, .call 51 [(.t 7), (.t 8), (.t 12)]⟩,
    ⟨(some 6), none, .mv (.t 13)⟩])
  .ret))
def f62 : DFn := ⟨d62, [.tmp 6], 14⟩
theorem h62 : decFn Try.prog 62 = some f62 := by kernel_rfl

def d63 : DCode :=
  (.seq (.ops [
    ⟨(some 5), none, .mv (.c (.raw (.bool false)))⟩])
  (.seq (.drw [
    ⟨(some 6), none, .mv (.t 0)⟩,
    ⟨(some 7), none, .load false 1 (.t 2)⟩,
    ⟨(some 8), none, .bin .quo false (.t 6) (.t 7)⟩,
    ⟨(some 9), none, .mv (.t 1)⟩,
    ⟨(some 10), none, .load false 1 (.t 2)⟩,
    ⟨(some 11), none, .bin .quo false (.t 9) (.t 10)⟩,
    ⟨(some 12), none, .bin .add false (.t 8) (.t 11)⟩,
    ⟨(some 13), none, .bin .rem false (.t 12) (.c (.raw (.int .i64 (2))))⟩,
    ⟨(some 14), none, .bin .eql false (.t 13) (.c (.raw (.int .i64 (0))))⟩,
    ⟨(some 5), none, .mv (.t 14)⟩] [
    ])
  .ret))
def f63 : DFn := ⟨d63, [.tmp 5], 15⟩
theorem h63 : decFn Try.prog 63 = some f63 := by kernel_rfl

def d64 : DCode :=
  (.seq (.ops [
    ⟨(some 6), none, .mv (.c (.raw (.bool false)))⟩])
  (.seq (.ops [
    ⟨(some 7), none, .mv (.t 0)⟩,
    ⟨(some 8), none, .call 46 [(.t 7)]⟩,
    ⟨(some 9), none, .mv (.t 8)⟩,
    ⟨(some 10), (some (9, true)), .mv (.t 1)⟩,
    ⟨(some 11), (some (9, true)), .mv (.t 0)⟩,
    ⟨(some 12), (some (9, true)), .bin .sub false (.t 11) (.c (.raw (.int .i64 (1))))⟩,
    ⟨(some 13), (some (9, true)), .bin .mul false (.c (.raw (.int .i64 (2)))) (.t 12)⟩,
    ⟨(some 14), (some (9, true)), .call 47 [(.t 10), (.c (.raw (.int .i64 (0)))), (.t 13)]⟩,
    ⟨(some 15), none, .pick (.t 9) (.t 14) (.c (.raw (.bool false)))⟩,
    ⟨(some 16), none, .mv (.t 15)⟩,
    ⟨(some 17), (some (16, true)), .mv (.t 2)⟩,
    ⟨(some 18), (some (16, true)), .mv (.t 0)⟩,
    ⟨(some 19), (some (16, true)), .bin .sub false (.t 18) (.c (.raw (.int .i64 (1))))⟩,
    ⟨(some 20), (some (16, true)), .bin .mul false (.c (.raw (.int .i64 (2)))) (.t 19)⟩,
    ⟨(some 21), (some (16, true)), .call 47 [(.t 17), (.c (.raw (.int .i64 (0)))), (.t 20)]⟩,
    ⟨(some 22), none, .pick (.t 16) (.t 21) (.c (.raw (.bool false)))⟩,
    ⟨(some 6), none, .mv (.t 22)⟩])
  .ret))
def f64 : DFn := ⟨d64, [.tmp 6], 23⟩
theorem h64 : decFn Try.prog 64 = some f64 := by kernel_rfl

def d65 : DCode :=
  (.seq (.ops [
    ⟨(some 8), none, .mv (.c (.raw (.int .i64 (0))))⟩])
  (.seq (.ops [
    ⟨(some 9), none, .mv (.t 0)⟩,
    ⟨(some 10), none, .bin .mul false (.c (.raw (.int .i64 (2)))) (.t 9)⟩,
    ⟨(some 11), none, .mv (.t 2)⟩,
    ⟨(some 12), none, .bin .sub false (.t 10) (.t 11)⟩,
    ⟨(some 13), none, .mv (.t 0)⟩,
    ⟨(some 14), none, .bin .mul false (.c (.raw (.int .i64 (2)))) (.t 13)⟩,
    ⟨(some 15), none, .mv (.t 2)⟩,
    ⟨(some 16), none, .bin .sub false (.t 14) (.t 15)⟩,
    ⟨(some 17), none, .bin .mul false (.t 12) (.t 16)⟩,
    ⟨(some 18), none, .mv (.t 1)⟩,
    ⟨(some 19), none, .bin .mul false (.c (.raw (.int .i64 (2)))) (.t 18)⟩,
    ⟨(some 20), none, .mv (.t 3)⟩,
    ⟨(some 21), none, .bin .sub false (.t 19) (.t 20)⟩,
    ⟨(some 22), none, .mv (.t 1)⟩,
    ⟨(some 23), none, .bin .mul false (.c (.raw (.int .i64 (2)))) (.t 22)⟩,
    ⟨(some 24), none, .mv (.t 3)⟩,
    ⟨(some 25), none, .bin .sub false (.t 23) (.t 24)⟩,
    ⟨(some 26), none, .bin .mul false (.t 21) (.t 25)⟩,
    ⟨(some 27), none, .bin .add false (.t 17) (.t 26)⟩,
    ⟨(some 8), none, .mv (.t 27)⟩])
  .ret))
def f65 : DFn := ⟨d65, [.tmp 8], 28⟩
theorem h65 : decFn Try.prog 65 = some f65 := by kernel_rfl

def d66 : DCode :=
  (.seq (.ops [
    ⟨(some 6), none, .mv (.c (.raw (.bool false)))⟩])
  (.seq (.ops [
    ⟨(some 7), none, .mv (.t 0)⟩,
    ⟨(some 8), none, .call 50 [(.t 7)]⟩,
    ⟨(some 9), none, .mv (.t 8)⟩,
    ⟨(some 10), (some (9, true)), .mv (.t 1)⟩,
    ⟨(some 11), (some (9, true)), .mv (.t 0)⟩,
    ⟨(some 12), (some (9, true)), .bin .sub false (.t 11) (.c (.raw (.int .i64 (1))))⟩,
    ⟨(some 13), (some (9, true)), .bin .mul false (.c (.raw (.int .i64 (2)))) (.t 12)⟩,
    ⟨(some 14), (some (9, true)), .call 51 [(.t 10), (.c (.raw (.int .i64 (0)))), (.t 13)]⟩,
    ⟨(some 15), none, .pick (.t 9) (.t 14) (.c (.raw (.bool false)))⟩,
    ⟨(some 16), none, .mv (.t 15)⟩,
    ⟨(some 17), (some (16, true)), .mv (.t 2)⟩,
    ⟨(some 18), (some (16, true)), .mv (.t 0)⟩,
    ⟨(some 19), (some (16, true)), .bin .sub false (.t 18) (.c (.raw (.int .i64 (1))))⟩,
    ⟨(some 20), (some (16, true)), .bin .mul false (.c (.raw (.int .i64 (2)))) (.t 19)⟩,
    ⟨(some 21), (some (16, true)), .call 51 [(.t 17), (.c (.raw (.int .i64 (0)))), (.t 20)]⟩,
    ⟨(some 22), none, .pick (.t 16) (.t 21) (.c (.raw (.bool false)))⟩,
    ⟨(some 6), none, .mv (.t 22)⟩])
  .ret))
def f66 : DFn := ⟨d66, [.tmp 6], 23⟩
theorem h66 : decFn Try.prog 66 = some f66 := by kernel_rfl

def d67 : DCode :=
  (.seq (.ops [
    ⟨(some 7), none, .mv (.c (.raw (.bool false)))⟩])
  (.seq (.drw [
    ⟨(some 8), none, .mv (.t 0)⟩,
    ⟨(some 9), none, .mv (.t 1)⟩,
    ⟨(some 10), none, .load false 1 (.t 2)⟩,
    ⟨(some 11), none, .load false 1 (.t 3)⟩,
    ⟨(some 12), none, .call 68 [(.t 8), (.t 9), (.t 10), (.t 11)]⟩,
    ⟨(some 13), none, .load false 1 (.t 4)⟩,
    ⟨(some 14), none, .bin .leq false (.t 12) (.t 13)⟩,
    ⟨(some 7), none, .mv (.t 14)⟩] [
    ])
  .ret))
def f67 : DFn := ⟨d67, [.tmp 7], 15⟩
theorem h67 : decFn Try.prog 67 = some f67 := by kernel_rfl

def d68 : DCode :=
  (.seq (.ops [
    ⟨(some 8), none, .mv (.c (.raw (.int .i64 (0))))⟩])
  (.seq (.ops [
    ⟨(some 9), none, .mv (.t 0)⟩,
    ⟨(some 10), none, .bin .mul false (.c (.raw (.int .i64 (2)))) (.t 9)⟩,
    ⟨(some 11), none, .mv (.t 2)⟩,
    ⟨(some 12), none, .bin .sub false (.t 10) (.t 11)⟩,
    ⟨(some 13), none, .mv (.t 0)⟩,
    ⟨(some 14), none, .bin .mul false (.c (.raw (.int .i64 (2)))) (.t 13)⟩,
    ⟨(some 15), none, .mv (.t 2)⟩,
    ⟨(some 16), none, .bin .sub false (.t 14) (.t 15)⟩,
    ⟨(some 17), none, .bin .mul false (.t 12) (.t 16)⟩,
    ⟨(some 18), none, .mv (.t 1)⟩,
    ⟨(some 19), none, .bin .mul false (.c (.raw (.int .i64 (2)))) (.t 18)⟩,
    ⟨(some 20), none, .mv (.t 3)⟩,
    ⟨(some 21), none, .bin .sub false (.t 19) (.t 20)⟩,
    ⟨(some 22), none, .mv (.t 1)⟩,
    ⟨(some 23), none, .bin .mul false (.c (.raw (.int .i64 (2)))) (.t 22)⟩,
    ⟨(some 24), none, .mv (.t 3)⟩,
    ⟨(some 25), none, .bin .sub false (.t 23) (.t 24)⟩,
    ⟨(some 26), none, .bin .mul false (.t 21) (.t 25)⟩,
    ⟨(some 27), none, .bin .add false (.t 17) (.t 26)⟩,
    ⟨(some 8), none, .mv (.t 27)⟩])
  .ret))
def f68 : DFn := ⟨d68, [.tmp 8], 28⟩
theorem h68 : decFn Try.prog 68 = some f68 := by kernel_rfl

def d69 : DCode :=
  (.seq (.ops [
    ⟨(some 7), none, .mv (.c (.raw (.bool false)))⟩])
  (.seq (.drw [
    ⟨(some 8), none, .mv (.t 0)⟩,
    ⟨(some 9), none, .mv (.t 1)⟩,
    ⟨(some 10), none, .load false 1 (.t 2)⟩,
    ⟨(some 11), none, .load false 1 (.t 3)⟩,
    ⟨(some 12), none, .call 68 [(.t 8), (.t 9), (.t 10), (.t 11)]⟩,
    ⟨(some 13), none, .load false 1 (.t 4)⟩,
    ⟨(some 14), none, .bin .quo false (.t 12) (.t 13)⟩,
    ⟨(some 15), none, .bin .rem false (.t 14) (.c (.raw (.int .i64 (2))))⟩,
    ⟨(some 16), none, .bin .eql false (.t 15) (.c (.raw (.int .i64 (0))))⟩,
    ⟨(some 7), none, .mv (.t 16)⟩] [
    ])
  .ret))
def f69 : DFn := ⟨d69, [.tmp 7], 17⟩
theorem h69 : decFn Try.prog 69 = some f69 := by kernel_rfl

def d70 : DCode :=
  (.seq (.ops [
    ⟨(some 4), none, .mv (.c (nilS 1))⟩])
  (.seq (.ops [
    ⟨(some 9), none, .bsl .f 0 []⟩,
    ⟨(some 5), none, .mv (.t 9)⟩])
  (.seq (.seq (.ops [
    ⟨(some 6), none, .mv (.c (.raw (.int .i64 (0))))⟩])
  (.block 0
   (.loop
    (.seq (.seq (.ops [
      ⟨(some 10), none, .mv (.t 6)⟩,
      ⟨(some 11), none, .mv (.t 0)⟩,
      ⟨(some 12), none, .bin .lss false (.t 10) (.t 11)⟩])
    (.cond (.t 12)
     .skip
     (.exit 0)))
    (.seq (.block 1
     (.seq (.ops [
       ⟨(some 7), none, .mv (.c (.flt .f32 1065353216))⟩])
     (.seq (.seq (.ops [
       ⟨(some 15), none, .mv (.t 1)⟩,
       ⟨(some 16), none, .mv (.t 6)⟩,
       ⟨(some 17), none, .bin .and false (.t 15) (.t 16)⟩,
       ⟨(some 8), none, .mv (.t 17)⟩])
     (.block 2
      (.loop
       (.seq (.seq (.ops [
         ⟨(some 18), none, .mv (.t 8)⟩,
         ⟨(some 19), none, .bin .gtr false (.t 18) (.c (.raw (.int .i64 (0))))⟩])
       (.cond (.t 19)
        .skip
        (.exit 2)))
       (.seq (.block 3
        (.seq (.ops [
          ⟨(some 22), none, .mv (.t 8)⟩,
          ⟨(some 23), none, .bin .rem false (.t 22) (.c (.raw (.int .i64 (2))))⟩,
          ⟨(some 24), none, .bin .eql false (.t 23) (.c (.raw (.int .i64 (1))))⟩])
        (.cond (.t 24)
         (.ops [
           ⟨(some 25), none, .mv (.t 7)⟩,
           ⟨(some 26), none, .un .neg (.t 25)⟩,
           ⟨(some 7), none, .mv (.t 26)⟩])
         .skip)))
       (.ops [
         ⟨(some 20), none, .mv (.t 8)⟩,
         ⟨(some 21), none, .bin .quo false (.t 20) (.c (.raw (.int .i64 (2))))⟩,
         ⟨(some 8), none, .mv (.t 21)⟩]))))))
     (.ops [
       ⟨(some 27), none, .mv (.t 5)⟩,
       ⟨(some 28), none, .mv (.t 7)⟩,
       ⟨(some 29), none, .bsl .f 1 [(0, (.t 28))]⟩,
       ⟨(some 30), none, .app .f (.t 27) (.t 29)⟩,
       ⟨(some 5), none, .mv (.t 30)⟩]))))
    (.ops [
      ⟨(some 13), none, .mv (.t 6)⟩,
      ⟨(some 14), none, .bin .add false (.t 13) (.c (.raw (.int .i64 (1))))⟩,
      ⟨(some 6), none, .mv (.t 14)⟩]))))))
  (.seq (.ops [
    ⟨(some 31), none, .mv (.t 5)⟩,
    ⟨(some 4), none, .mv (.t 31)⟩])
  .ret))))
def f70 : DFn := ⟨d70, [.tmp 4], 32⟩
theorem h70 : decFn Try.prog 70 = some f70 := by kernel_rfl

def d71 : DCode :=
  (.seq (.ops [
    ⟨(some 4), none, .alloc (.st [(.raw (.int .i64 (0))), (.ac 64 (List.replicate 64 (0, 0)))])⟩])
  (.seq (.ops [
    ⟨(some 7), none, .mv (.t 0)⟩,
    ⟨(some 8), none, .build [(.raw (.int .i64 (0))), (.ac 64 (List.replicate 64 (0, 0)))] [(0, 0, 1, (.t 7))]⟩,
    ⟨(some 5), none, .alloc (.st [(.raw (.int .i64 (0))), (.ac 64 (List.replicate 64 (0, 0)))])⟩,
    ⟨none, none, .store 65 (.t 5) (.t 8)⟩])
  (.seq (.seq (.ops [
    ⟨(some 9), none, .mv (.t 0)⟩,
    ⟨(some 10), none, .mv (.t 0)⟩,
    ⟨(some 11), none, .bin .mul false (.t 9) (.t 10)⟩,
    ⟨(some 12), none, .mv (.c (.raw (.int .i64 (0))))⟩])
  (.block 0
   (.loop
    (.seq (.ops [
      ⟨(some 13), none, .bin .lss false (.t 12) (.t 11)⟩])
    (.seq (.cond (.t 13)
     .skip
     (.exit 0))
    (.seq (.block 1
     (.seq (.ops [
       ⟨(some 14), none, .mv (.t 12)⟩,
       ⟨(some 6), none, .mv (.t 14)⟩])
     (.drw [
       ⟨(some 15), none, .mv (.t 6)⟩,
       ⟨(some 16), none, .mv (.t 1)⟩,
       ⟨(some 17), none, .mv (.t 6)⟩,
       ⟨(some 18), none, .mv (.t 0)⟩,
       ⟨(some 19), none, .bin .quo false (.t 17) (.t 18)⟩,
       ⟨(some 20), none, .mv (.t 6)⟩,
       ⟨(some 21), none, .mv (.t 0)⟩,
       ⟨(some 22), none, .bin .rem false (.t 20) (.t 21)⟩,
       ⟨(some 23), none, .mv (.t 6)⟩,
       ⟨(some 24), none, .callv (.t 16) [(.t 19), (.t 22), (.t 23)]⟩,
       ⟨(some 25), none, .fad (.t 5) 1 1⟩,
       ⟨(some 26), none, .iad 64 1 (.t 25) (.t 15)⟩] [
       ⟨none, none, .store 1 (.t 26) (.t 24)⟩])))
    (.ops [
      ⟨(some 27), none, .bin .add false (.t 12) (.c (.raw (.int .i64 (1))))⟩,
      ⟨(some 12), none, .mv (.t 27)⟩])))))))
  (.seq (.ops [
    ⟨(some 28), none, .load true 65 (.t 5)⟩,
    ⟨none, none, .store 65 (.t 4) (.t 28)⟩])
  .ret))))
def f71 : DFn := ⟨d71, [.cell 4 true 65], 29⟩
theorem h71 : decFn Try.prog 71 = some f71 := by kernel_rfl

def d72 : DCode :=
  (.seq (.ops [
    ⟨(some 7), none, .mv (.c (.cpx .f32 0 0))⟩])
  (.seq (.ops [
    ⟨(some 8), none, .load false 1 (.t 3)⟩,
    ⟨(some 9), none, .mv (.t 2)⟩,
    ⟨(some 10), none, .call 73 [(.t 8), (.t 9)]⟩,
    ⟨(some 11), none, .mkc (.t 10) (.c (.flt .f32 0))⟩,
    ⟨(some 7), none, .mv (.t 11)⟩])
  .ret))
def f72 : DFn := ⟨d72, [.tmp 7], 12⟩
theorem h72 : decFn Try.prog 72 = some f72 := by kernel_rfl

def d73 : DCode :=
  (.seq (.ops [
    ⟨(some 4), none, .mv (.c (.flt .f32 0))⟩])
  (.seq (.seq (.ops [
    ⟨(some 5), none, .mv (.t 0)⟩,
    ⟨(some 6), none, .mv (.t 1)⟩,
    ⟨(some 7), none, .bin .and false (.t 5) (.t 6)⟩,
    ⟨(some 8), none, .cvI .u64 (.t 7)⟩,
    ⟨(some 9), none, .call 85 [(.t 8)]⟩,
    ⟨(some 10), none, .bin .rem false (.t 9) (.c (.raw (.int .i64 (2))))⟩,
    ⟨(some 11), none, .bin .eql false (.t 10) (.c (.raw (.int .i64 (0))))⟩])
  (.cond (.t 11)
   (.seq (.ops [
     ⟨(some 4), none, .mv (.c (.flt .f32 1065353216))⟩])
   .ret)
   .skip))
  (.seq (.ops [
    ⟨(some 4), none, .mv (.c (.flt .f32 3212836864))⟩])
  .ret)))
def f73 : DFn := ⟨d73, [.tmp 4], 12⟩
theorem h73 : decFn Try.prog 73 = some f73 := by kernel_rfl

def d74 : DCode :=
  (.seq (.ops [
    ⟨(some 1), none, .box (.t 0)⟩,
    ⟨(some 2), none, .alloc (.st [(.raw (.int .i64 (0))), (.af 64 (List.replicate 64 0))])⟩])
  (.seq (.seq (.ops [
    ⟨(some 3), none, .mv (.c (.raw (.int .i64 (0))))⟩])
  (.block 0
   (.loop
    (.seq (.seq (.ops [
      ⟨(some 4), none, .mv (.t 3)⟩,
      ⟨(some 5), none, .bin .lss false (.t 4) (.c (.raw (.int .i64 (64))))⟩])
    (.cond (.t 5)
     .skip
     (.exit 0)))
    (.seq (.block 1
     (.ops [
       ⟨(some 8), none, .mv (.t 3)⟩,
       ⟨(some 9), none, .mv (.t 3)⟩,
       ⟨(some 10), none, .fad (.t 1) 1 1⟩,
       ⟨(some 11), none, .iad 64 1 (.t 10) (.t 9)⟩,
       ⟨(some 12), none, .load false 1 (.t 11)⟩,
       ⟨(some 13), none, .call 78 [(.t 12)]⟩,
       ⟨(some 14), none, .fad (.t 1) 1 1⟩,
       ⟨(some 15), none, .iad 64 1 (.t 14) (.t 8)⟩,
       ⟨none, none, .store 1 (.t 15) (.t 13)⟩]))
    (.ops [
      ⟨(some 6), none, .mv (.t 3)⟩,
      ⟨(some 7), none, .bin .add false (.t 6) (.c (.raw (.int .i64 (1))))⟩,
      ⟨(some 3), none, .mv (.t 7)⟩]))))))
  (.seq (.ops [
    ⟨(some 16), none, .load true 65 (.t 1)⟩,
    ⟨none, none, .store 65 (.t 2) (.t 16)⟩])
  .ret)))
def f74 : DFn := ⟨d74, [.cell 2 true 65], 17⟩
theorem h74 : decFn Try.prog 74 = some f74 := by kernel_rfl

def d75 : DCode :=
  (.seq (.ops [
    ⟨(some 0), none, .alloc (.st [(.st [(.raw (.int .i64 (0))), (.ac 64 (List.replicate 64 (0, 0)))]), (.st [(.raw (.int .i64 (0))), (.ac 64 (List.replicate 64 (0, 0)))]), (.st [(.raw (.int .i64 (0))), (.af 64 (List.replicate 64 0))])])⟩])
  (.seq (.ops [
    ⟨(some 3), none, .call 48 [(.c (.raw (.int .i64 (2))))]⟩,
    ⟨(some 1), none, .alloc (.st [(.raw (.int .i64 (0))), (.ac 64 (List.replicate 64 (0, 0)))])⟩,
    ⟨none, none, .store 65 (.t 1) (.t 3)⟩])
  (.seq (.seq (.ops [
    ⟨(some 2), none, .mv (.c (.raw (.int .i64 (0))))⟩])
  (.block 0
   (.loop
    (.seq (.seq (.ops [
      ⟨(some 4), none, .mv (.t 2)⟩,
      ⟨(some 5), none, .bin .lss false (.t 4) (.c (.raw (.int .i64 (4))))⟩])
    (.cond (.t 5)
     .skip
     (.exit 0)))
    (.seq (.block 1
     (.ops [
       ⟨(some 8), none, .mv (.t 2)⟩,
       ⟨(some 9), none, .fad (.t 1) 1 1⟩,
       ⟨(some 10), none, .iad 64 1 (.t 9) (.t 8)⟩,
       ⟨none, none, .store 1 (.t 10) (.c (.cpx .f32 1065353216 0))⟩]))
    (.ops [
      ⟨(some 6), none, .mv (.t 2)⟩,
      ⟨(some 7), none, .bin .add false (.t 6) (.c (.raw (.int .i64 (1))))⟩,
      ⟨(some 2), none, .mv (.t 7)⟩]))))))
  (.seq (.ops [
    ⟨(some 11), none, .load true 65 (.t 1)⟩,
    ⟨(some 12), none, .load true 65 (.t 1)⟩,
    ⟨(some 13), none, .build [(.raw (.int .i64 (0))), (.af 64 (List.replicate 64 0))] [(0, 0, 1, (.c (.raw (.int .i64 (2)))))]⟩,
    ⟨(some 14), none, .build [(.st [(.raw (.int .i64 (0))), (.ac 64 (List.replicate 64 (0, 0)))]), (.st [(.raw (.int .i64 (0))), (.ac 64 (List.replicate 64 (0, 0)))]), (.st [(.raw (.int .i64 (0))), (.af 64 (List.replicate 64 0))])] [(0, 0, 65, (.t 11)), (1, 65, 65, (.t 12)), (2, 130, 65, (.t 13))]⟩,
    ⟨none, none, .store 195 (.t 0) (.t 14)⟩])
  .ret))))
def f75 : DFn := ⟨d75, [.cell 0 true 195], 15⟩
theorem h75 : decFn Try.prog 75 = some f75 := by kernel_rfl

def d76 : DCode :=
  (.seq (.ops [
    ⟨(some 4), none, .alloc (.st [(.raw (.int .i64 (0))), (.ac 64 (List.replicate 64 (0, 0)))])⟩,
    ⟨(some 5), none, .mv (.c (.raw (.int .i64 (0))))⟩])
  (.seq (.ops [
    ⟨(some 9), none, .mv (.t 0)⟩,
    ⟨(some 10), none, .mv (.t 1)⟩,
    ⟨(some 11), none, .call 86 [(.t 9), (.t 10)]⟩,
    ⟨(some 8), none, .mv (.t 11)⟩,
    ⟨(some 12), none, .ext (.t 8) 0⟩,
    ⟨(some 13), none, .ext (.t 8) 1⟩,
    ⟨(some 6), none, .alloc (.st [(.raw (.int .i64 (0))), (.ac 64 (List.replicate 64 (0, 0)))])⟩,
    ⟨none, none, .store 65 (.t 6) (.t 12)⟩,
    ⟨(some 7), none, .mv (.t 13)⟩])
  (.seq (.ops [
    ⟨(some 14), none, .load true 65 (.t 6)⟩,
    ⟨(some 15), none, .call 29 [(.t 14)]⟩,
    ⟨(some 16), none, .mv (.t 7)⟩,
    ⟨none, none, .store 65 (.t 4) (.t 15)⟩,
    ⟨(some 5), none, .mv (.t 16)⟩])
  .ret)))
def f76 : DFn := ⟨d76, [.cell 4 true 65, .tmp 5], 17⟩
theorem h76 : decFn Try.prog 76 = some f76 := by kernel_rfl

def d77 : DCode :=
  (.seq (.ops [
    ⟨(some 2), none, .box (.t 0)⟩,
    ⟨(some 3), none, .box (.t 1)⟩,
    ⟨(some 4), none, .mv (.c (.raw (.bool false)))⟩])
  (.seq (.seq (.ops [
    ⟨(some 5), none, .mv (.c (.raw (.int .i64 (0))))⟩])
  (.block 0
   (.loop
    (.seq (.seq (.ops [
      ⟨(some 6), none, .mv (.t 5)⟩,
      ⟨(some 7), none, .bin .lss false (.t 6) (.c (.raw (.int .i64 (64))))⟩])
    (.cond (.t 7)
     .skip
     (.exit 0)))
    (.seq (.block 1
     (.seq (.drw [
       ⟨(some 10), none, .mv (.t 5)⟩,
       ⟨(some 11), none, .iad 64 1 (.t 2) (.t 10)⟩,
       ⟨(some 12), none, .load false 1 (.t 11)⟩,
       ⟨(some 13), none, .cvF .f64 (.t 12)⟩,
       ⟨(some 14), none, .mv (.t 5)⟩,
       ⟨(some 15), none, .iad 64 1 (.t 3) (.t 14)⟩,
       ⟨(some 16), none, .load false 1 (.t 15)⟩,
       ⟨(some 17), none, .cvF .f64 (.t 16)⟩,
       ⟨(some 18), none, .call 84 [(.t 13), (.t 17)]⟩,
       ⟨(some 19), none, .un .not (.t 18)⟩] [
       ])
     (.cond (.t 19)
      (.seq (.ops [
        ⟨(some 4), none, .mv (.c (.raw (.bool false)))⟩])
      .ret)
      .skip)))
    (.ops [
      ⟨(some 8), none, .mv (.t 5)⟩,
      ⟨(some 9), none, .bin .add false (.t 8) (.c (.raw (.int .i64 (1))))⟩,
      ⟨(some 5), none, .mv (.t 9)⟩]))))))
  (.seq (.ops [
    ⟨(some 4), none, .mv (.c (.raw (.bool true)))⟩])
  .ret)))
def f77 : DFn := ⟨d77, [.tmp 4], 20⟩
theorem h77 : decFn Try.prog 77 = some f77 := by kernel_rfl

def d78 : DCode :=
  (.seq (.ops [
    ⟨(some 2), none, .mv (.c (.flt .f32 0))⟩])
  (.seq (.seq (.ops [
    ⟨(some 3), none, .mv (.t 0)⟩,
    ⟨(some 4), none, .bin .eql false (.t 3) (.c (.flt .f32 0))⟩])
  (.cond (.t 4)
   (.seq (.ops [
     ⟨(some 2), none, .mv (.c (.flt .f32 0))⟩])
   .ret)
   .skip))
  (.seq (.ops [
    ⟨(some 5), none, .mv (.t 0)⟩,
    ⟨(some 2), none, .mv (.t 5)⟩])
  .ret)))
def f78 : DFn := ⟨d78, [.tmp 2], 6⟩
theorem h78 : decFn Try.prog 78 = some f78 := by kernel_rfl

def d79 : DCode :=
  (.seq (.ops [
    ⟨(some 7), none, .mv (.c (.cpx .f32 0 0))⟩])
  (.seq (.seq (.ops [
    ⟨(some 8), none, .load false 1 (.t 3)⟩,
    ⟨(some 9), none, .mv (.t 0)⟩,
    ⟨(some 10), none, .mv (.t 1)⟩,
    ⟨(some 11), none, .callv (.t 8) [(.t 9), (.t 10)]⟩])
  (.cond (.t 11)
   (.seq (.ops [
     ⟨(some 7), none, .mv (.c (.cpx .f32 1065353216 0))⟩])
   .ret)
   .skip))
  (.seq (.ops [
    ⟨(some 7), none, .mv (.c (.cpx .f32 0 0))⟩])
  .ret)))
def f79 : DFn := ⟨d79, [.tmp 7], 12⟩
theorem h79 : decFn Try.prog 79 = some f79 := by kernel_rfl

def d80 : DCode :=
  (.seq (.ops [
    ⟨(some 1), none, .box (.t 0)⟩,
    ⟨(some 2), none, .mv (.c (.flt .f32 0))⟩])
  (.seq (.seq (.ops [
    ⟨(some 17), none, .mki 52 (.t 1)⟩])
  (.block 0
   (.seq (.ops [
     ⟨(some 18), none, .tas (.t 17) 52 (.raw (.pointer none))⟩,
     ⟨(some 19), none, .ext (.t 18) 1⟩,
     ⟨(some 20), none, .ext (.t 18) 0⟩])
   (.cond (.t 19)
    (.seq (.ops [
      ⟨(some 3), none, .mv (.t 20)⟩])
    (.ops [
      ⟨(some 21), none, .mv (.t 3)⟩,
      ⟨(some 22), none, .mv (.t 3)⟩,
      ⟨(some 23), none, .nck (.t 22)⟩,
      ⟨(some 24), none, .load false 1 (.t 23)⟩,
      ⟨(some 25), none, .call 54 [(.t 24)]⟩,
      ⟨(some 26), none, .nck (.t 21)⟩,
      ⟨none, none, .store 1 (.t 26) (.t 25)⟩]))
    (.seq (.ops [
      ⟨(some 27), none, .tas (.t 17) 54 (.raw (.pointer none))⟩,
      ⟨(some 28), none, .ext (.t 27) 1⟩,
      ⟨(some 29), none, .ext (.t 27) 0⟩])
    (.cond (.t 28)
     (.seq (.ops [
       ⟨(some 4), none, .mv (.t 29)⟩])
     (.ops [
       ⟨(some 30), none, .mv (.t 4)⟩,
       ⟨(some 31), none, .mv (.t 4)⟩,
       ⟨(some 32), none, .nck (.t 31)⟩,
       ⟨(some 33), none, .load false 1 (.t 32)⟩,
       ⟨(some 34), none, .call 55 [(.t 33)]⟩,
       ⟨(some 35), none, .nck (.t 30)⟩,
       ⟨none, none, .store 1 (.t 35) (.t 34)⟩]))
     (.seq (.ops [
       ⟨(some 36), none, .tas (.t 17) 51 (.raw (.pointer none))⟩,
       ⟨(some 37), none, .ext (.t 36) 1⟩,
       ⟨(some 38), none, .ext (.t 36) 0⟩])
     (.cond (.t 37)
      (.seq (.ops [
        ⟨(some 5), none, .mv (.t 38)⟩])
      (.seq (.ops [
        ⟨(some 39), none, .mv (.t 5)⟩,
        ⟨(some 40), none, .nck (.t 39)⟩,
        ⟨(some 41), none, .fad (.t 40) 1 1⟩,
        ⟨(some 42), none, .load true 64 (.t 41)⟩,
        ⟨(some 43), none, .mv (.c (.raw (.int .i64 (0))))⟩])
      (.block 1
       (.loop
        (.seq (.ops [
          ⟨(some 44), none, .bin .lss false (.t 43) (.c (.raw (.int .i64 (64))))⟩])
        (.seq (.cond (.t 44)
         .skip
         (.exit 1))
        (.seq (.block 2
         (.seq (.ops [
           ⟨(some 45), none, .mv (.t 43)⟩,
           ⟨(some 46), none, .idx 64 (.t 42) (.t 43)⟩,
           ⟨(some 6), none, .mv (.t 45)⟩,
           ⟨(some 7), none, .mv (.t 46)⟩])
         (.drw [
           ⟨(some 47), none, .mv (.t 5)⟩,
           ⟨(some 48), none, .mv (.t 6)⟩,
           ⟨(some 49), none, .mv (.t 7)⟩,
           ⟨(some 50), none, .call 55 [(.t 49)]⟩,
           ⟨(some 51), none, .nck (.t 47)⟩,
           ⟨(some 52), none, .fad (.t 51) 1 1⟩,
           ⟨(some 53), none, .iad 64 1 (.t 52) (.t 48)⟩] [
           ⟨none, none, .store 1 (.t 53) (.t 50)⟩])))
        (.ops [
          ⟨(some 54), none, .bin .add false (.t 43) (.c (.raw (.int .i64 (1))))⟩,
          ⟨(some 43), none, .mv (.t 54)⟩]))))))))
      (.seq (.ops [
        ⟨(some 55), none, .tas (.t 17) 55 (.raw (.pointer none))⟩,
        ⟨(some 56), none, .ext (.t 55) 1⟩,
        ⟨(some 57), none, .ext (.t 55) 0⟩])
      (.cond (.t 56)
       (.seq (.ops [
         ⟨(some 8), none, .mv (.t 57)⟩])
       (.seq (.ops [
         ⟨(some 58), none, .mv (.t 8)⟩,
         ⟨(some 59), none, .nck (.t 58)⟩,
         ⟨(some 60), none, .fad (.t 59) 1 1⟩,
         ⟨(some 61), none, .load true 64 (.t 60)⟩,
         ⟨(some 62), none, .mv (.c (.raw (.int .i64 (0))))⟩])
       (.block 3
        (.loop
         (.seq (.ops [
           ⟨(some 63), none, .bin .lss false (.t 62) (.c (.raw (.int .i64 (64))))⟩])
         (.seq (.cond (.t 63)
          .skip
          (.exit 3))
         (.seq (.block 4
          (.seq (.ops [
            ⟨(some 64), none, .mv (.t 62)⟩,
            ⟨(some 65), none, .idx 64 (.t 61) (.t 62)⟩,
            ⟨(some 9), none, .mv (.t 64)⟩,
            ⟨(some 10), none, .mv (.t 65)⟩])
          (.drw [
            ⟨(some 66), none, .mv (.t 8)⟩,
            ⟨(some 67), none, .mv (.t 9)⟩,
            ⟨(some 68), none, .mv (.t 10)⟩,
            ⟨(some 69), none, .call 54 [(.t 68)]⟩,
            ⟨(some 70), none, .nck (.t 66)⟩,
            ⟨(some 71), none, .fad (.t 70) 1 1⟩,
            ⟨(some 72), none, .iad 64 1 (.t 71) (.t 67)⟩] [
            ⟨none, none, .store 1 (.t 72) (.t 69)⟩])))
         (.ops [
           ⟨(some 73), none, .bin .add false (.t 62) (.c (.raw (.int .i64 (1))))⟩,
           ⟨(some 62), none, .mv (.t 73)⟩]))))))))
       (.seq (.ops [
         ⟨(some 74), none, .tas (.t 17) 56 (.raw (.pointer none))⟩,
         ⟨(some 75), none, .ext (.t 74) 1⟩,
         ⟨(some 76), none, .ext (.t 74) 0⟩])
       (.cond (.t 75)
        (.seq (.ops [
          ⟨(some 11), none, .mv (.t 76)⟩])
        (.ops [
          ⟨(some 77), none, .mv (.t 11)⟩,
          ⟨(some 78), none, .mv (.t 11)⟩,
          ⟨(some 79), none, .nck (.t 78)⟩,
          ⟨(some 80), none, .load false 1 (.t 79)⟩,
          ⟨(some 81), none, .call 56 [(.t 80)]⟩,
          ⟨(some 82), none, .nck (.t 77)⟩,
          ⟨none, none, .store 1 (.t 82) (.t 81)⟩]))
        (.seq (.ops [
          ⟨(some 83), none, .tas (.t 17) 59 (.raw (.pointer none))⟩,
          ⟨(some 84), none, .ext (.t 83) 1⟩,
          ⟨(some 85), none, .ext (.t 83) 0⟩])
        (.cond (.t 84)
         (.seq (.ops [
           ⟨(some 12), none, .mv (.t 85)⟩])
         (.ops [
           ⟨(some 86), none, .mv (.t 12)⟩,
           ⟨(some 87), none, .mv (.t 12)⟩,
           ⟨(some 88), none, .nck (.t 87)⟩,
           ⟨(some 89), none, .load false 1 (.t 88)⟩,
           ⟨(some 90), none, .call 57 [(.t 89)]⟩,
           ⟨(some 91), none, .nck (.t 86)⟩,
           ⟨none, none, .store 1 (.t 91) (.t 90)⟩]))
         (.seq (.ops [
           ⟨(some 92), none, .tas (.t 17) 62 (.raw (.pointer none))⟩,
           ⟨(some 93), none, .ext (.t 92) 1⟩,
           ⟨(some 94), none, .ext (.t 92) 0⟩])
         (.cond (.t 93)
          (.seq (.ops [
            ⟨(some 13), none, .mv (.t 94)⟩])
          (.ops [
            ⟨(some 95), none, .mv (.t 13)⟩,
            ⟨(some 96), none, .mv (.t 13)⟩,
            ⟨(some 97), none, .nck (.t 96)⟩,
            ⟨(some 98), none, .load false 1 (.t 97)⟩,
            ⟨(some 99), none, .call 58 [(.t 98)]⟩,
            ⟨(some 100), none, .nck (.t 95)⟩,
            ⟨none, none, .store 1 (.t 100) (.t 99)⟩]))
          (.seq (.ops [
            ⟨(some 101), none, .tas (.t 17) 65 (.raw (.pointer none))⟩,
            ⟨(some 102), none, .ext (.t 101) 1⟩,
            ⟨(some 103), none, .ext (.t 101) 0⟩])
          (.cond (.t 102)
           (.seq (.ops [
             ⟨(some 14), none, .mv (.t 103)⟩])
           (.ops [
             ⟨(some 104), none, .mv (.t 14)⟩,
             ⟨(some 105), none, .mv (.t 14)⟩,
             ⟨(some 106), none, .nck (.t 105)⟩,
             ⟨(some 107), none, .load false 1 (.t 106)⟩,
             ⟨(some 108), none, .call 59 [(.t 107)]⟩,
             ⟨(some 109), none, .nck (.t 104)⟩,
             ⟨none, none, .store 1 (.t 109) (.t 108)⟩]))
           (.seq (.ops [
             ⟨(some 110), none, .tas (.t 17) 68 (.raw (.pointer none))⟩,
             ⟨(some 111), none, .ext (.t 110) 1⟩,
             ⟨(some 112), none, .ext (.t 110) 0⟩])
           (.cond (.t 111)
            (.seq (.ops [
              ⟨(some 15), none, .mv (.t 112)⟩])
            (.ops [
              ⟨(some 113), none, .mv (.t 15)⟩,
              ⟨(some 114), none, .mv (.t 15)⟩,
              ⟨(some 115), none, .nck (.t 114)⟩,
              ⟨(some 116), none, .load false 1 (.t 115)⟩,
              ⟨(some 117), none, .call 60 [(.t 116)]⟩,
              ⟨(some 118), none, .nck (.t 113)⟩,
              ⟨none, none, .store 1 (.t 118) (.t 117)⟩]))
            (.seq (.ops [
              ⟨(some 119), none, .tai (.t 17) [80] (.raw .nilIface)⟩,
              ⟨(some 120), none, .ext (.t 119) 1⟩,
              ⟨(some 121), none, .ext (.t 119) 0⟩])
            (.cond (.t 120)
             (.seq (.ops [
               ⟨(some 16), none, .mv (.t 121)⟩])
             (.ops [
               ⟨(some 122), none, .mv (.t 16)⟩,
               ⟨(some 123), none, .inv (.t 122) [(80, 106)] []⟩]))
             .skip))))))))))))))))))))))
  (.seq (.ops [
    ⟨(some 124), none, .load false 1 (.t 1)⟩,
    ⟨(some 2), none, .mv (.t 124)⟩])
  .ret)))
def f80 : DFn := ⟨d80, [.tmp 2], 125⟩
theorem h80 : decFn Try.prog 80 = some f80 := by kernel_rfl

def d81 : DCode :=
  (.seq (.ops [
    ⟨(some 1), none, .box (.t 0)⟩,
    ⟨(some 2), none, .mv (.c (.cpx .f32 0 0))⟩])
  (.seq (.seq (.ops [
    ⟨(some 17), none, .mki 54 (.t 1)⟩])
  (.block 0
   (.seq (.ops [
     ⟨(some 18), none, .tas (.t 17) 52 (.raw (.pointer none))⟩,
     ⟨(some 19), none, .ext (.t 18) 1⟩,
     ⟨(some 20), none, .ext (.t 18) 0⟩])
   (.cond (.t 19)
    (.seq (.ops [
      ⟨(some 3), none, .mv (.t 20)⟩])
    (.ops [
      ⟨(some 21), none, .mv (.t 3)⟩,
      ⟨(some 22), none, .mv (.t 3)⟩,
      ⟨(some 23), none, .nck (.t 22)⟩,
      ⟨(some 24), none, .load false 1 (.t 23)⟩,
      ⟨(some 25), none, .call 54 [(.t 24)]⟩,
      ⟨(some 26), none, .nck (.t 21)⟩,
      ⟨none, none, .store 1 (.t 26) (.t 25)⟩]))
    (.seq (.ops [
      ⟨(some 27), none, .tas (.t 17) 54 (.raw (.pointer none))⟩,
      ⟨(some 28), none, .ext (.t 27) 1⟩,
      ⟨(some 29), none, .ext (.t 27) 0⟩])
    (.cond (.t 28)
     (.seq (.ops [
       ⟨(some 4), none, .mv (.t 29)⟩])
     (.ops [
       ⟨(some 30), none, .mv (.t 4)⟩,
       ⟨(some 31), none, .mv (.t 4)⟩,
       ⟨(some 32), none, .nck (.t 31)⟩,
       ⟨(some 33), none, .load false 1 (.t 32)⟩,
       ⟨(some 34), none, .call 55 [(.t 33)]⟩,
       ⟨(some 35), none, .nck (.t 30)⟩,
       ⟨none, none, .store 1 (.t 35) (.t 34)⟩]))
     (.seq (.ops [
       ⟨(some 36), none, .tas (.t 17) 51 (.raw (.pointer none))⟩,
       ⟨(some 37), none, .ext (.t 36) 1⟩,
       ⟨(some 38), none, .ext (.t 36) 0⟩])
     (.cond (.t 37)
      (.seq (.ops [
        ⟨(some 5), none, .mv (.t 38)⟩])
      (.seq (.ops [
        ⟨(some 39), none, .mv (.t 5)⟩,
        ⟨(some 40), none, .nck (.t 39)⟩,
        ⟨(some 41), none, .fad (.t 40) 1 1⟩,
        ⟨(some 42), none, .load true 64 (.t 41)⟩,
        ⟨(some 43), none, .mv (.c (.raw (.int .i64 (0))))⟩])
      (.block 1
       (.loop
        (.seq (.ops [
          ⟨(some 44), none, .bin .lss false (.t 43) (.c (.raw (.int .i64 (64))))⟩])
        (.seq (.cond (.t 44)
         .skip
         (.exit 1))
        (.seq (.block 2
         (.seq (.ops [
           ⟨(some 45), none, .mv (.t 43)⟩,
           ⟨(some 46), none, .idx 64 (.t 42) (.t 43)⟩,
           ⟨(some 6), none, .mv (.t 45)⟩,
           ⟨(some 7), none, .mv (.t 46)⟩])
         (.drw [
           ⟨(some 47), none, .mv (.t 5)⟩,
           ⟨(some 48), none, .mv (.t 6)⟩,
           ⟨(some 49), none, .mv (.t 7)⟩,
           ⟨(some 50), none, .call 55 [(.t 49)]⟩,
           ⟨(some 51), none, .nck (.t 47)⟩,
           ⟨(some 52), none, .fad (.t 51) 1 1⟩,
           ⟨(some 53), none, .iad 64 1 (.t 52) (.t 48)⟩] [
           ⟨none, none, .store 1 (.t 53) (.t 50)⟩])))
        (.ops [
          ⟨(some 54), none, .bin .add false (.t 43) (.c (.raw (.int .i64 (1))))⟩,
          ⟨(some 43), none, .mv (.t 54)⟩]))))))))
      (.seq (.ops [
        ⟨(some 55), none, .tas (.t 17) 55 (.raw (.pointer none))⟩,
        ⟨(some 56), none, .ext (.t 55) 1⟩,
        ⟨(some 57), none, .ext (.t 55) 0⟩])
      (.cond (.t 56)
       (.seq (.ops [
         ⟨(some 8), none, .mv (.t 57)⟩])
       (.seq (.ops [
         ⟨(some 58), none, .mv (.t 8)⟩,
         ⟨(some 59), none, .nck (.t 58)⟩,
         ⟨(some 60), none, .fad (.t 59) 1 1⟩,
         ⟨(some 61), none, .load true 64 (.t 60)⟩,
         ⟨(some 62), none, .mv (.c (.raw (.int .i64 (0))))⟩])
       (.block 3
        (.loop
         (.seq (.ops [
           ⟨(some 63), none, .bin .lss false (.t 62) (.c (.raw (.int .i64 (64))))⟩])
         (.seq (.cond (.t 63)
          .skip
          (.exit 3))
         (.seq (.block 4
          (.seq (.ops [
            ⟨(some 64), none, .mv (.t 62)⟩,
            ⟨(some 65), none, .idx 64 (.t 61) (.t 62)⟩,
            ⟨(some 9), none, .mv (.t 64)⟩,
            ⟨(some 10), none, .mv (.t 65)⟩])
          (.drw [
            ⟨(some 66), none, .mv (.t 8)⟩,
            ⟨(some 67), none, .mv (.t 9)⟩,
            ⟨(some 68), none, .mv (.t 10)⟩,
            ⟨(some 69), none, .call 54 [(.t 68)]⟩,
            ⟨(some 70), none, .nck (.t 66)⟩,
            ⟨(some 71), none, .fad (.t 70) 1 1⟩,
            ⟨(some 72), none, .iad 64 1 (.t 71) (.t 67)⟩] [
            ⟨none, none, .store 1 (.t 72) (.t 69)⟩])))
         (.ops [
           ⟨(some 73), none, .bin .add false (.t 62) (.c (.raw (.int .i64 (1))))⟩,
           ⟨(some 62), none, .mv (.t 73)⟩]))))))))
       (.seq (.ops [
         ⟨(some 74), none, .tas (.t 17) 56 (.raw (.pointer none))⟩,
         ⟨(some 75), none, .ext (.t 74) 1⟩,
         ⟨(some 76), none, .ext (.t 74) 0⟩])
       (.cond (.t 75)
        (.seq (.ops [
          ⟨(some 11), none, .mv (.t 76)⟩])
        (.ops [
          ⟨(some 77), none, .mv (.t 11)⟩,
          ⟨(some 78), none, .mv (.t 11)⟩,
          ⟨(some 79), none, .nck (.t 78)⟩,
          ⟨(some 80), none, .load false 1 (.t 79)⟩,
          ⟨(some 81), none, .call 56 [(.t 80)]⟩,
          ⟨(some 82), none, .nck (.t 77)⟩,
          ⟨none, none, .store 1 (.t 82) (.t 81)⟩]))
        (.seq (.ops [
          ⟨(some 83), none, .tas (.t 17) 59 (.raw (.pointer none))⟩,
          ⟨(some 84), none, .ext (.t 83) 1⟩,
          ⟨(some 85), none, .ext (.t 83) 0⟩])
        (.cond (.t 84)
         (.seq (.ops [
           ⟨(some 12), none, .mv (.t 85)⟩])
         (.ops [
           ⟨(some 86), none, .mv (.t 12)⟩,
           ⟨(some 87), none, .mv (.t 12)⟩,
           ⟨(some 88), none, .nck (.t 87)⟩,
           ⟨(some 89), none, .load false 1 (.t 88)⟩,
           ⟨(some 90), none, .call 57 [(.t 89)]⟩,
           ⟨(some 91), none, .nck (.t 86)⟩,
           ⟨none, none, .store 1 (.t 91) (.t 90)⟩]))
         (.seq (.ops [
           ⟨(some 92), none, .tas (.t 17) 62 (.raw (.pointer none))⟩,
           ⟨(some 93), none, .ext (.t 92) 1⟩,
           ⟨(some 94), none, .ext (.t 92) 0⟩])
         (.cond (.t 93)
          (.seq (.ops [
            ⟨(some 13), none, .mv (.t 94)⟩])
          (.ops [
            ⟨(some 95), none, .mv (.t 13)⟩,
            ⟨(some 96), none, .mv (.t 13)⟩,
            ⟨(some 97), none, .nck (.t 96)⟩,
            ⟨(some 98), none, .load false 1 (.t 97)⟩,
            ⟨(some 99), none, .call 58 [(.t 98)]⟩,
            ⟨(some 100), none, .nck (.t 95)⟩,
            ⟨none, none, .store 1 (.t 100) (.t 99)⟩]))
          (.seq (.ops [
            ⟨(some 101), none, .tas (.t 17) 65 (.raw (.pointer none))⟩,
            ⟨(some 102), none, .ext (.t 101) 1⟩,
            ⟨(some 103), none, .ext (.t 101) 0⟩])
          (.cond (.t 102)
           (.seq (.ops [
             ⟨(some 14), none, .mv (.t 103)⟩])
           (.ops [
             ⟨(some 104), none, .mv (.t 14)⟩,
             ⟨(some 105), none, .mv (.t 14)⟩,
             ⟨(some 106), none, .nck (.t 105)⟩,
             ⟨(some 107), none, .load false 1 (.t 106)⟩,
             ⟨(some 108), none, .call 59 [(.t 107)]⟩,
             ⟨(some 109), none, .nck (.t 104)⟩,
             ⟨none, none, .store 1 (.t 109) (.t 108)⟩]))
           (.seq (.ops [
             ⟨(some 110), none, .tas (.t 17) 68 (.raw (.pointer none))⟩,
             ⟨(some 111), none, .ext (.t 110) 1⟩,
             ⟨(some 112), none, .ext (.t 110) 0⟩])
           (.cond (.t 111)
            (.seq (.ops [
              ⟨(some 15), none, .mv (.t 112)⟩])
            (.ops [
              ⟨(some 113), none, .mv (.t 15)⟩,
              ⟨(some 114), none, .mv (.t 15)⟩,
              ⟨(some 115), none, .nck (.t 114)⟩,
              ⟨(some 116), none, .load false 1 (.t 115)⟩,
              ⟨(some 117), none, .call 60 [(.t 116)]⟩,
              ⟨(some 118), none, .nck (.t 113)⟩,
              ⟨none, none, .store 1 (.t 118) (.t 117)⟩]))
            (.seq (.ops [
              ⟨(some 119), none, .tai (.t 17) [80] (.raw .nilIface)⟩,
              ⟨(some 120), none, .ext (.t 119) 1⟩,
              ⟨(some 121), none, .ext (.t 119) 0⟩])
            (.cond (.t 120)
             (.seq (.ops [
               ⟨(some 16), none, .mv (.t 121)⟩])
             (.ops [
               ⟨(some 122), none, .mv (.t 16)⟩,
               ⟨(some 123), none, .inv (.t 122) [(80, 106)] []⟩]))
             .skip))))))))))))))))))))))
  (.seq (.ops [
    ⟨(some 124), none, .load false 1 (.t 1)⟩,
    ⟨(some 2), none, .mv (.t 124)⟩])
  .ret)))
def f81 : DFn := ⟨d81, [.tmp 2], 125⟩
theorem h81 : decFn Try.prog 81 = some f81 := by kernel_rfl

def d82 : DCode :=
  (.seq (.ops [
    ⟨(some 1), none, .box (.t 0)⟩,
    ⟨(some 2), none, .alloc (.st [(.raw (.int .i64 (0))), (.af 64 (List.replicate 64 0))])⟩])
  (.seq (.seq (.ops [
    ⟨(some 17), none, .mki 55 (.t 1)⟩])
  (.block 0
   (.seq (.ops [
     ⟨(some 18), none, .tas (.t 17) 52 (.raw (.pointer none))⟩,
     ⟨(some 19), none, .ext (.t 18) 1⟩,
     ⟨(some 20), none, .ext (.t 18) 0⟩])
   (.cond (.t 19)
    (.seq (.ops [
      ⟨(some 3), none, .mv (.t 20)⟩])
    (.ops [
      ⟨(some 21), none, .mv (.t 3)⟩,
      ⟨(some 22), none, .mv (.t 3)⟩,
      ⟨(some 23), none, .nck (.t 22)⟩,
      ⟨(some 24), none, .load false 1 (.t 23)⟩,
      ⟨(some 25), none, .call 54 [(.t 24)]⟩,
      ⟨(some 26), none, .nck (.t 21)⟩,
      ⟨none, none, .store 1 (.t 26) (.t 25)⟩]))
    (.seq (.ops [
      ⟨(some 27), none, .tas (.t 17) 54 (.raw (.pointer none))⟩,
      ⟨(some 28), none, .ext (.t 27) 1⟩,
      ⟨(some 29), none, .ext (.t 27) 0⟩])
    (.cond (.t 28)
     (.seq (.ops [
       ⟨(some 4), none, .mv (.t 29)⟩])
     (.ops [
       ⟨(some 30), none, .mv (.t 4)⟩,
       ⟨(some 31), none, .mv (.t 4)⟩,
       ⟨(some 32), none, .nck (.t 31)⟩,
       ⟨(some 33), none, .load false 1 (.t 32)⟩,
       ⟨(some 34), none, .call 55 [(.t 33)]⟩,
       ⟨(some 35), none, .nck (.t 30)⟩,
       ⟨none, none, .store 1 (.t 35) (.t 34)⟩]))
     (.seq (.ops [
       ⟨(some 36), none, .tas (.t 17) 51 (.raw (.pointer none))⟩,
       ⟨(some 37), none, .ext (.t 36) 1⟩,
       ⟨(some 38), none, .ext (.t 36) 0⟩])
     (.cond (.t 37)
      (.seq (.ops [
        ⟨(some 5), none, .mv (.t 38)⟩])
      (.seq (.ops [
        ⟨(some 39), none, .mv (.t 5)⟩,
        ⟨(some 40), none, .nck (.t 39)⟩,
        ⟨(some 41), none, .fad (.t 40) 1 1⟩,
        ⟨(some 42), none, .load true 64 (.t 41)⟩,
        ⟨(some 43), none, .mv (.c (.raw (.int .i64 (0))))⟩])
      (.block 1
       (.loop
        (.seq (.ops [
          ⟨(some 44), none, .bin .lss false (.t 43) (.c (.raw (.int .i64 (64))))⟩])
        (.seq (.cond (.t 44)
         .skip
         (.exit 1))
        (.seq (.block 2
         (.seq (.ops [
           ⟨(some 45), none, .mv (.t 43)⟩,
           ⟨(some 46), none, .idx 64 (.t 42) (.t 43)⟩,
           ⟨(some 6), none, .mv (.t 45)⟩,
           ⟨(some 7), none, .mv (.t 46)⟩])
         (.drw [
           ⟨(some 47), none, .mv (.t 5)⟩,
           ⟨(some 48), none, .mv (.t 6)⟩,
           ⟨(some 49), none, .mv (.t 7)⟩,
           ⟨(some 50), none, .call 55 [(.t 49)]⟩,
           ⟨(some 51), none, .nck (.t 47)⟩,
           ⟨(some 52), none, .fad (.t 51) 1 1⟩,
           ⟨(some 53), none, .iad 64 1 (.t 52) (.t 48)⟩] [
           ⟨none, none, .store 1 (.t 53) (.t 50)⟩])))
        (.ops [
          ⟨(some 54), none, .bin .add false (.t 43) (.c (.raw (.int .i64 (1))))⟩,
          ⟨(some 43), none, .mv (.t 54)⟩]))))))))
      (.seq (.ops [
        ⟨(some 55), none, .tas (.t 17) 55 (.raw (.pointer none))⟩,
        ⟨(some 56), none, .ext (.t 55) 1⟩,
        ⟨(some 57), none, .ext (.t 55) 0⟩])
      (.cond (.t 56)
       (.seq (.ops [
         ⟨(some 8), none, .mv (.t 57)⟩])
       (.seq (.ops [
         ⟨(some 58), none, .mv (.t 8)⟩,
         ⟨(some 59), none, .nck (.t 58)⟩,
         ⟨(some 60), none, .fad (.t 59) 1 1⟩,
         ⟨(some 61), none, .load true 64 (.t 60)⟩,
         ⟨(some 62), none, .mv (.c (.raw (.int .i64 (0))))⟩])
       (.block 3
        (.loop
         (.seq (.ops [
           ⟨(some 63), none, .bin .lss false (.t 62) (.c (.raw (.int .i64 (64))))⟩])
         (.seq (.cond (.t 63)
          .skip
          (.exit 3))
         (.seq (.block 4
          (.seq (.ops [
            ⟨(some 64), none, .mv (.t 62)⟩,
            ⟨(some 65), none, .idx 64 (.t 61) (.t 62)⟩,
            ⟨(some 9), none, .mv (.t 64)⟩,
            ⟨(some 10), none, .mv (.t 65)⟩])
          (.drw [
            ⟨(some 66), none, .mv (.t 8)⟩,
            ⟨(some 67), none, .mv (.t 9)⟩,
            ⟨(some 68), none, .mv (.t 10)⟩,
            ⟨(some 69), none, .call 54 [(.t 68)]⟩,
            ⟨(some 70), none, .nck (.t 66)⟩,
            ⟨(some 71), none, .fad (.t 70) 1 1⟩,
            ⟨(some 72), none, .iad 64 1 (.t 71) (.t 67)⟩] [
            ⟨none, none, .store 1 (.t 72) (.t 69)⟩])))
         (.ops [
           ⟨(some 73), none, .bin .add false (.t 62) (.c (.raw (.int .i64 (1))))⟩,
           ⟨(some 62), none, .mv (.t 73)⟩]))))))))
       (.seq (.ops [
         ⟨(some 74), none, .tas (.t 17) 56 (.raw (.pointer none))⟩,
         ⟨(some 75), none, .ext (.t 74) 1⟩,
         ⟨(some 76), none, .ext (.t 74) 0⟩])
       (.cond (.t 75)
        (.seq (.ops [
          ⟨(some 11), none, .mv (.t 76)⟩])
        (.ops [
          ⟨(some 77), none, .mv (.t 11)⟩,
          ⟨(some 78), none, .mv (.t 11)⟩,
          ⟨(some 79), none, .nck (.t 78)⟩,
          ⟨(some 80), none, .load false 1 (.t 79)⟩,
          ⟨(some 81), none, .call 56 [(.t 80)]⟩,
          ⟨(some 82), none, .nck (.t 77)⟩,
          ⟨none, none, .store 1 (.t 82) (.t 81)⟩]))
        (.seq (.ops [
          ⟨(some 83), none, .tas (.t 17) 59 (.raw (.pointer none))⟩,
          ⟨(some 84), none, .ext (.t 83) 1⟩,
          ⟨(some 85), none, .ext (.t 83) 0⟩])
        (.cond (.t 84)
         (.seq (.ops [
           ⟨(some 12), none, .mv (.t 85)⟩])
         (.ops [
           ⟨(some 86), none, .mv (.t 12)⟩,
           ⟨(some 87), none, .mv (.t 12)⟩,
           ⟨(some 88), none, .nck (.t 87)⟩,
           ⟨(some 89), none, .load false 1 (.t 88)⟩,
           ⟨(some 90), none, .call 57 [(.t 89)]⟩,
           ⟨(some 91), none, .nck (.t 86)⟩,
           ⟨none, none, .store 1 (.t 91) (.t 90)⟩]))
         (.seq (.ops [
           ⟨(some 92), none, .tas (.t 17) 62 (.raw (.pointer none))⟩,
           ⟨(some 93), none, .ext (.t 92) 1⟩,
           ⟨(some 94), none, .ext (.t 92) 0⟩])
         (.cond (.t 93)
          (.seq (.ops [
            ⟨(some 13), none, .mv (.t 94)⟩])
          (.ops [
            ⟨(some 95), none, .mv (.t 13)⟩,
            ⟨(some 96), none, .mv (.t 13)⟩,
            ⟨(some 97), none, .nck (.t 96)⟩,
            ⟨(some 98), none, .load false 1 (.t 97)⟩,
            ⟨(some 99), none, .call 58 [(.t 98)]⟩,
            ⟨(some 100), none, .nck (.t 95)⟩,
            ⟨none, none, .store 1 (.t 100) (.t 99)⟩]))
          (.seq (.ops [
            ⟨(some 101), none, .tas (.t 17) 65 (.raw (.pointer none))⟩,
            ⟨(some 102), none, .ext (.t 101) 1⟩,
            ⟨(some 103), none, .ext (.t 101) 0⟩])
          (.cond (.t 102)
           (.seq (.ops [
             ⟨(some 14), none, .mv (.t 103)⟩])
           (.ops [
             ⟨(some 104), none, .mv (.t 14)⟩,
             ⟨(some 105), none, .mv (.t 14)⟩,
             ⟨(some 106), none, .nck (.t 105)⟩,
             ⟨(some 107), none, .load false 1 (.t 106)⟩,
             ⟨(some 108), none, .call 59 [(.t 107)]⟩,
             ⟨(some 109), none, .nck (.t 104)⟩,
             ⟨none, none, .store 1 (.t 109) (.t 108)⟩]))
           (.seq (.ops [
             ⟨(some 110), none, .tas (.t 17) 68 (.raw (.pointer none))⟩,
             ⟨(some 111), none, .ext (.t 110) 1⟩,
             ⟨(some 112), none, .ext (.t 110) 0⟩])
           (.cond (.t 111)
            (.seq (.ops [
              ⟨(some 15), none, .mv (.t 112)⟩])
            (.ops [
              ⟨(some 113), none, .mv (.t 15)⟩,
              ⟨(some 114), none, .mv (.t 15)⟩,
              ⟨(some 115), none, .nck (.t 114)⟩,
              ⟨(some 116), none, .load false 1 (.t 115)⟩,
              ⟨(some 117), none, .call 60 [(.t 116)]⟩,
              ⟨(some 118), none, .nck (.t 113)⟩,
              ⟨none, none, .store 1 (.t 118) (.t 117)⟩]))
            (.seq (.ops [
              ⟨(some 119), none, .tai (.t 17) [80] (.raw .nilIface)⟩,
              ⟨(some 120), none, .ext (.t 119) 1⟩,
              ⟨(some 121), none, .ext (.t 119) 0⟩])
            (.cond (.t 120)
             (.seq (.ops [
               ⟨(some 16), none, .mv (.t 121)⟩])
             (.ops [
               ⟨(some 122), none, .mv (.t 16)⟩,
               ⟨(some 123), none, .inv (.t 122) [(80, 106)] []⟩]))
             .skip))))))))))))))))))))))
  (.seq (.ops [
    ⟨(some 124), none, .load true 65 (.t 1)⟩,
    ⟨none, none, .store 65 (.t 2) (.t 124)⟩])
  .ret)))
def f82 : DFn := ⟨d82, [.cell 2 true 65], 125⟩
theorem h82 : decFn Try.prog 82 = some f82 := by kernel_rfl

def d83 : DCode :=
  (.seq (.ops [
    ⟨(some 1), none, .box (.t 0)⟩,
    ⟨(some 2), none, .mv (.c (nilS 1))⟩])
  (.seq (.seq (.ops [
    ⟨(some 17), none, .mki 59 (.t 1)⟩])
  (.block 0
   (.seq (.ops [
     ⟨(some 18), none, .tas (.t 17) 52 (.raw (.pointer none))⟩,
     ⟨(some 19), none, .ext (.t 18) 1⟩,
     ⟨(some 20), none, .ext (.t 18) 0⟩])
   (.cond (.t 19)
    (.seq (.ops [
      ⟨(some 3), none, .mv (.t 20)⟩])
    (.ops [
      ⟨(some 21), none, .mv (.t 3)⟩,
      ⟨(some 22), none, .mv (.t 3)⟩,
      ⟨(some 23), none, .nck (.t 22)⟩,
      ⟨(some 24), none, .load false 1 (.t 23)⟩,
      ⟨(some 25), none, .call 54 [(.t 24)]⟩,
      ⟨(some 26), none, .nck (.t 21)⟩,
      ⟨none, none, .store 1 (.t 26) (.t 25)⟩]))
    (.seq (.ops [
      ⟨(some 27), none, .tas (.t 17) 54 (.raw (.pointer none))⟩,
      ⟨(some 28), none, .ext (.t 27) 1⟩,
      ⟨(some 29), none, .ext (.t 27) 0⟩])
    (.cond (.t 28)
     (.seq (.ops [
       ⟨(some 4), none, .mv (.t 29)⟩])
     (.ops [
       ⟨(some 30), none, .mv (.t 4)⟩,
       ⟨(some 31), none, .mv (.t 4)⟩,
       ⟨(some 32), none, .nck (.t 31)⟩,
       ⟨(some 33), none, .load false 1 (.t 32)⟩,
       ⟨(some 34), none, .call 55 [(.t 33)]⟩,
       ⟨(some 35), none, .nck (.t 30)⟩,
       ⟨none, none, .store 1 (.t 35) (.t 34)⟩]))
     (.seq (.ops [
       ⟨(some 36), none, .tas (.t 17) 51 (.raw (.pointer none))⟩,
       ⟨(some 37), none, .ext (.t 36) 1⟩,
       ⟨(some 38), none, .ext (.t 36) 0⟩])
     (.cond (.t 37)
      (.seq (.ops [
        ⟨(some 5), none, .mv (.t 38)⟩])
      (.seq (.ops [
        ⟨(some 39), none, .mv (.t 5)⟩,
        ⟨(some 40), none, .nck (.t 39)⟩,
        ⟨(some 41), none, .fad (.t 40) 1 1⟩,
        ⟨(some 42), none, .load true 64 (.t 41)⟩,
        ⟨(some 43), none, .mv (.c (.raw (.int .i64 (0))))⟩])
      (.block 1
       (.loop
        (.seq (.ops [
          ⟨(some 44), none, .bin .lss false (.t 43) (.c (.raw (.int .i64 (64))))⟩])
        (.seq (.cond (.t 44)
         .skip
         (.exit 1))
        (.seq (.block 2
         (.seq (.ops [
           ⟨(some 45), none, .mv (.t 43)⟩,
           ⟨(some 46), none, .idx 64 (.t 42) (.t 43)⟩,
           ⟨(some 6), none, .mv (.t 45)⟩,
           ⟨(some 7), none, .mv (.t 46)⟩])
         (.drw [
           ⟨(some 47), none, .mv (.t 5)⟩,
           ⟨(some 48), none, .mv (.t 6)⟩,
           ⟨(some 49), none, .mv (.t 7)⟩,
           ⟨(some 50), none, .call 55 [(.t 49)]⟩,
           ⟨(some 51), none, .nck (.t 47)⟩,
           ⟨(some 52), none, .fad (.t 51) 1 1⟩,
           ⟨(some 53), none, .iad 64 1 (.t 52) (.t 48)⟩] [
           ⟨none, none, .store 1 (.t 53) (.t 50)⟩])))
        (.ops [
          ⟨(some 54), none, .bin .add false (.t 43) (.c (.raw (.int .i64 (1))))⟩,
          ⟨(some 43), none, .mv (.t 54)⟩]))))))))
      (.seq (.ops [
        ⟨(some 55), none, .tas (.t 17) 55 (.raw (.pointer none))⟩,
        ⟨(some 56), none, .ext (.t 55) 1⟩,
        ⟨(some 57), none, .ext (.t 55) 0⟩])
      (.cond (.t 56)
       (.seq (.ops [
         ⟨(some 8), none, .mv (.t 57)⟩])
       (.seq (.ops [
         ⟨(some 58), none, .mv (.t 8)⟩,
         ⟨(some 59), none, .nck (.t 58)⟩,
         ⟨(some 60), none, .fad (.t 59) 1 1⟩,
         ⟨(some 61), none, .load true 64 (.t 60)⟩,
         ⟨(some 62), none, .mv (.c (.raw (.int .i64 (0))))⟩])
       (.block 3
        (.loop
         (.seq (.ops [
           ⟨(some 63), none, .bin .lss false (.t 62) (.c (.raw (.int .i64 (64))))⟩])
         (.seq (.cond (.t 63)
          .skip
          (.exit 3))
         (.seq (.block 4
          (.seq (.ops [
            ⟨(some 64), none, .mv (.t 62)⟩,
            ⟨(some 65), none, .idx 64 (.t 61) (.t 62)⟩,
            ⟨(some 9), none, .mv (.t 64)⟩,
            ⟨(some 10), none, .mv (.t 65)⟩])
          (.drw [
            ⟨(some 66), none, .mv (.t 8)⟩,
            ⟨(some 67), none, .mv (.t 9)⟩,
            ⟨(some 68), none, .mv (.t 10)⟩,
            ⟨(some 69), none, .call 54 [(.t 68)]⟩,
            ⟨(some 70), none, .nck (.t 66)⟩,
            ⟨(some 71), none, .fad (.t 70) 1 1⟩,
            ⟨(some 72), none, .iad 64 1 (.t 71) (.t 67)⟩] [
            ⟨none, none, .store 1 (.t 72) (.t 69)⟩])))
         (.ops [
           ⟨(some 73), none, .bin .add false (.t 62) (.c (.raw (.int .i64 (1))))⟩,
           ⟨(some 62), none, .mv (.t 73)⟩]))))))))
       (.seq (.ops [
         ⟨(some 74), none, .tas (.t 17) 56 (.raw (.pointer none))⟩,
         ⟨(some 75), none, .ext (.t 74) 1⟩,
         ⟨(some 76), none, .ext (.t 74) 0⟩])
       (.cond (.t 75)
        (.seq (.ops [
          ⟨(some 11), none, .mv (.t 76)⟩])
        (.ops [
          ⟨(some 77), none, .mv (.t 11)⟩,
          ⟨(some 78), none, .mv (.t 11)⟩,
          ⟨(some 79), none, .nck (.t 78)⟩,
          ⟨(some 80), none, .load false 1 (.t 79)⟩,
          ⟨(some 81), none, .call 56 [(.t 80)]⟩,
          ⟨(some 82), none, .nck (.t 77)⟩,
          ⟨none, none, .store 1 (.t 82) (.t 81)⟩]))
        (.seq (.ops [
          ⟨(some 83), none, .tas (.t 17) 59 (.raw (.pointer none))⟩,
          ⟨(some 84), none, .ext (.t 83) 1⟩,
          ⟨(some 85), none, .ext (.t 83) 0⟩])
        (.cond (.t 84)
         (.seq (.ops [
           ⟨(some 12), none, .mv (.t 85)⟩])
         (.ops [
           ⟨(some 86), none, .mv (.t 12)⟩,
           ⟨(some 87), none, .mv (.t 12)⟩,
           ⟨(some 88), none, .nck (.t 87)⟩,
           ⟨(some 89), none, .load false 1 (.t 88)⟩,
           ⟨(some 90), none, .call 57 [(.t 89)]⟩,
           ⟨(some 91), none, .nck (.t 86)⟩,
           ⟨none, none, .store 1 (.t 91) (.t 90)⟩]))
         (.seq (.ops [
           ⟨(some 92), none, .tas (.t 17) 62 (.raw (.pointer none))⟩,
           ⟨(some 93), none, .ext (.t 92) 1⟩,
           ⟨(some 94), none, .ext (.t 92) 0⟩])
         (.cond (.t 93)
          (.seq (.ops [
            ⟨(some 13), none, .mv (.t 94)⟩])
          (.ops [
            ⟨(some 95), none, .mv (.t 13)⟩,
            ⟨(some 96), none, .mv (.t 13)⟩,
            ⟨(some 97), none, .nck (.t 96)⟩,
            ⟨(some 98), none, .load false 1 (.t 97)⟩,
            ⟨(some 99), none, .call 58 [(.t 98)]⟩,
            ⟨(some 100), none, .nck (.t 95)⟩,
            ⟨none, none, .store 1 (.t 100) (.t 99)⟩]))
          (.seq (.ops [
            ⟨(some 101), none, .tas (.t 17) 65 (.raw (.pointer none))⟩,
            ⟨(some 102), none, .ext (.t 101) 1⟩,
            ⟨(some 103), none, .ext (.t 101) 0⟩])
          (.cond (.t 102)
           (.seq (.ops [
             ⟨(some 14), none, .mv (.t 103)⟩])
           (.ops [
             ⟨(some 104), none, .mv (.t 14)⟩,
             ⟨(some 105), none, .mv (.t 14)⟩,
             ⟨(some 106), none, .nck (.t 105)⟩,
             ⟨(some 107), none, .load false 1 (.t 106)⟩,
             ⟨(some 108), none, .call 59 [(.t 107)]⟩,
             ⟨(some 109), none, .nck (.t 104)⟩,
             ⟨none, none, .store 1 (.t 109) (.t 108)⟩]))
           (.seq (.ops [
             ⟨(some 110), none, .tas (.t 17) 68 (.raw (.pointer none))⟩,
             ⟨(some 111), none, .ext (.t 110) 1⟩,
             ⟨(some 112), none, .ext (.t 110) 0⟩])
           (.cond (.t 111)
            (.seq (.ops [
              ⟨(some 15), none, .mv (.t 112)⟩])
            (.ops [
              ⟨(some 113), none, .mv (.t 15)⟩,
              ⟨(some 114), none, .mv (.t 15)⟩,
              ⟨(some 115), none, .nck (.t 114)⟩,
              ⟨(some 116), none, .load false 1 (.t 115)⟩,
              ⟨(some 117), none, .call 60 [(.t 116)]⟩,
              ⟨(some 118), none, .nck (.t 113)⟩,
              ⟨none, none, .store 1 (.t 118) (.t 117)⟩]))
            (.seq (.ops [
              ⟨(some 119), none, .tai (.t 17) [80] (.raw .nilIface)⟩,
              ⟨(some 120), none, .ext (.t 119) 1⟩,
              ⟨(some 121), none, .ext (.t 119) 0⟩])
            (.cond (.t 120)
             (.seq (.ops [
               ⟨(some 16), none, .mv (.t 121)⟩])
             (.ops [
               ⟨(some 122), none, .mv (.t 16)⟩,
               ⟨(some 123), none, .inv (.t 122) [(80, 106)] []⟩]))
             .skip))))))))))))))))))))))
  (.seq (.ops [
    ⟨(some 124), none, .load false 1 (.t 1)⟩,
    ⟨(some 2), none, .mv (.t 124)⟩])
  .ret)))
def f83 : DFn := ⟨d83, [.tmp 2], 125⟩
theorem h83 : decFn Try.prog 83 = some f83 := by kernel_rfl

def d84 : DCode :=
  (.seq (.ops [
    ⟨(some 4), none, .mv (.c (.raw (.bool false)))⟩])
  (.seq (.seq (.ops [
    ⟨(some 5), none, .mv (.t 0)⟩,
    ⟨(some 6), none, .mv (.t 0)⟩,
    ⟨(some 7), none, .bin .neq false (.t 5) (.t 6)⟩,
    ⟨(some 8), none, .mv (.t 7)⟩,
    ⟨(some 9), (some (8, false)), .mv (.t 1)⟩,
    ⟨(some 10), (some (8, false)), .mv (.t 1)⟩,
    ⟨(some 11), (some (8, false)), .bin .neq false (.t 9) (.t 10)⟩,
    ⟨(some 12), none, .pick (.t 8) (.c (.raw (.bool true))) (.t 11)⟩])
  (.cond (.t 12)
   (.seq (.ops [
     ⟨(some 13), none, .mv (.t 0)⟩,
     ⟨(some 14), none, .mv (.t 0)⟩,
     ⟨(some 15), none, .bin .neq false (.t 13) (.t 14)⟩,
     ⟨(some 16), none, .mv (.t 15)⟩,
     ⟨(some 17), (some (16, true)), .mv (.t 1)⟩,
     ⟨(some 18), (some (16, true)), .mv (.t 1)⟩,
     ⟨(some 19), (some (16, true)), .bin .neq false (.t 17) (.t 18)⟩,
     ⟨(some 20), none, .pick (.t 16) (.t 19) (.c (.raw (.bool false)))⟩,
     ⟨(some 4), none, .mv (.t 20)⟩])
   .ret)
   .skip))
  (.seq (.seq (.ops [
    ⟨(some 21), none, .mv (.t 0)⟩,
    ⟨(some 22), none, .bin .eql false (.t 21) (.c (.flt .f64 0))⟩,
    ⟨(some 23), none, .mv (.t 22)⟩,
    ⟨(some 24), (some (23, true)), .mv (.t 1)⟩,
    ⟨(some 25), (some (23, true)), .bin .eql false (.t 24) (.c (.flt .f64 0))⟩,
    ⟨(some 26), none, .pick (.t 23) (.t 25) (.c (.raw (.bool false)))⟩])
  (.cond (.t 26)
   (.seq (.ops [
     ⟨(some 27), none, .mv (.t 0)⟩,
     ⟨(some 28), none, .bin .quo false (.c (.flt .f64 4607182418800017408)) (.t 27)⟩,
     ⟨(some 29), none, .bin .gtr false (.t 28) (.c (.flt .f64 0))⟩,
     ⟨(some 30), none, .mv (.t 1)⟩,
     ⟨(some 31), none, .bin .quo false (.c (.flt .f64 4607182418800017408)) (.t 30)⟩,
     ⟨(some 32), none, .bin .gtr false (.t 31) (.c (.flt .f64 0))⟩,
     ⟨(some 33), none, .bin .eql true (.t 29) (.t 32)⟩,
     ⟨(some 4), none, .mv (.t 33)⟩])
   .ret)
   .skip))
  (.seq (.ops [
    ⟨(some 34), none, .mv (.t 0)⟩,
    ⟨(some 35), none, .mv (.t 1)⟩,
    ⟨(some 36), none, .bin .eql false (.t 34) (.t 35)⟩,
    ⟨(some 4), none, .mv (.t 36)⟩])
  .ret))))
def f84 : DFn := ⟨d84, [.tmp 4], 37⟩
theorem h84 : decFn Try.prog 84 = some f84 := by kernel_rfl

def d85 : DCode :=
  (.seq (.ops [
    ⟨(some 2), none, .mv (.c (.raw (.int .i64 (0))))⟩])
  (.seq (.ops [
    ⟨(some 3), none, .mv (.t 0)⟩,
    ⟨(some 4), none, .bin .shr false (.t 3) (.c (.raw (.int .u64 (1))))⟩,
    ⟨(some 5), none, .bin .and false (.t 4) (.c (.raw (.int .u64 (6148914691236517205))))⟩,
    ⟨(some 6), none, .mv (.t 0)⟩,
    ⟨(some 7), none, .bin .and false (.t 6) (.c (.raw (.int .u64 (6148914691236517205))))⟩,
    ⟨(some 8), none, .bin .add false (.t 5) (.t 7)⟩,
    ⟨(some 0), none, .mv (.t 8)⟩])
  (.seq (.ops [
    ⟨(some 9), none, .mv (.t 0)⟩,
    ⟨(some 10), none, .bin .shr false (.t 9) (.c (.raw (.int .u64 (2))))⟩,
    ⟨(some 11), none, .bin .and false (.t 10) (.c (.raw (.int .u64 (3689348814741910323))))⟩,
    ⟨(some 12), none, .mv (.t 0)⟩,
    ⟨(some 13), none, .bin .and false (.t 12) (.c (.raw (.int .u64 (3689348814741910323))))⟩,
    ⟨(some 14), none, .bin .add false (.t 11) (.t 13)⟩,
    ⟨(some 0), none, .mv (.t 14)⟩])
  (.seq (.ops [
    ⟨(some 15), none, .mv (.t 0)⟩,
    ⟨(some 16), none, .bin .shr false (.t 15) (.c (.raw (.int .u64 (4))))⟩,
    ⟨(some 17), none, .mv (.t 0)⟩,
    ⟨(some 18), none, .bin .add false (.t 16) (.t 17)⟩,
    ⟨(some 19), none, .bin .and false (.t 18) (.c (.raw (.int .u64 (1085102592571150095))))⟩,
    ⟨(some 0), none, .mv (.t 19)⟩])
  (.seq (.ops [
    ⟨(some 20), none, .mv (.t 0)⟩,
    ⟨(some 21), none, .mv (.t 0)⟩,
    ⟨(some 22), none, .bin .shr false (.t 21) (.c (.raw (.int .u64 (8))))⟩,
    ⟨(some 23), none, .bin .add false (.t 20) (.t 22)⟩,
    ⟨(some 0), none, .mv (.t 23)⟩])
  (.seq (.ops [
    ⟨(some 24), none, .mv (.t 0)⟩,
    ⟨(some 25), none, .mv (.t 0)⟩,
    ⟨(some 26), none, .bin .shr false (.t 25) (.c (.raw (.int .u64 (16))))⟩,
    ⟨(some 27), none, .bin .add false (.t 24) (.t 26)⟩,
    ⟨(some 0), none, .mv (.t 27)⟩])
  (.seq (.ops [
    ⟨(some 28), none, .mv (.t 0)⟩,
    ⟨(some 29), none, .mv (.t 0)⟩,
    ⟨(some 30), none, .bin .shr false (.t 29) (.c (.raw (.int .u64 (32))))⟩,
    ⟨(some 31), none, .bin .add false (.t 28) (.t 30)⟩,
    ⟨(some 0), none, .mv (.t 31)⟩])
  (.seq (.ops [
    ⟨(some 32), none, .mv (.t 0)⟩,
    ⟨(some 33), none, .cvI .i64 (.t 32)⟩,
    ⟨(some 34), none, .bin .and false (.t 33) (.c (.raw (.int .i64 (127))))⟩,
    ⟨(some 2), none, .mv (.t 34)⟩])
  .ret))))))))
def f85 : DFn := ⟨d85, [.tmp 2], 35⟩
theorem h85 : decFn Try.prog 85 = some f85 := by kernel_rfl

def d86 : DCode :=
  (.seq (.ops [
    ⟨(some 3), none, .box (.t 1)⟩,
    ⟨(some 4), none, .alloc (.st [(.raw (.int .i64 (0))), (.ac 64 (List.replicate 64 (0, 0)))])⟩,
    ⟨(some 5), none, .mv (.c (.raw (.int .i64 (0))))⟩])
  (.seq (.block 0
   (.seq (.ops [
     ⟨(some 7), none, .load false 1 (.t 3)⟩,
     ⟨(some 8), none, .call 87 [(.t 7)]⟩,
     ⟨(some 9), none, .un .not (.t 8)⟩,
     ⟨(some 6), none, .mv (.t 9)⟩])
   (.cond (.t 6)
    (.seq (.ops [
      ⟨(some 10), none, .build [(.raw (.int .i64 (0))), (.ac 64 (List.replicate 64 (0, 0)))] []⟩,
      ⟨none, none, .store 65 (.t 4) (.t 10)⟩,
      ⟨(some 5), none, .mv (.c (.raw (.int .i64 (1))))⟩])
    .ret)
    (.seq (.ops [
      ⟨(some 12), none, .mv (.t 0)⟩,
      ⟨(some 13), none, .call 50 [(.t 12)]⟩,
      ⟨(some 14), none, .un .not (.t 13)⟩,
      ⟨(some 11), none, .mv (.t 14)⟩])
    (.cond (.t 11)
     (.seq (.ops [
       ⟨(some 15), none, .build [(.raw (.int .i64 (0))), (.ac 64 (List.replicate 64 (0, 0)))] []⟩,
       ⟨none, none, .store 65 (.t 4) (.t 15)⟩,
       ⟨(some 5), none, .mv (.c (.raw (.int .i64 (2))))⟩])
     .ret)
     .skip)))))
  (.seq (.ops [
    ⟨(some 16), none, .mv (.t 0)⟩,
    ⟨(some 17), none, .mkf 88 [(.t 3)]⟩,
    ⟨(some 18), none, .call 71 [(.t 16), (.t 17)]⟩,
    ⟨none, none, .store 65 (.t 4) (.t 18)⟩,
    ⟨(some 5), none, .mv (.c (.raw (.int .i64 (0))))⟩])
  .ret)))
def f86 : DFn := ⟨d86, [.cell 4 true 65, .tmp 5], 19⟩
theorem h86 : decFn Try.prog 86 = some f86 := by kernel_rfl

def d87 : DCode :=
  (.seq (.ops [
    ⟨(some 2), none, .mv (.c (.raw (.bool false)))⟩])
  (.seq (.ops [
    ⟨(some 3), none, .mv (.t 0)⟩,
    ⟨(some 4), none, .re (.t 3)⟩,
    ⟨(some 5), none, .call 89 [(.t 4)]⟩,
    ⟨(some 6), none, .mv (.t 5)⟩,
    ⟨(some 7), (some (6, true)), .mv (.t 0)⟩,
    ⟨(some 8), (some (6, true)), .im (.t 7)⟩,
    ⟨(some 9), (some (6, true)), .call 89 [(.t 8)]⟩,
    ⟨(some 10), none, .pick (.t 6) (.t 9) (.c (.raw (.bool false)))⟩,
    ⟨(some 2), none, .mv (.t 10)⟩])
  .ret))
def f87 : DFn := ⟨d87, [.tmp 2], 11⟩
theorem h87 : decFn Try.prog 87 = some f87 := by kernel_rfl

def d88 : DCode :=
  (.seq (.ops [
    ⟨(some 7), none, .mv (.c (.cpx .f32 0 0))⟩])
  (.seq (.ops [
    ⟨(some 8), none, .load false 1 (.t 3)⟩,
    ⟨(some 7), none, .mv (.t 8)⟩])
  .ret))
def f88 : DFn := ⟨d88, [.tmp 7], 9⟩
theorem h88 : decFn Try.prog 88 = some f88 := by kernel_rfl

def d89 : DCode :=
  (.seq (.ops [
    ⟨(some 2), none, .mv (.c (.raw (.bool false)))⟩])
  (.seq (.ops [
    ⟨(some 3), none, .mv (.t 0)⟩,
    ⟨(some 4), none, .mv (.t 0)⟩,
    ⟨(some 5), none, .bin .sub false (.t 3) (.t 4)⟩,
    ⟨(some 6), none, .bin .eql false (.t 5) (.c (.flt .f32 0))⟩,
    ⟨(some 2), none, .mv (.t 6)⟩])
  .ret))
def f89 : DFn := ⟨d89, [.tmp 2], 7⟩
theorem h89 : decFn Try.prog 89 = some f89 := by kernel_rfl

def d106 : DCode :=
  (.seg [([
    ⟨(some 2), none, .mv (.t 0)⟩,
    ⟨(some 3), none, .mv (.t 0)⟩,
    ⟨(some 4), none, .mv (.t 0)⟩,
    ⟨(some 5), none, .mv (.t 0)⟩,
    ⟨(some 6), none, .nck (.t 5)⟩,
    ⟨(some 7), none, .fad (.t 6) 0 0⟩,
    ⟨(some 8), none, .load true 65 (.t 7)⟩,
    ⟨(some 9), none, .call 29 [(.t 8)]⟩,
    ⟨(some 10), none, .mv (.t 0)⟩,
    ⟨(some 11), none, .nck (.t 10)⟩,
    ⟨(some 12), none, .fad (.t 11) 1 65⟩,
    ⟨(some 13), none, .load true 65 (.t 12)⟩,
    ⟨(some 14), none, .call 29 [(.t 13)]⟩,
    ⟨(some 15), none, .mv (.t 0)⟩,
    ⟨(some 16), none, .nck (.t 15)⟩,
    ⟨(some 17), none, .fad (.t 16) 2 130⟩,
    ⟨(some 18), none, .load true 65 (.t 17)⟩,
    ⟨(some 19), none, .call 82 [(.t 18)]⟩,
    ⟨(some 20), none, .nck (.t 2)⟩,
    ⟨(some 21), none, .fad (.t 20) 0 0⟩], .store 65 (.t 21) (.t 9)),
  ([
    ⟨(some 22), none, .nck (.t 3)⟩,
    ⟨(some 23), none, .fad (.t 22) 1 65⟩], .store 65 (.t 23) (.t 14)),
  ([
    ⟨(some 24), none, .nck (.t 4)⟩,
    ⟨(some 25), none, .fad (.t 24) 2 130⟩], .store 65 (.t 25) (.t 19))] [
    ])
def f106 : DFn := ⟨d106, [], 26⟩
theorem h106 : decFn Try.prog 106 = some f106 := by kernel_rfl
end Go.Proofs.Ytbjpnhmempokoaa
