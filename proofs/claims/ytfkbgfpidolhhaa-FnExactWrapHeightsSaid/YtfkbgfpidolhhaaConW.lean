/- Contracts of the wrapped heights. -/
import Derived.Test.YtfkbgfpidolhhaaConM
namespace Go.Proofs.Ytfkbgfpidolhhaa
open Go Go.Fw
section
variable {w0 : World} {m : MS} {K : AV → MS → Prop}
def wrapOf (x : Int) : Int := arI .rem .i64 (arI .add .i64 (arI .rem .i64 x 64) 64) 64
def wraps (xs : List Int) : List Int := xs.map wrapOf
theorem take_succ_map {xs : List Int} {k : Nat} (h : k < xs.length) : wraps (xs.take k) ++ [wrapOf (xs.getD k 0)] = wraps (xs.take (k + 1)) := by
  unfold wraps
  rw [List.take_add_one, List.map_append]
  simp [h]
theorem c26_bad {N : Int} {i n c r : Nat} {o : Bool} {xs : List Int} (hi : getE m i = some ⟨o, .ai n xs, r⟩) (hx : xs.length = n) (hn : n ≤ 1048576) (hno : isMap N xs = false)
    (hK : K (.tup [nilS 1, AV.int 1]) m) : CallLeaf Try.prog w0 26 [AV.int N, .sl i [] 1 0 n c] m K := by
  refine fn_go hmix h26 ?_
  conv => whnf
  repeat (first | (refine br.yes ?_; conv => whnf) | (refine br.no ?_; conv => whnf))
  refine c49 hi hx (by omega) ?_
  conv => whnf
  repeat (first | (refine br.yes ?_; conv => whnf) | (refine br.no ?_; conv => whnf))
  refine br_true (by rw [notB_eq, hno]; rfl) ?_
  conv => whnf
  repeat (first | (refine br.yes ?_; conv => whnf) | (refine br.no ?_; conv => whnf))
  exact hK
theorem c27_bad {N : Int} {i n c r : Nat} {o : Bool} {xs : List Int} (hi : getE m i = some ⟨o, .ai n xs, r⟩) (hx : xs.length = n) (hn : n ≤ 1048576) (hno : isMap N xs = false)
    (hK : K (.tup [nilS 1, AV.int 1]) m) : CallLeaf Try.prog w0 27 [AV.int N, .sl i [] 1 0 n c] m K := by
  refine fn_go hmix h27 ?_
  conv => whnf
  repeat (first | (refine br.yes ?_; conv => whnf) | (refine br.no ?_; conv => whnf))
  refine c19 hi hx (by omega) ?_
  conv => whnf
  repeat (first | (refine br.yes ?_; conv => whnf) | (refine br.no ?_; conv => whnf))
  refine br_true (by rw [notB_eq, hno]; rfl) ?_
  conv => whnf
  repeat (first | (refine br.yes ?_; conv => whnf) | (refine br.no ?_; conv => whnf))
  exact hK
set_option maxRecDepth 20000 in
theorem c26_2 {n0 r0 : Nat} {o0 : Bool} {x0 : List Int} {n1 r1 : Nat} {o1 : Bool} {x1 : List Int} {N : Int} {c : Nat} (hx : x1.length = n1) (hn : n1 ≤ 1048576) (hok : isMap N x1 = true)
    (hK : ∀ cap : Nat, K (.tup [.sl 2 [] 1 0 (wraps x1).length cap, AV.int 0]) [⟨o0, .ai n0 x0, r0⟩, ⟨o1, .ai n1 x1, r1⟩, ⟨true, .ai (wraps x1).length (wraps x1), cap * 1⟩]) : CallLeaf Try.prog w0 26 [AV.int N, .sl 1 [] 1 0 n1 c] [⟨o0, .ai n0 x0, r0⟩, ⟨o1, .ai n1 x1, r1⟩] K := by
  refine fn_go hmix h26 ?_
  conv => whnf
  repeat (first | (refine br.yes ?_; conv => whnf) | (refine br.no ?_; conv => whnf))
  refine c49 (i := 1) rfl hx (by omega) ?_
  conv => whnf
  repeat (first | (refine br.yes ?_; conv => whnf) | (refine br.no ?_; conv => whnf))
  refine br_false (by rw [notB_eq, hok]; rfl) ?_
  conv => whnf
  repeat (first | (refine br.yes ?_; conv => whnf) | (refine br.no ?_; conv => whnf))
  refine loop_inv n1 (fun j ts m => ∃ cap, m = [⟨o0, .ai n0 x0, r0⟩, ⟨o1, .ai n1 x1, r1⟩, ⟨true, .ai (wraps (x1.take j)).length (wraps (x1.take j)), cap * 1⟩] ∧ ts = [AV.int N, .sl 1 [] 1 0 n1 c, .junk, .junk, nilS 1, AV.int 0, .sl 2 [] 1 0 (wraps (x1.take j)).length cap, AV.int j, .junk, .junk, .junk, .junk, .junk, .junk, .junk, .junk, .junk, .junk, .junk, .junk, .junk, .junk, .junk, .junk, .junk, .junk, .junk, .junk]) _ _ ?hw (.inl rfl) ⟨0, rfl, rfl⟩ ?_
  case hw =>
    repeat (first | exact weak_nil | refine weak_same ?_ | refine weak_junk ?_)
  rintro j hj ts m ⟨cap, rfl, rfl⟩ R hR
  conv => whnf
  repeat (first | (refine br.yes ?_; conv => whnf) | (refine br.no ?_; conv => whnf))
  refine br_intro (fun h1 => ?_) (fun h1 => ?_)
  · have hj1 := lt_of_lss h1
    conv => whnf
    repeat (first | (refine br.yes ?_; conv => whnf) | (refine br.no ?_; conv => whnf))
    refine ⟨side_in ⟨by omega, by omega⟩, ?_⟩
    conv => whnf
    repeat (first | (refine br.yes ?_; conv => whnf) | (refine br.no ?_; conv => whnf))
    refine ⟨side_in (at_lt hj1), ?_⟩
    rw [nth_at]
    conv => whnf
    repeat (first | (refine br.yes ?_; conv => whnf) | (refine br.no ?_; conv => whnf))
    refine c53 ?_
    conv => whnf
    repeat (first | (refine br.yes ?_; conv => whnf) | (refine br.no ?_; conv => whnf))
    have hl : (wraps (x1.take j)).length = j := by unfold wraps; simp; omega
    refine ⟨side_in ⟨by decide, rfl, rfl, by omega, rfl⟩, fun cap' => ?_⟩
    conv => whnf
    repeat (first | (refine br.yes ?_; conv => whnf) | (refine br.no ?_; conv => whnf))
    have e1 : addN (wraps (x1.take j)).length 1 = (wraps (x1.take (j + 1))).length := by rw [← take_succ_map (by omega), addN_eq]; simp
    rw [add_one (by omega), e1]
    have e2 := take_succ_map (xs := x1) (k := j) (by omega)
    refine hR hj1 _ _ _ [⟨o0, .ai n0 x0, r0⟩, ⟨o1, .ai n1 x1, r1⟩, ⟨true, .ai (wraps (x1.take (j + 1))).length (wraps (x1.take j) ++ [wrapOf (x1.getD j 0)]), cap' * 1⟩] ?hw2 ?tr ⟨cap', by rw [e2], rfl⟩
    case hw2 =>
      repeat (first | exact weak_nil | refine weak_same ?_ | refine weak_junk ?_)
    case tr =>
      exact .inr ⟨3, by simp, rfl, rfl, rfl⟩
  · have hj2 := ge_of_lss h1
    conv => whnf
    repeat (first | (refine br.yes ?_; conv => whnf) | (refine br.no ?_; conv => whnf))
    have e3 : x1.take j = x1 := List.take_of_length_le (by omega)
    rw [e3]
    exact hK cap
set_option maxRecDepth 20000 in
theorem c27_4 {n0 r0 : Nat} {o0 : Bool} {x0 : List Int} {n1 r1 : Nat} {o1 : Bool} {x1 : List Int} {n2 r2 : Nat} {o2 : Bool} {x2 : List Int} {n3 r3 : Nat} {o3 : Bool} {x3 : List Int} {N : Int} {c : Nat} (hx : x3.length = n3) (hn : n3 ≤ 1048576) (hok : isMap N x3 = true)
    (hK : ∀ cap : Nat, K (.tup [.sl 4 [] 1 0 (wraps x3).length cap, AV.int 0]) [⟨o0, .ai n0 x0, r0⟩, ⟨o1, .ai n1 x1, r1⟩, ⟨o2, .ai n2 x2, r2⟩, ⟨o3, .ai n3 x3, r3⟩, ⟨true, .ai (wraps x3).length (wraps x3), cap * 1⟩]) : CallLeaf Try.prog w0 27 [AV.int N, .sl 3 [] 1 0 n3 c] [⟨o0, .ai n0 x0, r0⟩, ⟨o1, .ai n1 x1, r1⟩, ⟨o2, .ai n2 x2, r2⟩, ⟨o3, .ai n3 x3, r3⟩] K := by
  refine fn_go hmix h27 ?_
  conv => whnf
  repeat (first | (refine br.yes ?_; conv => whnf) | (refine br.no ?_; conv => whnf))
  refine c19 (i := 3) rfl hx (by omega) ?_
  conv => whnf
  repeat (first | (refine br.yes ?_; conv => whnf) | (refine br.no ?_; conv => whnf))
  refine br_false (by rw [notB_eq, hok]; rfl) ?_
  conv => whnf
  repeat (first | (refine br.yes ?_; conv => whnf) | (refine br.no ?_; conv => whnf))
  refine loop_inv n3 (fun j ts m => ∃ cap, m = [⟨o0, .ai n0 x0, r0⟩, ⟨o1, .ai n1 x1, r1⟩, ⟨o2, .ai n2 x2, r2⟩, ⟨o3, .ai n3 x3, r3⟩, ⟨true, .ai (wraps (x3.take j)).length (wraps (x3.take j)), cap * 1⟩] ∧ ts = [AV.int N, .sl 3 [] 1 0 n3 c, .junk, .junk, nilS 1, AV.int 0, .sl 4 [] 1 0 (wraps (x3.take j)).length cap, .junk, .junk, .junk, .junk, .junk, .junk, .junk, .sl 3 [] 1 0 n3 c, AV.int n3, AV.int j, .junk, .junk, .junk, .junk, .junk, .junk, .junk, .junk, .junk, .junk]) _ _ ?hw (.inl rfl) ⟨0, rfl, rfl⟩ ?_
  case hw =>
    repeat (first | exact weak_nil | refine weak_same ?_ | refine weak_junk ?_)
  rintro j hj ts m ⟨cap, rfl, rfl⟩ R hR
  conv => whnf
  repeat (first | (refine br.yes ?_; conv => whnf) | (refine br.no ?_; conv => whnf))
  refine br_intro (fun h1 => ?_) (fun h1 => ?_)
  · have hj1 := lt_of_lss h1
    conv => whnf
    repeat (first | (refine br.yes ?_; conv => whnf) | (refine br.no ?_; conv => whnf))
    refine ⟨side_in ⟨by omega, by omega⟩, ?_⟩
    conv => whnf
    repeat (first | (refine br.yes ?_; conv => whnf) | (refine br.no ?_; conv => whnf))
    refine ⟨side_in (at_lt hj1), ?_⟩
    rw [nth_at]
    conv => whnf
    repeat (first | (refine br.yes ?_; conv => whnf) | (refine br.no ?_; conv => whnf))
    refine c54 (by decide) ?_
    conv => whnf
    repeat (first | (refine br.yes ?_; conv => whnf) | (refine br.no ?_; conv => whnf))
    have hl : (wraps (x3.take j)).length = j := by unfold wraps; simp; omega
    refine ⟨side_in ⟨by decide, rfl, rfl, by omega, rfl⟩, fun cap' => ?_⟩
    conv => whnf
    repeat (first | (refine br.yes ?_; conv => whnf) | (refine br.no ?_; conv => whnf))
    have e1 : addN (wraps (x3.take j)).length 1 = (wraps (x3.take (j + 1))).length := by rw [← take_succ_map (by omega), addN_eq]; simp
    rw [add_one (by omega), e1]
    have e2 := take_succ_map (xs := x3) (k := j) (by omega)
    refine hR hj1 _ _ _ [⟨o0, .ai n0 x0, r0⟩, ⟨o1, .ai n1 x1, r1⟩, ⟨o2, .ai n2 x2, r2⟩, ⟨o3, .ai n3 x3, r3⟩, ⟨true, .ai (wraps (x3.take (j + 1))).length (wraps (x3.take j) ++ [wrapOf (x3.getD j 0)]), cap' * 1⟩] ?hw2 ?tr ⟨cap', by rw [e2], rfl⟩
    case hw2 =>
      repeat (first | exact weak_nil | refine weak_same ?_ | refine weak_junk ?_)
    case tr =>
      exact .inr ⟨5, by simp, rfl, rfl, rfl⟩
  · have hj2 := ge_of_lss h1
    conv => whnf
    repeat (first | (refine br.yes ?_; conv => whnf) | (refine br.no ?_; conv => whnf))
    have e3 : x3.take j = x3 := List.take_of_length_le (by omega)
    rw [e3]
    exact hK cap
set_option maxRecDepth 20000 in
theorem c27_7 {n0 r0 : Nat} {o0 : Bool} {x0 : List Int} {n1 r1 : Nat} {o1 : Bool} {x1 : List Int} {n2 r2 : Nat} {o2 : Bool} {x2 : List Int} {n3 r3 : Nat} {o3 : Bool} {x3 : List Int} {n4 r4 : Nat} {o4 : Bool} {x4 : List Int} {n5 r5 : Nat} {o5 : Bool} {x5 : List Int} {n6 r6 : Nat} {o6 : Bool} {x6 : List Int} {N : Int} {c : Nat} (hx : x6.length = n6) (hn : n6 ≤ 1048576) (hok : isMap N x6 = true)
    (hK : ∀ cap : Nat, K (.tup [.sl 7 [] 1 0 (wraps x6).length cap, AV.int 0]) [⟨o0, .ai n0 x0, r0⟩, ⟨o1, .ai n1 x1, r1⟩, ⟨o2, .ai n2 x2, r2⟩, ⟨o3, .ai n3 x3, r3⟩, ⟨o4, .ai n4 x4, r4⟩, ⟨o5, .ai n5 x5, r5⟩, ⟨o6, .ai n6 x6, r6⟩, ⟨true, .ai (wraps x6).length (wraps x6), cap * 1⟩]) : CallLeaf Try.prog w0 27 [AV.int N, .sl 6 [] 1 0 n6 c] [⟨o0, .ai n0 x0, r0⟩, ⟨o1, .ai n1 x1, r1⟩, ⟨o2, .ai n2 x2, r2⟩, ⟨o3, .ai n3 x3, r3⟩, ⟨o4, .ai n4 x4, r4⟩, ⟨o5, .ai n5 x5, r5⟩, ⟨o6, .ai n6 x6, r6⟩] K := by
  refine fn_go hmix h27 ?_
  conv => whnf
  repeat (first | (refine br.yes ?_; conv => whnf) | (refine br.no ?_; conv => whnf))
  refine c19 (i := 6) rfl hx (by omega) ?_
  conv => whnf
  repeat (first | (refine br.yes ?_; conv => whnf) | (refine br.no ?_; conv => whnf))
  refine br_false (by rw [notB_eq, hok]; rfl) ?_
  conv => whnf
  repeat (first | (refine br.yes ?_; conv => whnf) | (refine br.no ?_; conv => whnf))
  refine loop_inv n6 (fun j ts m => ∃ cap, m = [⟨o0, .ai n0 x0, r0⟩, ⟨o1, .ai n1 x1, r1⟩, ⟨o2, .ai n2 x2, r2⟩, ⟨o3, .ai n3 x3, r3⟩, ⟨o4, .ai n4 x4, r4⟩, ⟨o5, .ai n5 x5, r5⟩, ⟨o6, .ai n6 x6, r6⟩, ⟨true, .ai (wraps (x6.take j)).length (wraps (x6.take j)), cap * 1⟩] ∧ ts = [AV.int N, .sl 6 [] 1 0 n6 c, .junk, .junk, nilS 1, AV.int 0, .sl 7 [] 1 0 (wraps (x6.take j)).length cap, .junk, .junk, .junk, .junk, .junk, .junk, .junk, .sl 6 [] 1 0 n6 c, AV.int n6, AV.int j, .junk, .junk, .junk, .junk, .junk, .junk, .junk, .junk, .junk, .junk]) _ _ ?hw (.inl rfl) ⟨0, rfl, rfl⟩ ?_
  case hw =>
    repeat (first | exact weak_nil | refine weak_same ?_ | refine weak_junk ?_)
  rintro j hj ts m ⟨cap, rfl, rfl⟩ R hR
  conv => whnf
  repeat (first | (refine br.yes ?_; conv => whnf) | (refine br.no ?_; conv => whnf))
  refine br_intro (fun h1 => ?_) (fun h1 => ?_)
  · have hj1 := lt_of_lss h1
    conv => whnf
    repeat (first | (refine br.yes ?_; conv => whnf) | (refine br.no ?_; conv => whnf))
    refine ⟨side_in ⟨by omega, by omega⟩, ?_⟩
    conv => whnf
    repeat (first | (refine br.yes ?_; conv => whnf) | (refine br.no ?_; conv => whnf))
    refine ⟨side_in (at_lt hj1), ?_⟩
    rw [nth_at]
    conv => whnf
    repeat (first | (refine br.yes ?_; conv => whnf) | (refine br.no ?_; conv => whnf))
    refine c54 (by decide) ?_
    conv => whnf
    repeat (first | (refine br.yes ?_; conv => whnf) | (refine br.no ?_; conv => whnf))
    have hl : (wraps (x6.take j)).length = j := by unfold wraps; simp; omega
    refine ⟨side_in ⟨by decide, rfl, rfl, by omega, rfl⟩, fun cap' => ?_⟩
    conv => whnf
    repeat (first | (refine br.yes ?_; conv => whnf) | (refine br.no ?_; conv => whnf))
    have e1 : addN (wraps (x6.take j)).length 1 = (wraps (x6.take (j + 1))).length := by rw [← take_succ_map (by omega), addN_eq]; simp
    rw [add_one (by omega), e1]
    have e2 := take_succ_map (xs := x6) (k := j) (by omega)
    refine hR hj1 _ _ _ [⟨o0, .ai n0 x0, r0⟩, ⟨o1, .ai n1 x1, r1⟩, ⟨o2, .ai n2 x2, r2⟩, ⟨o3, .ai n3 x3, r3⟩, ⟨o4, .ai n4 x4, r4⟩, ⟨o5, .ai n5 x5, r5⟩, ⟨o6, .ai n6 x6, r6⟩, ⟨true, .ai (wraps (x6.take (j + 1))).length (wraps (x6.take j) ++ [wrapOf (x6.getD j 0)]), cap' * 1⟩] ?hw2 ?tr ⟨cap', by rw [e2], rfl⟩
    case hw2 =>
      repeat (first | exact weak_nil | refine weak_same ?_ | refine weak_junk ?_)
    case tr =>
      exact .inr ⟨8, by simp, rfl, rfl, rfl⟩
  · have hj2 := ge_of_lss h1
    conv => whnf
    repeat (first | (refine br.yes ?_; conv => whnf) | (refine br.no ?_; conv => whnf))
    have e3 : x6.take j = x6 := List.take_of_length_le (by omega)
    rw [e3]
    exact hK cap

end
end Go.Proofs.Ytfkbgfpidolhhaa
