/- Contracts of functions, by a walk each. -/
import Derived.Test.YtfoflddjcijaeaaFwNum2
import Derived.Test.YtfoflddjcijaeaaPic5
namespace Go.Proofs.Ytfoflddjcijaeaa
open Go Go.Fw
section
variable {w0 : World} {m : MS} {K : AV → MS → Prop}
/-! the greatest and the least level -/
def topS (xs : List Nat) : Nat → Nat
  | 0 => xs.getD 0 0
  | k + 1 => if cmF .gtr .f32 (xs.getD (k + 1) 0) (topS xs k) = true then xs.getD (k + 1) 0 else topS xs k
def botS (xs : List Nat) : Nat → Nat
  | 0 => xs.getD 0 0
  | k + 1 => if cmF .lss .f32 (xs.getD (k + 1) 0) (botS xs k) = true then xs.getD (k + 1) 0 else botS xs k
def topM (xs : List Nat) : Nat → Nat
  | 0 => xs.getD 0 0
  | k + 1 => mxF .f32 (topM xs k) (xs.getD (k + 1) 0)
theorem topS_t {xs : List Nat} {k : Nat} (h : cmF .gtr .f32 (xs.getD (k + 1) 0) (topS xs k) = true) : topS xs (k + 1) = xs.getD (k + 1) 0 := by simp only [topS, h, if_true]
theorem topS_f {xs : List Nat} {k : Nat} (h : cmF .gtr .f32 (xs.getD (k + 1) 0) (topS xs k) = false) : topS xs (k + 1) = topS xs k := by simp only [topS, h, Bool.false_eq_true, if_false]
theorem botS_t {xs : List Nat} {k : Nat} (h : cmF .lss .f32 (xs.getD (k + 1) 0) (botS xs k) = true) : botS xs (k + 1) = xs.getD (k + 1) 0 := by simp only [botS, h, if_true]
theorem botS_f {xs : List Nat} {k : Nat} (h : cmF .lss .f32 (xs.getD (k + 1) 0) (botS xs k) = false) : botS xs (k + 1) = botS xs k := by simp only [botS, h, Bool.false_eq_true, if_false]
set_option maxRecDepth 20000 in
set_option maxHeartbeats 1600000 in
theorem c_l05Ends {N : Nat} {xs : List Nat} (hN : 0 < N ∧ N ≤ 8) (hK : K (.tup [.flt .f32 (topS xs (N * N - 1)), .flt .f32 (botS xs (N * N - 1))]) m) : CallLeaf Try.prog w0 91 [.st [AV.int N, .af 64 xs]] m K := call_nil rfl fun w0 => by
  have hNN := sq_le hN.2
  have hN1 : 0 < N * N := Nat.mul_pos hN.1 hN.1
  have e0 : nth xs (toN 0) 0 = xs.getD 0 0 := by rw [nth_eq, toN_eq]; rfl
  refine fn_go hmix h91 ?_
  conv => whnf
  repeat (first | (refine br.yes ?_; conv => whnf) | (refine br.no ?_; conv => whnf))
  refine ⟨side_in ⟨by decide, by decide⟩, ?_⟩
  conv => whnf
  repeat (first | (refine br.yes ?_; conv => whnf) | (refine br.no ?_; conv => whnf))
  refine ⟨side_in (show toN 0 < 64 by rw [toN_eq]; decide), ?_⟩
  rw [e0]
  conv => whnf
  repeat (first | (refine br.yes ?_; conv => whnf) | (refine br.no ?_; conv => whnf))
  refine ⟨side_in ⟨by decide, by decide⟩, ?_⟩
  conv => whnf
  repeat (first | (refine br.yes ?_; conv => whnf) | (refine br.no ?_; conv => whnf))
  refine ⟨side_in (show toN 0 < 64 by rw [toN_eq]; decide), ?_⟩
  rw [e0]
  conv => whnf
  repeat (first | (refine br.yes ?_; conv => whnf) | (refine br.no ?_; conv => whnf))
  refine loop_inv (N * N - 1) (fun k ts m => m = [⟨true, .st [AV.int N, .af 64 xs], 0⟩] ∧ ts = [.junk, .ptr 0 [], .flt .f32 0, .flt .f32 0, .flt .f32 (topS xs k), .flt .f32 (botS xs k), AV.int (k + 1 : Nat), .junk, .junk, .junk, .junk, .junk, .junk, .junk, .junk, .junk, .junk, .junk, .junk, .junk, .junk, .junk, .junk, .junk, .junk, .junk, .junk, .junk, .junk, .junk, .junk, .junk, .junk, .junk, .junk, .junk, .junk, .junk, .junk, .junk, .junk, .junk, .junk, .junk]) _ _ ?hw trim_no ⟨rfl, rfl⟩ ?_
  case hw =>
    repeat (first | exact weak_nil | refine weak_same ?_ | refine weak_junk ?_)
  rintro k hk ts m' ⟨rfl, rfl⟩ R hR
  conv => whnf
  repeat (first | (refine br.yes ?_; conv => whnf) | (refine br.no ?_; conv => whnf))
  rw [mul_nat (by omega) (by omega)]
  refine br_intro (fun g1 => ?_) (fun g1 => ?_)
  · have hk1 : k + 1 < N * N := lt_of_lss g1
    have hk64 : k + 1 < 64 := by omega
    conv => whnf
    repeat (first | (refine br.yes ?_; conv => whnf) | (refine br.no ?_; conv => whnf))
    refine ⟨side_in ⟨by omega, by omega⟩, ?_⟩
    conv => whnf
    repeat (first | (refine br.yes ?_; conv => whnf) | (refine br.no ?_; conv => whnf))
    refine ⟨side_in (by rw [toN_nat]; exact hk64), ?_⟩
    rw [toN_nat, nth_eq]
    conv => whnf
    repeat (first | (refine br.yes ?_; conv => whnf) | (refine br.no ?_; conv => whnf))
    refine br_intro (fun g2 => ?_) (fun g2 => ?_)
    · conv => whnf
      repeat (first | (refine br.yes ?_; conv => whnf) | (refine br.no ?_; conv => whnf))
      refine ⟨side_in ⟨by omega, by omega⟩, ?_⟩
      conv => whnf
      repeat (first | (refine br.yes ?_; conv => whnf) | (refine br.no ?_; conv => whnf))
      refine ⟨side_in (by rw [toN_nat]; exact hk64), ?_⟩
      rw [toN_nat, nth_eq]
      conv => whnf
      repeat (first | (refine br.yes ?_; conv => whnf) | (refine br.no ?_; conv => whnf))
      refine ⟨side_in ⟨by omega, by omega⟩, ?_⟩
      conv => whnf
      repeat (first | (refine br.yes ?_; conv => whnf) | (refine br.no ?_; conv => whnf))
      refine ⟨side_in (by rw [toN_nat]; exact hk64), ?_⟩
      rw [toN_nat, nth_eq]
      conv => whnf
      repeat (first | (refine br.yes ?_; conv => whnf) | (refine br.no ?_; conv => whnf))
      refine br_intro (fun g3 => ?_) (fun g3 => ?_)
      · conv => whnf
        repeat (first | (refine br.yes ?_; conv => whnf) | (refine br.no ?_; conv => whnf))
        refine ⟨side_in ⟨by omega, by omega⟩, ?_⟩
        conv => whnf
        repeat (first | (refine br.yes ?_; conv => whnf) | (refine br.no ?_; conv => whnf))
        refine ⟨side_in (by rw [toN_nat]; exact hk64), ?_⟩
        rw [toN_nat, nth_eq]
        conv => whnf
        repeat (first | (refine br.yes ?_; conv => whnf) | (refine br.no ?_; conv => whnf))
        rw [add_one (by omega)]
        refine hR (by omega) _ _ _ _ ?hw2 trim_no ⟨rfl, by rw [topS_t g2, botS_t g3]⟩
        case hw2 =>
          repeat (first | exact weak_nil | refine weak_same ?_ | refine weak_junk ?_)
      · conv => whnf
        repeat (first | (refine br.yes ?_; conv => whnf) | (refine br.no ?_; conv => whnf))
        rw [add_one (by omega)]
        refine hR (by omega) _ _ _ _ ?hw3 trim_no ⟨rfl, by rw [topS_t g2, botS_f g3]⟩
        case hw3 =>
          repeat (first | exact weak_nil | refine weak_same ?_ | refine weak_junk ?_)
    · conv => whnf
      repeat (first | (refine br.yes ?_; conv => whnf) | (refine br.no ?_; conv => whnf))
      refine ⟨side_in ⟨by omega, by omega⟩, ?_⟩
      conv => whnf
      repeat (first | (refine br.yes ?_; conv => whnf) | (refine br.no ?_; conv => whnf))
      refine ⟨side_in (by rw [toN_nat]; exact hk64), ?_⟩
      rw [toN_nat, nth_eq]
      conv => whnf
      repeat (first | (refine br.yes ?_; conv => whnf) | (refine br.no ?_; conv => whnf))
      refine br_intro (fun g3 => ?_) (fun g3 => ?_)
      · conv => whnf
        repeat (first | (refine br.yes ?_; conv => whnf) | (refine br.no ?_; conv => whnf))
        refine ⟨side_in ⟨by omega, by omega⟩, ?_⟩
        conv => whnf
        repeat (first | (refine br.yes ?_; conv => whnf) | (refine br.no ?_; conv => whnf))
        refine ⟨side_in (by rw [toN_nat]; exact hk64), ?_⟩
        rw [toN_nat, nth_eq]
        conv => whnf
        repeat (first | (refine br.yes ?_; conv => whnf) | (refine br.no ?_; conv => whnf))
        rw [add_one (by omega)]
        refine hR (by omega) _ _ _ _ ?hw4 trim_no ⟨rfl, by rw [topS_f g2, botS_t g3]⟩
        case hw4 =>
          repeat (first | exact weak_nil | refine weak_same ?_ | refine weak_junk ?_)
      · conv => whnf
        repeat (first | (refine br.yes ?_; conv => whnf) | (refine br.no ?_; conv => whnf))
        rw [add_one (by omega)]
        refine hR (by omega) _ _ _ _ ?hw5 trim_no ⟨rfl, by rw [topS_f g2, botS_f g3]⟩
        case hw5 =>
          repeat (first | exact weak_nil | refine weak_same ?_ | refine weak_junk ?_)
  · have hk2 : k = N * N - 1 := by have := ge_of_lss g1; omega
    subst hk2
    conv => whnf
    repeat (first | (refine br.yes ?_; conv => whnf) | (refine br.no ?_; conv => whnf))
    exact ⟨rfl, hK⟩
set_option maxRecDepth 20000 in
theorem c_Max {i N r : Nat} {o : Bool} {s : Int} {xs : List Nat} (hi : getE m i = some ⟨o, .st [AV.int s, .af 64 xs], r⟩) (hN : 0 < N ∧ N ≤ 8) (hK : K (.flt .f32 (topM xs (N * N - 1))) m) : CallLeaf Try.prog w0 109 [.sl i [.fld 1 1] 1 0 (N * N) 64] m K := by
  have hNN := sq_le hN.2
  have hN1 : 0 < N * N := Nat.mul_pos hN.1 hN.1
  have e0 : nth xs (addN 0 (toN 0)) 0 = xs.getD 0 0 := by rw [nth_eq, addN_eq, toN_eq]; rfl
  refine fn_go hmix h109 ?_
  conv => whnf
  repeat (first | (refine br.yes ?_; conv => whnf) | (refine br.no ?_; conv => whnf))
  refine br_false (by rw [cmI_lss]; simp only [decide_eq_false_iff_not]; omega) ?_
  conv => whnf
  repeat (first | (refine br.yes ?_; conv => whnf) | (refine br.no ?_; conv => whnf))
  refine ⟨side_in ⟨by omega, by omega⟩, ?_⟩
  conv => whnf
  repeat (first | (refine br.yes ?_; conv => whnf) | (refine br.no ?_; conv => whnf))
  rw [hi]
  conv => whnf
  repeat (first | (refine br.yes ?_; conv => whnf) | (refine br.no ?_; conv => whnf))
  refine ⟨side_in (show addN 0 (toN 0) < 64 by rw [addN_eq, toN_eq]; decide), ?_⟩
  rw [e0]
  conv => whnf
  repeat (first | (refine br.yes ?_; conv => whnf) | (refine br.no ?_; conv => whnf))
  refine loop_inv (N * N - 1) (fun k ts m' => m' = m ∧ ts = [.sl i [.fld 1 1] 1 0 (N * N) 64, .junk, .flt .f32 0, .flt .f32 (topM xs k), AV.int (k + 1 : Nat), .junk, .junk, .junk, .junk, .junk, .junk, .junk, .junk, .junk, .junk, .junk, .junk, .junk, .junk, .junk, .junk, .junk, .junk, .junk, .junk]) _ _ ?hw trim_no ⟨rfl, rfl⟩ ?_
  case hw =>
    repeat (first | exact weak_nil | refine weak_same ?_ | refine weak_junk ?_)
  rintro k hk ts m' ⟨rfl, rfl⟩ R hR
  conv => whnf
  repeat (first | (refine br.yes ?_; conv => whnf) | (refine br.no ?_; conv => whnf))
  refine br_intro (fun g1 => ?_) (fun g1 => ?_)
  · have hk1 : k + 1 < N * N := lt_of_lss g1
    have hk64 : k + 1 < 64 := by omega
    conv => whnf
    repeat (first | (refine br.yes ?_; conv => whnf) | (refine br.no ?_; conv => whnf))
    refine ⟨side_in ⟨by omega, by omega⟩, ?_⟩
    conv => whnf
    repeat (first | (refine br.yes ?_; conv => whnf) | (refine br.no ?_; conv => whnf))
    rw [hi]
    conv => whnf
    repeat (first | (refine br.yes ?_; conv => whnf) | (refine br.no ?_; conv => whnf))
    refine ⟨side_in (at_lt hk64), ?_⟩
    rw [nth_at]
    conv => whnf
    repeat (first | (refine br.yes ?_; conv => whnf) | (refine br.no ?_; conv => whnf))
    rw [add_one (by omega)]
    refine hR (by omega) _ _ _ _ ?hw2 trim_no ⟨rfl, rfl⟩
    case hw2 =>
      repeat (first | exact weak_nil | refine weak_same ?_ | refine weak_junk ?_)
  · have hk2 : k = N * N - 1 := by have := ge_of_lss g1; omega
    subst hk2
    conv => whnf
    repeat (first | (refine br.yes ?_; conv => whnf) | (refine br.no ?_; conv => whnf))
    exact hK
theorem c_top {N : Nat} {xs : List Nat} (hN : 0 < N ∧ N ≤ 8) (hK : K (.flt .f32 (topM xs (N * N - 1))) m) : CallLeaf Try.prog w0 93 [.st [AV.int N, .af 64 xs]] m K := call_nil rfl fun w0 => by
  refine fn_go hmix h93 ?_
  conv => whnf
  repeat (first | (refine br.yes ?_; conv => whnf) | (refine br.no ?_; conv => whnf))
  refine c_levels hN.2 ?_
  conv => whnf
  repeat (first | (refine br.yes ?_; conv => whnf) | (refine br.no ?_; conv => whnf))
  refine c_Max (i := 1) rfl hN ?_
  conv => whnf
  repeat (first | (refine br.yes ?_; conv => whnf) | (refine br.no ?_; conv => whnf))
  exact ⟨rfl, hK⟩
end
end Go.Proofs.Ytfoflddjcijaeaa
