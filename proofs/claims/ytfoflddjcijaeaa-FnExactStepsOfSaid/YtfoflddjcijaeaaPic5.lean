/- Contracts of functions, by a walk each. -/
import Derived.Test.YtfoflddjcijaeaaFwFresh
import Derived.Test.YtfoflddjcijaeaaPic4
namespace Go.Proofs.Ytfoflddjcijaeaa
open Go Go.Fw
section
variable {w0 : World} {m : MS} {K : AV → MS → Prop}
/-! two pictures' difference -/
def twoCode (s1 : Int) (xs : List Nat) (s2 : Int) (ys : List Nat) : Int := if (picOk s1 xs && picOk s2 ys) = true then (if s1 = s2 then 0 else 2) else 1
theorem two_1 {s1 s2 : Int} {xs ys : List Nat} (h : notB (picOk s1 xs) = true) : twoCode s1 xs s2 ys = 1 := by rw [notB_eq] at h; simp at h; simp [twoCode, h]
theorem two_2 {s1 s2 : Int} {xs ys : List Nat} (h : notB (picOk s2 ys) = true) : twoCode s1 xs s2 ys = 1 := by rw [notB_eq] at h; simp at h; simp [twoCode, h]
theorem two_3 {s1 s2 : Int} {xs ys : List Nat} (h : notB (picOk s1 xs) = false) (h2 : notB (picOk s2 ys) = false) (h3 : cmI .neq s1 s2 = true) : twoCode s1 xs s2 ys = 2 := by
  rw [notB_eq] at h h2; rw [cmI_neq] at h3; simp at h h2 h3; simp [twoCode, h, h2, h3]
theorem two_0 {s1 s2 : Int} {xs ys : List Nat} (h : notB (picOk s1 xs) = false) (h2 : notB (picOk s2 ys) = false) (h3 : cmI .neq s1 s2 = false) : twoCode s1 xs s2 ys = 0 := by
  rw [notB_eq] at h h2; rw [cmI_neq] at h3; simp at h h2 h3; subst h3; simp [twoCode, h, h2]
theorem two_ok {s1 s2 : Int} {xs ys : List Nat} (h : twoCode s1 xs s2 ys = 0) : picOk s1 xs = true ∧ picOk s2 ys = true ∧ s1 = s2 := by
  unfold twoCode at h
  split at h
  · rename_i h1
    rw [Bool.and_eq_true] at h1
    split at h
    · rename_i h2; exact ⟨h1.1, h1.2, h2⟩
    · omega
  · omega
theorem c_l05Two {s1 s2 : Int} {xs ys : List Nat} (hK : K (AV.int (twoCode s1 xs s2 ys)) m) : CallLeaf Try.prog w0 70 [.st [AV.int s1, .af 64 xs], .st [AV.int s2, .af 64 ys]] m K := call_nil rfl fun w0 => by
  refine fn_go hmix h70 ?_
  conv => whnf
  repeat (first | (refine br.yes ?_; conv => whnf) | (refine br.no ?_; conv => whnf))
  refine c_l01Shown ?_
  conv => whnf
  repeat (first | (refine br.yes ?_; conv => whnf) | (refine br.no ?_; conv => whnf))
  refine br_intro (fun h => ?_) (fun h => ?_)
  · conv => whnf
    repeat (first | (refine br.yes ?_; conv => whnf) | (refine br.no ?_; conv => whnf))
    exact ⟨rfl, K_int hK (two_1 h)⟩
  conv => whnf
  repeat (first | (refine br.yes ?_; conv => whnf) | (refine br.no ?_; conv => whnf))
  refine c_l01Shown ?_
  conv => whnf
  repeat (first | (refine br.yes ?_; conv => whnf) | (refine br.no ?_; conv => whnf))
  refine br_intro (fun h2 => ?_) (fun h2 => ?_)
  · conv => whnf
    repeat (first | (refine br.yes ?_; conv => whnf) | (refine br.no ?_; conv => whnf))
    exact ⟨rfl, K_int hK (two_2 h2)⟩
  conv => whnf
  repeat (first | (refine br.yes ?_; conv => whnf) | (refine br.no ?_; conv => whnf))
  refine br_intro (fun h3 => ?_) (fun h3 => ?_)
  · conv => whnf
    repeat (first | (refine br.yes ?_; conv => whnf) | (refine br.no ?_; conv => whnf))
    exact ⟨rfl, K_int hK (two_3 h h2 h3)⟩
  · conv => whnf
    repeat (first | (refine br.yes ?_; conv => whnf) | (refine br.no ?_; conv => whnf))
    exact ⟨rfl, K_int hK (two_0 h h2 h3)⟩
theorem c_arePictures {s1 s2 : Int} {xs ys : List Nat} (hK : K (AV.int (twoCode s1 xs s2 ys)) m) : CallLeaf Try.prog w0 72 [.st [AV.int s1, .af 64 xs], .st [AV.int s2, .af 64 ys]] m K := call_nil rfl fun w0 => by
  refine fn_go hmix h72 ?_
  conv => whnf
  repeat (first | (refine br.yes ?_; conv => whnf) | (refine br.no ?_; conv => whnf))
  refine c_IsPicture ?_
  conv => whnf
  repeat (first | (refine br.yes ?_; conv => whnf) | (refine br.no ?_; conv => whnf))
  refine br_intro (fun h => ?_) (fun h => ?_)
  · conv => whnf
    repeat (first | (refine br.yes ?_; conv => whnf) | (refine br.no ?_; conv => whnf))
    exact ⟨rfl, K_int hK (two_1 h)⟩
  conv => whnf
  repeat (first | (refine br.yes ?_; conv => whnf) | (refine br.no ?_; conv => whnf))
  refine c_IsPicture ?_
  conv => whnf
  repeat (first | (refine br.yes ?_; conv => whnf) | (refine br.no ?_; conv => whnf))
  refine br_intro (fun h2 => ?_) (fun h2 => ?_)
  · conv => whnf
    repeat (first | (refine br.yes ?_; conv => whnf) | (refine br.no ?_; conv => whnf))
    exact ⟨rfl, K_int hK (two_2 h2)⟩
  conv => whnf
  repeat (first | (refine br.yes ?_; conv => whnf) | (refine br.no ?_; conv => whnf))
  refine br_intro (fun h3 => ?_) (fun h3 => ?_)
  · conv => whnf
    repeat (first | (refine br.yes ?_; conv => whnf) | (refine br.no ?_; conv => whnf))
    exact ⟨rfl, K_int hK (two_3 h h2 h3)⟩
  · conv => whnf
    repeat (first | (refine br.yes ?_; conv => whnf) | (refine br.no ?_; conv => whnf))
    exact ⟨rfl, K_int hK (two_0 h h2 h3)⟩
def absF (x : Nat) : Nat := if cmF .lss .f32 x 0 = true then ngF .f32 x else x
theorem c_l05Size {x : Nat} (hK : K (.flt .f32 (absF x)) m) : CallLeaf Try.prog w0 71 [.flt .f32 x] m K := by
  refine fn_go hmix h71 ?_
  conv => whnf
  repeat (first | (refine br.yes ?_; conv => whnf) | (refine br.no ?_; conv => whnf))
  refine br_intro (fun h => ?_) (fun h => ?_)
  · conv => whnf
    repeat (first | (refine br.yes ?_; conv => whnf) | (refine br.no ?_; conv => whnf))
    simpa [absF, h] using hK
  · conv => whnf
    repeat (first | (refine br.yes ?_; conv => whnf) | (refine br.no ?_; conv => whnf))
    simpa [absF, h] using hK
theorem c_absolute {x : Nat} (hK : K (.flt .f32 (absF x)) m) : CallLeaf Try.prog w0 103 [.flt .f32 x] m K := by
  refine fn_go hmix h103 ?_
  conv => whnf
  repeat (first | (refine br.yes ?_; conv => whnf) | (refine br.no ?_; conv => whnf))
  refine br_intro (fun h => ?_) (fun h => ?_)
  · conv => whnf
    repeat (first | (refine br.yes ?_; conv => whnf) | (refine br.no ?_; conv => whnf))
    simpa [absF, h] using hK
  · conv => whnf
    repeat (first | (refine br.yes ?_; conv => whnf) | (refine br.no ?_; conv => whnf))
    simpa [absF, h] using hK
/-- a sum from the left, of so many -/
def sumTo (F : Nat → Nat) : Nat → Nat
  | 0 => 0
  | k + 1 => arF .add .f32 (sumTo F k) (F k)
theorem sumTo_not {F : Nat → Nat} {j n : Nat} (hj : j ≤ n) (h : fine (sumTo F j) = false) : fine (sumTo F n) = false := by
  have key : ∀ d, fine (sumTo F (j + d)) = false := by
    intro d
    induction d with
    | zero => exact h
    | succ d ih =>
      have hn : ¬ isNum (sumTo F (j + d)) := fun hh => by
        have := fine_iff.2 hh
        unfold fine at ih
        rw [ih] at this; cases this
      have := add_not (y := F (j + d)) hn
      cases hf : fine (sumTo F (j + d + 1)) with
      | false => rfl
      | true => exact absurd (fine_iff.1 hf) this
  have := key (n - j)
  rwa [show j + (n - j) = n by omega] at this
def limN (x : Nat) : Nat × Int := if fine x = true then (x, 0) else (0, 3)
def fcA (R : Nat × Int) : AV := .tup [.flt .f32 R.1, AV.int R.2]
theorem c_limitNumber {x : Nat} (hK : K (fcA (limN x)) m) : CallLeaf Try.prog w0 73 [.flt .f32 x] m K := by
  refine fn_go hmix h73 ?_
  conv => whnf
  repeat (first | (refine br.yes ?_; conv => whnf) | (refine br.no ?_; conv => whnf))
  refine c_isNumber ?_
  conv => whnf
  repeat (first | (refine br.yes ?_; conv => whnf) | (refine br.no ?_; conv => whnf))
  refine br_intro (fun h => ?_) (fun h => ?_)
  · have e : limN x = (0, 3) := by rw [notB_eq] at h; simp at h; simp [limN, h]
    rw [e] at hK
    conv => whnf
    repeat (first | (refine br.yes ?_; conv => whnf) | (refine br.no ?_; conv => whnf))
    exact hK
  · have e : limN x = (x, 0) := by rw [notB_eq] at h; simp at h; simp [limN, h]
    rw [e] at hK
    conv => whnf
    repeat (first | (refine br.yes ?_; conv => whnf) | (refine br.no ?_; conv => whnf))
    exact hK
def difF (xs ys : List Nat) (k : Nat) : Nat := absF (arF .sub .f32 (xs.getD k 0) (ys.getD k 0))
def difR (s1 : Int) (xs : List Nat) (s2 : Int) (ys : List Nat) : Nat × Int := if twoCode s1 xs s2 ys = 0 then limN (sumTo (difF xs ys) (s1.toNat * s1.toNat)) else (0, twoCode s1 xs s2 ys)
theorem difR_no {s1 s2 : Int} {xs ys : List Nat} (h : twoCode s1 xs s2 ys ≠ 0) : difR s1 xs s2 ys = (0, twoCode s1 xs s2 ys) := by simp [difR, h]
theorem difR_ok {N : Nat} {s2 : Int} {xs ys : List Nat} (h : twoCode N xs s2 ys = 0) : difR N xs s2 ys = limN (sumTo (difF xs ys) (N * N)) := by simp [difR, h]
set_option maxRecDepth 20000 in
theorem rspec_DifferenceOf {s1 s2 : Int} {xs ys : List Nat} (hK : K (fcA (difR s1 xs s2 ys)) m) : CallLeaf Try.prog w0 41 [.st [AV.int s1, .af 64 xs], .st [AV.int s2, .af 64 ys]] m K := call_nil rfl fun w0 => by
  refine fn_go hmix h41 ?_
  conv => whnf
  repeat (first | (refine br.yes ?_; conv => whnf) | (refine br.no ?_; conv => whnf))
  refine c_l05Two ?_
  by_cases hc : twoCode s1 xs s2 ys = 0
  · obtain ⟨h1, h2, rfl⟩ := two_ok hc
    obtain ⟨N, rfl, hN8, hN0⟩ := pic_nat h1
    have hNN := sq_le hN8
    rw [difR_ok hc] at hK
    rw [hc]
    conv => whnf
    repeat (first | (refine br.yes ?_; conv => whnf) | (refine br.no ?_; conv => whnf))
    refine br_false (neq_self _) ?_
    conv => whnf
    repeat (first | (refine br.yes ?_; conv => whnf) | (refine br.no ?_; conv => whnf))
    refine loop_inv (N * N) (fun k ts m => m = [⟨true, .st [AV.int N, .af 64 xs], 0⟩, ⟨true, .st [AV.int N, .af 64 ys], 0⟩] ∧ ts = [.junk, .junk, .ptr 0 [], .ptr 1 [], .flt .f32 0, AV.int 0, .junk, .flt .f32 (sumTo (difF xs ys) k), AV.int k, .junk, .junk, .junk, .junk, .junk, .junk, .junk, .junk, .junk, .junk, .junk, .junk, .junk, .junk, .junk, .junk, .junk, .junk, .junk, .junk, .junk, .junk, .junk, .junk, .junk, .junk, .junk, .junk, .junk, .junk, .junk] ∧ (0 < k → fine (sumTo (difF xs ys) k) = true)) _ _ ?hw trim_no ⟨rfl, rfl, fun h => by omega⟩ ?_
    case hw =>
      repeat (first | exact weak_nil | refine weak_same ?_ | refine weak_junk ?_)
    rintro k hk ts m' ⟨rfl, rfl, hf⟩ R hR
    conv => whnf
    repeat (first | (refine br.yes ?_; conv => whnf) | (refine br.no ?_; conv => whnf))
    rw [mul_nat (by omega) (by omega)]
    refine br_intro (fun g1 => ?_) (fun g1 => ?_)
    · have hk1 : k < N * N := lt_of_lss g1
      have hk64 : k < 64 := by omega
      conv => whnf
      repeat (first | (refine br.yes ?_; conv => whnf) | (refine br.no ?_; conv => whnf))
      refine ⟨side_in ⟨by omega, by omega⟩, ?_⟩
      conv => whnf
      repeat (first | (refine br.yes ?_; conv => whnf) | (refine br.no ?_; conv => whnf))
      refine ⟨side_in (by rw [toN_nat]; exact hk64), ?_⟩
      rw [toN_nat, nth_eq]
      conv => whnf
      repeat (first | (refine br.yes ?_; conv => whnf) | (refine br.no ?_; conv => whnf))
      refine ⟨side_in ⟨by omega, by omega⟩, ?_⟩
      conv => whnf
      repeat (first | (refine br.yes ?_; conv => whnf) | (refine br.no ?_; conv => whnf))
      refine ⟨side_in (by rw [toN_nat]; exact hk64), ?_⟩
      rw [toN_nat, nth_eq]
      conv => whnf
      repeat (first | (refine br.yes ?_; conv => whnf) | (refine br.no ?_; conv => whnf))
      refine q_keep (.flt .f32 (difF xs ys k)) (fun K' h => c_l05Size h) ?_
      conv => whnf
      repeat (first | (refine br.yes ?_; conv => whnf) | (refine br.no ?_; conv => whnf))
      refine c_l01Fine ?_
      conv => whnf
      repeat (first | (refine br.yes ?_; conv => whnf) | (refine br.no ?_; conv => whnf))
      refine br_intro (fun g2 => ?_) (fun g2 => ?_)
      · have e : limN (sumTo (difF xs ys) (N * N)) = (0, 3) := by
          have hn : fine (sumTo (difF xs ys) (k + 1)) = false := by rw [notB_eq] at g2; simpa [sumTo] using g2
          have := sumTo_not (show k + 1 ≤ N * N by omega) hn
          simp [limN, this]
        rw [e] at hK
        conv => whnf
        repeat (first | (refine br.yes ?_; conv => whnf) | (refine br.no ?_; conv => whnf))
        exact ⟨rfl, hK⟩
      · conv => whnf
        repeat (first | (refine br.yes ?_; conv => whnf) | (refine br.no ?_; conv => whnf))
        rw [add_one (by omega)]
        refine hR hk1 _ _ _ _ ?hw2 trim_no ⟨rfl, rfl, fun _ => ?_⟩
        case hw2 =>
          repeat (first | exact weak_nil | refine weak_same ?_ | refine weak_junk ?_)
        rw [notB_eq] at g2; simpa [sumTo] using g2
    · have hk2 : k = N * N := Nat.le_antisymm hk (ge_of_lss g1)
      subst hk2
      have e : limN (sumTo (difF xs ys) (N * N)) = (sumTo (difF xs ys) (N * N), 0) := by
        have := hf (Nat.mul_pos hN0 hN0)
        simp [limN, this]
      rw [e] at hK
      conv => whnf
      repeat (first | (refine br.yes ?_; conv => whnf) | (refine br.no ?_; conv => whnf))
      exact ⟨rfl, hK⟩
  · rw [difR_no hc] at hK
    conv => whnf
    repeat (first | (refine br.yes ?_; conv => whnf) | (refine br.no ?_; conv => whnf))
    refine br_true (by rw [cmI_neq]; simpa using hc) ?_
    conv => whnf
    repeat (first | (refine br.yes ?_; conv => whnf) | (refine br.no ?_; conv => whnf))
    exact ⟨rfl, hK⟩
theorem c_levels {N : Nat} {xs : List Nat} (hN : N ≤ 8) (hK : K (.sl m.length [.fld 1 1] 1 0 (N * N) 64) (m ++ [⟨true, .st [AV.int N, .af 64 xs], 0⟩])) : CallLeaf Try.prog w0 64 [.st [AV.int N, .af 64 xs]] m K := call_fresh rfl fun w0 => by
  have hNN := sq_le hN
  refine fn_go hmix h64 ?_
  conv => whnf
  repeat (first | (refine br.yes ?_; conv => whnf) | (refine br.no ?_; conv => whnf))
  rw [mul_nat (by omega) (by omega)]
  refine ⟨side_in ⟨by omega, by omega⟩, ?_⟩
  conv => whnf
  repeat (first | (refine br.yes ?_; conv => whnf) | (refine br.no ?_; conv => whnf))
  rw [toN_nat]
  exact ⟨rfl, fun e he => by simp at he; subst he; exact .inl rfl, rfl, hK⟩
set_option maxRecDepth 20000 in
theorem c_differenceOf {N : Nat} {xs ys : List Nat} (hN : 0 < N ∧ N ≤ 8) (hK : K (.flt .f32 (sumTo (difF xs ys) (N * N))) m) : CallLeaf Try.prog w0 74 [.st [AV.int N, .af 64 xs], .st [AV.int N, .af 64 ys]] m K := call_nil rfl fun w0 => by
  have hNN := sq_le hN.2
  refine fn_go hmix h74 ?_
  conv => whnf
  repeat (first | (refine br.yes ?_; conv => whnf) | (refine br.no ?_; conv => whnf))
  refine c_levels hN.2 ?_
  conv => whnf
  repeat (first | (refine br.yes ?_; conv => whnf) | (refine br.no ?_; conv => whnf))
  refine loop_inv (N * N) (fun k ts m => m = [⟨true, .st [AV.int N, .af 64 xs], 0⟩, ⟨true, .st [AV.int N, .af 64 ys], 0⟩, ⟨true, .st [AV.int N, .af 64 xs], 0⟩] ∧ ts = [.junk, .junk, .ptr 0 [], .ptr 1 [], .flt .f32 0, .flt .f32 (sumTo (difF xs ys) k), .junk, .junk, .junk, .sl 2 [.fld 1 1] 1 0 (N * N) 64, AV.int (N * N : Nat), AV.int k, .junk, .junk, .junk, .junk, .junk, .junk, .junk, .junk, .junk, .junk, .junk, .junk, .junk, .junk, .junk]) _ _ ?hw trim_no ⟨rfl, rfl⟩ ?_
  case hw =>
    repeat (first | exact weak_nil | refine weak_same ?_ | refine weak_junk ?_)
  rintro k hk ts m' ⟨rfl, rfl⟩ R hR
  conv => whnf
  repeat (first | (refine br.yes ?_; conv => whnf) | (refine br.no ?_; conv => whnf))
  refine br_intro (fun g1 => ?_) (fun g1 => ?_)
  · have hk1 : k < N * N := lt_of_lss g1
    have hk64 : k < 64 := by omega
    conv => whnf
    repeat (first | (refine br.yes ?_; conv => whnf) | (refine br.no ?_; conv => whnf))
    refine ⟨side_in ⟨by omega, by omega⟩, ?_⟩
    conv => whnf
    repeat (first | (refine br.yes ?_; conv => whnf) | (refine br.no ?_; conv => whnf))
    refine ⟨side_in (at_lt hk64), ?_⟩
    rw [nth_at]
    conv => whnf
    repeat (first | (refine br.yes ?_; conv => whnf) | (refine br.no ?_; conv => whnf))
    refine ⟨side_in ⟨by omega, by omega⟩, ?_⟩
    conv => whnf
    repeat (first | (refine br.yes ?_; conv => whnf) | (refine br.no ?_; conv => whnf))
    refine ⟨side_in (by rw [toN_nat]; exact hk64), ?_⟩
    rw [toN_nat, nth_eq]
    conv => whnf
    repeat (first | (refine br.yes ?_; conv => whnf) | (refine br.no ?_; conv => whnf))
    refine c_absolute ?_
    conv => whnf
    repeat (first | (refine br.yes ?_; conv => whnf) | (refine br.no ?_; conv => whnf))
    rw [add_one (by omega)]
    refine hR hk1 _ _ _ _ ?hw2 trim_no ⟨rfl, rfl⟩
    case hw2 =>
      repeat (first | exact weak_nil | refine weak_same ?_ | refine weak_junk ?_)
  · have hk2 : k = N * N := Nat.le_antisymm hk (ge_of_lss g1)
    subst hk2
    conv => whnf
    repeat (first | (refine br.yes ?_; conv => whnf) | (refine br.no ?_; conv => whnf))
    exact ⟨rfl, hK⟩
set_option maxRecDepth 20000 in
theorem rimpl_DifferenceOf {s1 s2 : Int} {xs ys : List Nat} (hK : K (fcA (difR s1 xs s2 ys)) m) : CallLeaf Try.prog w0 43 [.st [AV.int s1, .af 64 xs], .st [AV.int s2, .af 64 ys]] m K := call_nil rfl fun w0 => by
  refine fn_go hmix h43 ?_
  conv => whnf
  repeat (first | (refine br.yes ?_; conv => whnf) | (refine br.no ?_; conv => whnf))
  refine c_arePictures ?_
  by_cases hc : twoCode s1 xs s2 ys = 0
  · obtain ⟨h1, h2, rfl⟩ := two_ok hc
    obtain ⟨N, rfl, hN8, hN0⟩ := pic_nat h1
    rw [difR_ok hc] at hK
    rw [hc]
    conv => whnf
    repeat (first | (refine br.yes ?_; conv => whnf) | (refine br.no ?_; conv => whnf))
    refine br_false (neq_self _) ?_
    conv => whnf
    repeat (first | (refine br.yes ?_; conv => whnf) | (refine br.no ?_; conv => whnf))
    refine c_differenceOf ⟨hN0, hN8⟩ ?_
    conv => whnf
    repeat (first | (refine br.yes ?_; conv => whnf) | (refine br.no ?_; conv => whnf))
    refine c_limitNumber ?_
    unfold fcA at hK ⊢
    generalize limN (sumTo (difF xs ys) (N * N)) = R at hK ⊢
    conv => whnf
    repeat (first | (refine br.yes ?_; conv => whnf) | (refine br.no ?_; conv => whnf))
    exact ⟨rfl, hK⟩
  · rw [difR_no hc] at hK
    conv => whnf
    repeat (first | (refine br.yes ?_; conv => whnf) | (refine br.no ?_; conv => whnf))
    refine br_true (by rw [cmI_neq]; simpa using hc) ?_
    conv => whnf
    repeat (first | (refine br.yes ?_; conv => whnf) | (refine br.no ?_; conv => whnf))
    exact ⟨rfl, hK⟩
theorem c_plainF32 {x : Nat} (hK : K (.flt .f32 (plusN x)) m) : CallLeaf Try.prog w0 44 [.flt .f32 x] m K := call_nil rfl fun w0 => by
  refine fn_go hmix h44 ?_
  conv => whnf
  repeat (first | (refine br.yes ?_; conv => whnf) | (refine br.no ?_; conv => whnf))
  refine c_plainNumber ?_
  conv => whnf
  repeat (first | (refine br.yes ?_; conv => whnf) | (refine br.no ?_; conv => whnf))
  exact ⟨rfl, hK⟩
def plusF (R : Nat × Int) : Nat × Int := (plusN R.1, R.2)
theorem ospec_DifferenceOf {s1 s2 : Int} {xs ys : List Nat} (hK : K (fcA (plusF (difR s1 xs s2 ys))) m) : CallLeaf Try.prog w0 15 [.st [AV.int s1, .af 64 xs], .st [AV.int s2, .af 64 ys]] m K := call_nil rfl fun w0 => by
  refine fn_go hmix h15 ?_
  conv => whnf
  repeat (first | (refine br.yes ?_; conv => whnf) | (refine br.no ?_; conv => whnf))
  refine rspec_DifferenceOf ?_
  unfold fcA plusF at hK
  unfold fcA
  generalize difR s1 xs s2 ys = R at hK ⊢
  conv => whnf
  repeat (first | (refine br.yes ?_; conv => whnf) | (refine br.no ?_; conv => whnf))
  refine c_l01PlusNumber ?_
  conv => whnf
  repeat (first | (refine br.yes ?_; conv => whnf) | (refine br.no ?_; conv => whnf))
  exact ⟨rfl, hK⟩
theorem oimpl_DifferenceOf {s1 s2 : Int} {xs ys : List Nat} (hK : K (fcA (plusF (difR s1 xs s2 ys))) m) : CallLeaf Try.prog w0 16 [.st [AV.int s1, .af 64 xs], .st [AV.int s2, .af 64 ys]] m K := call_nil rfl fun w0 => by
  refine fn_go hmix h16 ?_
  conv => whnf
  repeat (first | (refine br.yes ?_; conv => whnf) | (refine br.no ?_; conv => whnf))
  refine rimpl_DifferenceOf ?_
  unfold fcA plusF at hK
  unfold fcA
  generalize difR s1 xs s2 ys = R at hK ⊢
  conv => whnf
  repeat (first | (refine br.yes ?_; conv => whnf) | (refine br.no ?_; conv => whnf))
  refine c_plainF32 ?_
  conv => whnf
  repeat (first | (refine br.yes ?_; conv => whnf) | (refine br.no ?_; conv => whnf))
  exact ⟨rfl, hK⟩
set_option maxRecDepth 20000 in
theorem law_DifferenceOf {s1 s2 : Int} {xs ys : List Nat} (hx : xs.length = 64) (_ : ∀ x ∈ xs, WfF x) (hy : ys.length = 64) (_ : ∀ x ∈ ys, WfF x) (hK : ∀ m, K (AV.bool true) m) : CallLeaf Try.prog w0 4 [.st [AV.int s1, .af 64 xs], .st [AV.int s2, .af 64 ys]] [] K := by
  refine fn_go hmix h4 ?_
  conv => whnf
  repeat (first | (refine br.yes ?_; conv => whnf) | (refine br.no ?_; conv => whnf))
  obtain ⟨R, hR⟩ : ∃ R, R = plusF (difR s1 xs s2 ys) := ⟨_, rfl⟩
  refine q_keep (.st [AV.int s1, .af 64 xs]) (fun K' h => c_toPicture hx h) ?_
  conv => whnf
  repeat (first | (refine br.yes ?_; conv => whnf) | (refine br.no ?_; conv => whnf))
  refine q_keep (.st [AV.int s2, .af 64 ys]) (fun K' h => c_toPicture hy h) ?_
  conv => whnf
  repeat (first | (refine br.yes ?_; conv => whnf) | (refine br.no ?_; conv => whnf))
  refine q_keep (fcA R) (fun K' h => ospec_DifferenceOf (by rw [← hR]; exact h)) ?_
  unfold fcA
  conv => whnf
  repeat (first | (refine br.yes ?_; conv => whnf) | (refine br.no ?_; conv => whnf))
  refine q_keep (.st [AV.int s1, .af 64 xs]) (fun K' h => c_toPicture hx h) ?_
  conv => whnf
  repeat (first | (refine br.yes ?_; conv => whnf) | (refine br.no ?_; conv => whnf))
  refine q_keep (.st [AV.int s2, .af 64 ys]) (fun K' h => c_toPicture hy h) ?_
  conv => whnf
  repeat (first | (refine br.yes ?_; conv => whnf) | (refine br.no ?_; conv => whnf))
  refine q_keep (fcA R) (fun K' h => oimpl_DifferenceOf (by rw [← hR]; exact h)) ?_
  unfold fcA
  conv => whnf
  repeat (first | (refine br.yes ?_; conv => whnf) | (refine br.no ?_; conv => whnf))
  refine c_sameFloat ?_
  conv => whnf
  repeat (first | (refine br.yes ?_; conv => whnf) | (refine br.no ?_; conv => whnf))
  refine br_false (by rw [notB_eq]; rfl) ?_
  conv => whnf
  repeat (first | (refine br.yes ?_; conv => whnf) | (refine br.no ?_; conv => whnf))
  refine br_false (neq_self _) ?_
  conv => whnf
  repeat (first | (refine br.yes ?_; conv => whnf) | (refine br.no ?_; conv => whnf))
  exact hK _
end
end Go.Proofs.Ytfoflddjcijaeaa
