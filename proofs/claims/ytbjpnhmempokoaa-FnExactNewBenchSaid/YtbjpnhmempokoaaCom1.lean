/- Contracts of functions, by a walk each. -/
import Derived.Test.YtbjpnhmempokoaaCode
namespace Go.Proofs.Ytbjpnhmempokoaa
open Go Go.Fw
section
variable {w0 : World} {m : MS} {K : AV → MS → Prop}
/-! what the functions of integers answer -/
def inR (x lo hi : Int) : Bool := decide (lo ≤ x) && decide (x ≤ hi)
theorem inR_t {x lo hi : Int} (h : cmI .geq x lo = true) : inR x lo hi = cmI .leq x hi := by
  rw [cmI_geq] at h; rw [cmI_leq]; simp at h; simp [inR, h]
theorem inR_f {x lo hi : Int} (h : cmI .geq x lo = false) : inR x lo hi = false := by
  rw [cmI_geq] at h; simp at h; simp [inR]; omega
theorem K_bool {a b : Bool} (hK : K (AV.bool a) m) (h : a = b) : K (AV.bool b) m := h ▸ hK
theorem K_int {a b : Int} (hK : K (AV.int a) m) (h : a = b) : K (AV.int b) m := h ▸ hK
theorem neq_self (x : Int) : cmI .neq x x = false := by rw [cmI_neq]; simp
theorem c_l01In {x lo hi : Int} (hK : K (AV.bool (inR x lo hi)) m) : CallLeaf Try.prog w0 47 [AV.int x, AV.int lo, AV.int hi] m K := by
  refine fn_go hmix h47 ?_
  conv => whnf
  repeat (first | (refine br.yes ?_; conv => whnf) | (refine br.no ?_; conv => whnf))
  refine br_intro (fun h => ?_) (fun h => ?_)
  · conv => whnf
    repeat (first | (refine br.yes ?_; conv => whnf) | (refine br.no ?_; conv => whnf))
    rw [inR_t h] at hK; exact hK
  · conv => whnf
    repeat (first | (refine br.yes ?_; conv => whnf) | (refine br.no ?_; conv => whnf))
    rw [inR_f h] at hK; exact hK
theorem c_within {x lo hi : Int} (hK : K (AV.bool (inR x lo hi)) m) : CallLeaf Try.prog w0 51 [AV.int x, AV.int lo, AV.int hi] m K := by
  refine fn_go hmix h51 ?_
  conv => whnf
  repeat (first | (refine br.yes ?_; conv => whnf) | (refine br.no ?_; conv => whnf))
  refine br_intro (fun h => ?_) (fun h => ?_)
  · conv => whnf
    repeat (first | (refine br.yes ?_; conv => whnf) | (refine br.no ?_; conv => whnf))
    rw [inR_t h] at hK; exact hK
  · conv => whnf
    repeat (first | (refine br.yes ?_; conv => whnf) | (refine br.no ?_; conv => whnf))
    rw [inR_f h] at hK; exact hK
def isSide (n : Int) : Bool := decide (n = 1) || decide (n = 2) || decide (n = 4) || decide (n = 8)
theorem c_l01Side {n : Int} (hK : K (AV.bool (isSide n)) m) : CallLeaf Try.prog w0 46 [AV.int n] m K := by
  refine fn_go hmix h46 ?_
  conv => whnf
  repeat (first | (refine br.yes ?_; conv => whnf) | (refine br.no ?_; conv => whnf))
  refine br_intro (fun h1 => ?_) (fun h1 => ?_)
  · conv => whnf
    repeat (first | (refine br.yes ?_; conv => whnf) | (refine br.no ?_; conv => whnf))
    exact K_bool hK (by rw [cmI_eql] at h1; simp at h1; simp [isSide, h1])
  conv => whnf
  repeat (first | (refine br.yes ?_; conv => whnf) | (refine br.no ?_; conv => whnf))
  refine br_intro (fun h2 => ?_) (fun h2 => ?_)
  · conv => whnf
    repeat (first | (refine br.yes ?_; conv => whnf) | (refine br.no ?_; conv => whnf))
    exact K_bool hK (by rw [cmI_eql] at h2; simp at h2; simp [isSide, h2])
  conv => whnf
  repeat (first | (refine br.yes ?_; conv => whnf) | (refine br.no ?_; conv => whnf))
  refine br_intro (fun h3 => ?_) (fun h3 => ?_)
  · conv => whnf
    repeat (first | (refine br.yes ?_; conv => whnf) | (refine br.no ?_; conv => whnf))
    exact K_bool hK (by rw [cmI_eql] at h3; simp at h3; simp [isSide, h3])
  conv => whnf
  repeat (first | (refine br.yes ?_; conv => whnf) | (refine br.no ?_; conv => whnf))
  exact K_bool hK (by rw [cmI_eql] at *; simp at h1 h2 h3; simp [isSide, h1, h2, h3])
theorem c_isSide {n : Int} (hK : K (AV.bool (isSide n)) m) : CallLeaf Try.prog w0 50 [AV.int n] m K := by
  refine fn_go hmix h50 ?_
  conv => whnf
  repeat (first | (refine br.yes ?_; conv => whnf) | (refine br.no ?_; conv => whnf))
  refine br_intro (fun h1 => ?_) (fun h1 => ?_)
  · conv => whnf
    repeat (first | (refine br.yes ?_; conv => whnf) | (refine br.no ?_; conv => whnf))
    exact K_bool hK (by rw [cmI_eql] at h1; simp at h1; simp [isSide, h1])
  conv => whnf
  repeat (first | (refine br.yes ?_; conv => whnf) | (refine br.no ?_; conv => whnf))
  refine br_intro (fun h2 => ?_) (fun h2 => ?_)
  · conv => whnf
    repeat (first | (refine br.yes ?_; conv => whnf) | (refine br.no ?_; conv => whnf))
    exact K_bool hK (by rw [cmI_eql] at h2; simp at h2; simp [isSide, h2])
  conv => whnf
  repeat (first | (refine br.yes ?_; conv => whnf) | (refine br.no ?_; conv => whnf))
  refine br_intro (fun h3 => ?_) (fun h3 => ?_)
  · conv => whnf
    repeat (first | (refine br.yes ?_; conv => whnf) | (refine br.no ?_; conv => whnf))
    exact K_bool hK (by rw [cmI_eql] at h3; simp at h3; simp [isSide, h3])
  conv => whnf
  repeat (first | (refine br.yes ?_; conv => whnf) | (refine br.no ?_; conv => whnf))
  exact K_bool hK (by rw [cmI_eql] at *; simp at h1 h2 h3; simp [isSide, h1, h2, h3])
theorem side_nat {n : Int} (h : isSide n = true) : ∃ N : Nat, n = N ∧ N ≤ 8 ∧ 0 < N := by
  simp [isSide] at h
  exact ⟨n.toNat, by omega, by omega, by omega⟩
/-! sums and products of small numbers -/
theorem mul_nat {a b : Nat} (ha : a ≤ 1048576) (hb : b ≤ 1048576) : arI .mul .i64 (a : Int) (b : Int) = ((a * b : Nat) : Int) := by
  have h : a * b ≤ 1048576 * 1048576 := Nat.mul_le_mul ha hb
  have h2 : ((a : Int) * (b : Int)) = ((a * b : Nat) : Int) := by simp
  rw [arI_mul, h2, wrap_fits (by omega) (by omega)]
theorem add_nat {a b : Nat} (ha : a ≤ 1048576) (hb : b ≤ 1048576) : arI .add .i64 (a : Int) (b : Int) = ((a + b : Nat) : Int) := by
  have h2 : ((a : Int) + (b : Int)) = ((a + b : Nat) : Int) := by simp
  rw [arI_add, h2, wrap_fits (by omega) (by omega)]
theorem sub_one {a : Nat} (h1 : 0 < a) (ha : a ≤ 1048576) : arI .sub .i64 (a : Int) 1 = ((a - 1 : Nat) : Int) := by
  rw [arI_sub, wrap_fits (by omega) (by omega)]; omega
theorem quo_nat {a b : Nat} (ha : a ≤ 1048576) : arI .quo .i64 (a : Int) (b : Int) = ((a / b : Nat) : Int) := by
  have h : a / b ≤ a := Nat.div_le_self a b
  rw [arI_quo, ← Int.ofNat_tdiv]
  generalize a / b = q at h
  exact wrap_fits (by omega) (by omega)
theorem rem_nat (a b : Nat) : arI .rem .i64 (a : Int) (b : Int) = ((a % b : Nat) : Int) := by
  rw [arI_rem, ← Int.ofNat_tmod]
/-! two floats that are one are the same to the laws -/
theorem cmF_self {k : FloatKind} {a : Nat} (h : cmF .neq k a a = false) : cmF .eql k a a = true := by
  unfold cmF at *; simpa using h
set_option maxRecDepth 20000 in
theorem c_sameFloat {a : Nat} (hK : K (AV.bool true) m) : CallLeaf Try.prog w0 84 [.flt .f64 a, .flt .f64 a] m K := by
  refine fn_go hmix h84 ?_
  conv => whnf
  repeat (first | (refine br.yes ?_; conv => whnf) | (refine br.no ?_; conv => whnf))
  refine br_intro (fun h => ?_) (fun h => ?_)
  · conv => whnf
    repeat (first | (refine br.yes ?_; conv => whnf) | (refine br.no ?_; conv => whnf))
    refine br_true h ?_
    conv => whnf
    repeat (first | (refine br.yes ?_; conv => whnf) | (refine br.no ?_; conv => whnf))
    exact K_bool hK h.symm
  · conv => whnf
    repeat (first | (refine br.yes ?_; conv => whnf) | (refine br.no ?_; conv => whnf))
    refine br_false h ?_
    conv => whnf
    repeat (first | (refine br.yes ?_; conv => whnf) | (refine br.no ?_; conv => whnf))
    refine br_intro (fun h2 => ?_) (fun h2 => ?_)
    · conv => whnf
      repeat (first | (refine br.yes ?_; conv => whnf) | (refine br.no ?_; conv => whnf))
      refine br_true h2 ?_
      conv => whnf
      repeat (first | (refine br.yes ?_; conv => whnf) | (refine br.no ?_; conv => whnf))
      exact K_bool hK (by rw [eqB_eq]; simp)
    · conv => whnf
      repeat (first | (refine br.yes ?_; conv => whnf) | (refine br.no ?_; conv => whnf))
      exact K_bool hK (cmF_self h).symm
theorem c_sameComplex {a b : Nat} (hK : K (AV.bool true) m) : CallLeaf Try.prog w0 61 [.cpx .f64 a b, .cpx .f64 a b] m K := by
  refine fn_go hmix h61 ?_
  conv => whnf
  repeat (first | (refine br.yes ?_; conv => whnf) | (refine br.no ?_; conv => whnf))
  refine c_sameFloat ?_
  conv => whnf
  repeat (first | (refine br.yes ?_; conv => whnf) | (refine br.no ?_; conv => whnf))
  refine c_sameFloat ?_
  conv => whnf
  repeat (first | (refine br.yes ?_; conv => whnf) | (refine br.no ?_; conv => whnf))
  exact hK
set_option maxRecDepth 20000 in
theorem c_eqCells {xs : List (Nat × Nat)} (hK : K (AV.bool true) m) : CallLeaf Try.prog w0 30 [.ac 64 xs, .ac 64 xs] m K := call_nil rfl fun w0 => by
  refine fn_go hmix h30 ?_
  conv => whnf
  repeat (first | (refine br.yes ?_; conv => whnf) | (refine br.no ?_; conv => whnf))
  refine loop_inv 64 (fun k ts m => m = [⟨true, .ac 64 xs, 0⟩, ⟨true, .ac 64 xs, 0⟩] ∧ ts = [.junk, .junk, .ptr 0 [], .ptr 1 [], AV.bool false, AV.int k, .junk, .junk, .junk, .junk, .junk, .junk, .junk, .junk, .junk, .junk, .junk, .junk, .junk, .junk]) _ _ ?hw trim_no ⟨rfl, rfl⟩ ?_
  case hw =>
    repeat (first | exact weak_nil | refine weak_same ?_ | refine weak_junk ?_)
  rintro k hk ts m' ⟨rfl, rfl⟩ R hR
  conv => whnf
  repeat (first | (refine br.yes ?_; conv => whnf) | (refine br.no ?_; conv => whnf))
  refine br_intro (fun h1 => ?_) (fun h1 => ?_)
  · have hk1 : k < 64 := lt_of_lss (n := 64) h1
    conv => whnf
    repeat (first | (refine br.yes ?_; conv => whnf) | (refine br.no ?_; conv => whnf))
    refine ⟨side_in ⟨by omega, by omega⟩, ?_⟩
    conv => whnf
    repeat (first | (refine br.yes ?_; conv => whnf) | (refine br.no ?_; conv => whnf))
    refine ⟨side_in (by rw [toN_nat]; exact hk1), ?_⟩
    conv => whnf
    repeat (first | (refine br.yes ?_; conv => whnf) | (refine br.no ?_; conv => whnf))
    refine ⟨side_in ⟨by omega, by omega⟩, ?_⟩
    conv => whnf
    repeat (first | (refine br.yes ?_; conv => whnf) | (refine br.no ?_; conv => whnf))
    refine ⟨side_in (by rw [toN_nat]; exact hk1), ?_⟩
    conv => whnf
    repeat (first | (refine br.yes ?_; conv => whnf) | (refine br.no ?_; conv => whnf))
    refine q_keep (AV.bool true) (fun K' h => c_sameComplex h) ?_
    conv => whnf
    repeat (first | (refine br.yes ?_; conv => whnf) | (refine br.no ?_; conv => whnf))
    refine br_false (by rw [notB_eq]; rfl) ?_
    conv => whnf
    repeat (first | (refine br.yes ?_; conv => whnf) | (refine br.no ?_; conv => whnf))
    rw [add_one (by omega)]
    refine hR hk1 _ _ _ _ ?hw2 trim_no ⟨rfl, rfl⟩
    case hw2 =>
      repeat (first | exact weak_nil | refine weak_same ?_ | refine weak_junk ?_)
  · conv => whnf
    repeat (first | (refine br.yes ?_; conv => whnf) | (refine br.no ?_; conv => whnf))
    exact ⟨rfl, hK⟩
set_option maxRecDepth 20000 in
theorem c_eqWave {s : Int} {xs : List (Nat × Nat)} (hK : K (AV.bool true) m) : CallLeaf Try.prog w0 12 [.st [AV.int s, .ac 64 xs], .st [AV.int s, .ac 64 xs]] m K := call_nil rfl fun w0 => by
  refine fn_go hmix h12 ?_
  conv => whnf
  repeat (first | (refine br.yes ?_; conv => whnf) | (refine br.no ?_; conv => whnf))
  refine br_false (neq_self _) ?_
  conv => whnf
  repeat (first | (refine br.yes ?_; conv => whnf) | (refine br.no ?_; conv => whnf))
  refine c_eqCells ?_
  conv => whnf
  repeat (first | (refine br.yes ?_; conv => whnf) | (refine br.no ?_; conv => whnf))
  refine br_false (by rw [notB_eq]; rfl) ?_
  conv => whnf
  repeat (first | (refine br.yes ?_; conv => whnf) | (refine br.no ?_; conv => whnf))
  exact ⟨rfl, hK⟩
end
end Go.Proofs.Ytbjpnhmempokoaa
