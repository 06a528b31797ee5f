/- Contracts of functions, by a walk each. -/
import Derived.Test.YtpcakgdagmcopaaCode
namespace Go.Proofs.Ytpcakgdagmcopaa
open Go Go.Fw
section
variable {w0 : World} {m : MS} {K : AV → MS → Prop}
/-! what the functions of integers answer -/
def inR (x lo hi : Int) : Bool := decide (lo ≤ x) && decide (x ≤ hi)
theorem inR_t {x lo hi : Int} (h : cmI .geq x lo = true) : inR x lo hi = cmI .leq x hi := by
  rw [cmI_geq] at h; rw [cmI_leq]; simp at h; simp [inR, h]
theorem inR_f {x lo hi : Int} (h : cmI .geq x lo = false) : inR x lo hi = false := by
  rw [cmI_geq] at h; simp at h; simp [inR]; omega
theorem K_bool {a b : Bool} (hK : K (AV.bool a) m) (h : a = b) : K (AV.bool b) m := h ▸ hK
theorem K_int {a b : Int} (hK : K (AV.int a) m) (h : a = b) : K (AV.int b) m := h ▸ hK
theorem neq_self (x : Int) : cmI .neq x x = false := by rw [cmI_neq]; simp
theorem c_l01In {x lo hi : Int} (hK : K (AV.bool (inR x lo hi)) m) : CallLeaf Try.prog w0 20 [AV.int x, AV.int lo, AV.int hi] m K := by
  refine fn_go hmix h20 ?_
  conv => whnf
  repeat (first | (refine br.yes ?_; conv => whnf) | (refine br.no ?_; conv => whnf))
  refine br_intro (fun h => ?_) (fun h => ?_)
  · conv => whnf
    repeat (first | (refine br.yes ?_; conv => whnf) | (refine br.no ?_; conv => whnf))
    rw [inR_t h] at hK; exact hK
  · conv => whnf
    repeat (first | (refine br.yes ?_; conv => whnf) | (refine br.no ?_; conv => whnf))
    rw [inR_f h] at hK; exact hK
theorem c_within {x lo hi : Int} (hK : K (AV.bool (inR x lo hi)) m) : CallLeaf Try.prog w0 39 [AV.int x, AV.int lo, AV.int hi] m K := by
  refine fn_go hmix h39 ?_
  conv => whnf
  repeat (first | (refine br.yes ?_; conv => whnf) | (refine br.no ?_; conv => whnf))
  refine br_intro (fun h => ?_) (fun h => ?_)
  · conv => whnf
    repeat (first | (refine br.yes ?_; conv => whnf) | (refine br.no ?_; conv => whnf))
    rw [inR_t h] at hK; exact hK
  · conv => whnf
    repeat (first | (refine br.yes ?_; conv => whnf) | (refine br.no ?_; conv => whnf))
    rw [inR_f h] at hK; exact hK
def isSide (n : Int) : Bool := decide (n = 1) || decide (n = 2) || decide (n = 4) || decide (n = 8)
theorem side_nat {n : Int} (h : isSide n = true) : ∃ N : Nat, n = N ∧ N ≤ 8 ∧ 0 < N := by
  simp [isSide] at h
  exact ⟨n.toNat, by omega, by omega, by omega⟩
/-! sums and products of small numbers -/
theorem mul_nat {a b : Nat} (ha : a ≤ 1048576) (hb : b ≤ 1048576) : arI .mul .i64 (a : Int) (b : Int) = ((a * b : Nat) : Int) := by
  have h : a * b ≤ 1048576 * 1048576 := Nat.mul_le_mul ha hb
  have h2 : ((a : Int) * (b : Int)) = ((a * b : Nat) : Int) := by simp
  rw [arI_mul, h2, wrap_fits (by omega) (by omega)]
theorem add_nat {a b : Nat} (ha : a ≤ 1048576) (hb : b ≤ 1048576) : arI .add .i64 (a : Int) (b : Int) = ((a + b : Nat) : Int) := by
  have h2 : ((a : Int) + (b : Int)) = ((a + b : Nat) : Int) := by simp
  rw [arI_add, h2, wrap_fits (by omega) (by omega)]
theorem sub_one {a : Nat} (h1 : 0 < a) (ha : a ≤ 1048576) : arI .sub .i64 (a : Int) 1 = ((a - 1 : Nat) : Int) := by
  rw [arI_sub, wrap_fits (by omega) (by omega)]; omega
theorem quo_nat {a b : Nat} (ha : a ≤ 1048576) : arI .quo .i64 (a : Int) (b : Int) = ((a / b : Nat) : Int) := by
  have h : a / b ≤ a := Nat.div_le_self a b
  rw [arI_quo, ← Int.ofNat_tdiv]
  generalize a / b = q at h
  exact wrap_fits (by omega) (by omega)
theorem rem_nat (a b : Nat) : arI .rem .i64 (a : Int) (b : Int) = ((a % b : Nat) : Int) := by
  rw [arI_rem, ← Int.ofNat_tmod]
/-! two floats that are one are the same to the laws -/
theorem cmF_self {k : FloatKind} {a : Nat} (h : cmF .neq k a a = false) : cmF .eql k a a = true := by
  unfold cmF at *; simpa using h
set_option maxRecDepth 20000 in
theorem c_sameFloat {a : Nat} (hK : K (AV.bool true) m) : CallLeaf Try.prog w0 28 [.flt .f64 a, .flt .f64 a] m K := by
  refine fn_go hmix h28 ?_
  conv => whnf
  repeat (first | (refine br.yes ?_; conv => whnf) | (refine br.no ?_; conv => whnf))
  refine br_intro (fun h => ?_) (fun h => ?_)
  · conv => whnf
    repeat (first | (refine br.yes ?_; conv => whnf) | (refine br.no ?_; conv => whnf))
    refine br_true h ?_
    conv => whnf
    repeat (first | (refine br.yes ?_; conv => whnf) | (refine br.no ?_; conv => whnf))
    exact K_bool hK h.symm
  · conv => whnf
    repeat (first | (refine br.yes ?_; conv => whnf) | (refine br.no ?_; conv => whnf))
    refine br_false h ?_
    conv => whnf
    repeat (first | (refine br.yes ?_; conv => whnf) | (refine br.no ?_; conv => whnf))
    refine br_intro (fun h2 => ?_) (fun h2 => ?_)
    · conv => whnf
      repeat (first | (refine br.yes ?_; conv => whnf) | (refine br.no ?_; conv => whnf))
      refine br_true h2 ?_
      conv => whnf
      repeat (first | (refine br.yes ?_; conv => whnf) | (refine br.no ?_; conv => whnf))
      exact K_bool hK (by rw [eqB_eq]; simp)
    · conv => whnf
      repeat (first | (refine br.yes ?_; conv => whnf) | (refine br.no ?_; conv => whnf))
      exact K_bool hK (cmF_self h).symm
/-! zeros made positive -/
def plusN (x : Nat) : Nat := if cmF .eql .f32 x 0 = true then 0 else x
theorem plusN_t {x : Nat} (h : cmF .eql .f32 x 0 = true) : plusN x = 0 := by simp [plusN, h]
theorem plusN_f {x : Nat} (h : cmF .eql .f32 x 0 = false) : plusN x = x := by simp [plusN, h]
theorem c_l01PlusNumber {x : Nat} (hK : K (.flt .f32 (plusN x)) m) : CallLeaf Try.prog w0 45 [.flt .f32 x] m K := by
  refine fn_go hmix h45 ?_
  conv => whnf
  repeat (first | (refine br.yes ?_; conv => whnf) | (refine br.no ?_; conv => whnf))
  refine br_intro (fun h => ?_) (fun h => ?_)
  · conv => whnf
    repeat (first | (refine br.yes ?_; conv => whnf) | (refine br.no ?_; conv => whnf))
    rw [plusN_t h] at hK; exact hK
  · conv => whnf
    repeat (first | (refine br.yes ?_; conv => whnf) | (refine br.no ?_; conv => whnf))
    rw [plusN_f h] at hK; exact hK
theorem c_plainNumber {x : Nat} (hK : K (.flt .f32 (plusN x)) m) : CallLeaf Try.prog w0 48 [.flt .f32 x] m K := by
  refine fn_go hmix h48 ?_
  conv => whnf
  repeat (first | (refine br.yes ?_; conv => whnf) | (refine br.no ?_; conv => whnf))
  refine br_intro (fun h => ?_) (fun h => ?_)
  · conv => whnf
    repeat (first | (refine br.yes ?_; conv => whnf) | (refine br.no ?_; conv => whnf))
    rw [plusN_t h] at hK; exact hK
  · conv => whnf
    repeat (first | (refine br.yes ?_; conv => whnf) | (refine br.no ?_; conv => whnf))
    rw [plusN_f h] at hK; exact hK
/-- the first so many turned -/
def mapTo {α : Type} (f : α → α) (xs : List α) (k : Nat) : List α := (xs.take k).map f ++ xs.drop k
theorem mapTo_zero {α : Type} (f : α → α) (xs : List α) : mapTo f xs 0 = xs := by simp [mapTo]
theorem mapTo_all {α : Type} (f : α → α) {xs : List α} {n : Nat} (h : xs.length = n) : mapTo f xs n = xs.map f := by
  unfold mapTo; rw [List.take_of_length_le (by omega), List.drop_eq_nil_of_le (by omega)]; simp
theorem mapTo_length {α : Type} (f : α → α) (xs : List α) (k : Nat) : (mapTo f xs k).length = xs.length := by unfold mapTo; simp; omega
theorem mapTo_get {α : Type} (f : α → α) {xs : List α} {k : Nat} (d : α) : (mapTo f xs k).getD k d = xs.getD k d := by
  unfold mapTo
  simp only [List.getD_eq_getElem?_getD]
  rcases Nat.lt_or_ge k xs.length with h | h
  · rw [List.getElem?_append_right (by simp; omega)]
    simp [show min k xs.length = k by omega]
  · rw [List.getElem?_eq_none (by simp; omega), List.getElem?_eq_none h]
theorem mapTo_set {α : Type} (f : α → α) {xs : List α} {k : Nat} (d : α) (h : k < xs.length) : (mapTo f xs k).set k (f (xs.getD k d)) = mapTo f xs (k + 1) := by
  unfold mapTo
  have e : xs.drop k = xs[k] :: xs.drop (k + 1) := List.drop_eq_getElem_cons h
  rw [e, List.set_append_right _ _ (by simp; omega), List.take_add_one]
  have h1 : k - ((xs.take k).map f).length = 0 := by simp; omega
  rw [h1, List.set_cons_zero, List.map_append, List.append_assoc]
  have h2 : xs[k]? = some xs[k] := List.getElem?_eq_getElem h
  simp only [h2, Option.toList_some, List.map_cons, List.map_nil, List.cons_append, List.nil_append, List.getD_eq_getElem?_getD, Option.getD_some]

end
end Go.Proofs.Ytpcakgdagmcopaa
