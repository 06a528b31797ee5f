/- Contracts of the marks that a law writes into integers. -/
import Derived.Test.YtfkbgfpidolhhaaConG
namespace Go.Proofs.Ytfkbgfpidolhhaa
open Go Go.Fw
section
variable {w0 : World} {m : MS} {K : AV → MS → Prop}
/-- the marks that a test writes into integers -/
def Marks1 (k : Int) (xs : List Int) : Prop := ∀ p, p < xs.length → xs.getD p 0 = k + p
theorem c28 {i n c r : Nat} {k : Int} {xs : List Int} (hi : getE m i = some ⟨true, .ai n xs, r⟩) (hx : xs.length = n) (hn : n ≤ 1048576) (hk0 : 0 ≤ k ∧ k ≤ 4194304)
    (hK : ∀ ys : List Int, ys.length = n → Marks1 k ys → setEK m i ⟨true, .ai n ys, r⟩ fun m => K (AV.int (k + n)) m) : CallLeaf Try.prog w0 28 [.sl i [] 1 0 n c, AV.int k] m K := by
  refine fn_go hmix h28 ?_
  conv => whnf
  repeat (first | (refine br.yes ?_; conv => whnf) | (refine br.no ?_; conv => whnf))
  refine loop_inv n (fun j ts m' => ∃ ys : List Int, ys.length = n ∧ (∀ p, p < j → ys.getD p 0 = k + p) ∧ m' = setM m i ⟨true, .ai n ys, r⟩ ∧ ts = [.sl i [] 1 0 n c, AV.int (k + j), .junk, .junk, AV.int 0, AV.int j, .junk, .junk, .junk, .junk, .junk, .junk, .junk, .junk, .junk, .junk, .junk, .junk, .junk]) [.sl i [] 1 0 n c, AV.int k, .junk, .junk, AV.int 0, AV.int 0, .junk, .junk, .junk, .junk, .junk, .junk, .junk, .junk, .junk, .junk, .junk, .junk, .junk] _ ?hw trim_no ⟨xs, hx, by intro p hp; omega, (setM_self hi).symm, by simp⟩ ?_
  case hw =>
    repeat (first | exact weak_nil | refine weak_same ?_ | refine weak_junk ?_)
  rintro j hj ts M ⟨ys, hy, hpre, hM, rfl⟩ R hR
  have hi1 : getE M i = some ⟨true, .ai n ys, r⟩ := by rw [hM]; exact getE_set hi
  obtain ⟨z, hz⟩ : ∃ z : Int, z = k + (j : Int) := ⟨_, rfl⟩
  rw [← hz]
  conv => whnf
  repeat (first | (refine br.yes ?_; conv => whnf) | (refine br.no ?_; conv => whnf))
  refine br_intro (fun h1 => ?_) (fun h1 => ?_)
  · have hj1 := lt_of_lss h1
    conv => whnf
    repeat (first | (refine br.yes ?_; conv => whnf) | (refine br.no ?_; conv => whnf))
    refine ⟨side_in ⟨by omega, by omega⟩, ?_⟩
    conv => whnf
    repeat (first | (refine br.yes ?_; conv => whnf) | (refine br.no ?_; conv => whnf))
    rw [hi1]
    conv => whnf
    repeat (first | (refine br.yes ?_; conv => whnf) | (refine br.no ?_; conv => whnf))
    refine ⟨side_in (at_lt hj1), ?_⟩
    conv => whnf
    repeat (first | (refine br.yes ?_; conv => whnf) | (refine br.no ?_; conv => whnf))
    rw [setEK_M]
    conv => whnf
    repeat (first | (refine br.yes ?_; conv => whnf) | (refine br.no ?_; conv => whnf))
    have e2 : arI .add .i64 z 1 = k + ((j + 1 : Nat) : Int) := by rw [add_lit (by omega) (by omega)]; omega
    rw [e2, add_one (by omega), upd_at, hM, set_set_ms]
    refine hR hj1 _ _ _ _ ?hw2 trim_no ⟨ys.set j z, by simp [hy], fun p hp => ?_, rfl, rfl⟩
    case hw2 =>
      repeat (first | exact weak_nil | refine weak_same ?_ | refine weak_junk ?_)
    by_cases hpj : j = p
    · subst hpj; rw [getD_set_self (by omega)]; exact hz
    · rw [getD_set_other hpj]; exact hpre p (by omega)
  · have hj2 := ge_of_lss h1
    have : j = n := by omega
    subst this
    conv => whnf
    repeat (first | (refine br.yes ?_; conv => whnf) | (refine br.no ?_; conv => whnf))
    rw [hM, hz]
    have hK := hK ys hy (fun p hp => hpre p (by omega))
    rw [setEK_M] at hK
    exact hK
theorem c28n {k : Int} (hK : K (AV.int k) m) : CallLeaf Try.prog w0 28 [nilS 1, AV.int k] m K := by
  refine fn_go hmix h28 ?_
  conv => whnf
  repeat (first | (refine br.yes ?_; conv => whnf) | (refine br.no ?_; conv => whnf))
  refine loop_inv 0 (fun j ts m' => m' = m ∧ ts = [nilS 1, AV.int k, .junk, .junk, AV.int 0, AV.int 0, .junk, .junk, .junk, .junk, .junk, .junk, .junk, .junk, .junk, .junk, .junk, .junk, .junk]) _ _ ?hw trim_no ⟨rfl, rfl⟩ ?_
  case hw =>
    repeat (first | exact weak_nil | refine weak_same ?_ | refine weak_junk ?_)
  rintro j hj ts m' ⟨rfl, rfl⟩ R hR
  conv => whnf
  repeat (first | (refine br.yes ?_; conv => whnf) | (refine br.no ?_; conv => whnf))
  refine br_false (by rw [cmI_lss]; simp) ?_
  conv => whnf
  repeat (first | (refine br.yes ?_; conv => whnf) | (refine br.no ?_; conv => whnf))
  exact hK
theorem c29n {k : Int} (hK : K (AV.int k) m) : CallLeaf Try.prog w0 29 [nilS 1, AV.int k] m K := by
  refine fn_go hmix h29 ?_
  conv => whnf
  repeat (first | (refine br.yes ?_; conv => whnf) | (refine br.no ?_; conv => whnf))
  refine loop_inv 0 (fun j ts m' => m' = m ∧ ts = [nilS 1, AV.int k, .junk, .junk, AV.int 0, AV.int 0, .junk, .junk, .junk, .junk, .junk, .junk, .junk, .junk, .junk, .junk, .junk, .junk, .junk, .junk, .junk]) _ _ ?hw trim_no ⟨rfl, rfl⟩ ?_
  case hw =>
    repeat (first | exact weak_nil | refine weak_same ?_ | refine weak_junk ?_)
  rintro j hj ts m' ⟨rfl, rfl⟩ R hR
  conv => whnf
  repeat (first | (refine br.yes ?_; conv => whnf) | (refine br.no ?_; conv => whnf))
  refine br_false (by rw [cmI_lss]; simp) ?_
  conv => whnf
  repeat (first | (refine br.yes ?_; conv => whnf) | (refine br.no ?_; conv => whnf))
  exact hK
theorem c20n (hK : K (AV.bool true) m) : CallLeaf Try.prog w0 20 [nilS 1, nilS 1] m K := by
  refine fn_go hmix h20 ?_
  conv => whnf
  repeat (first | (refine br.yes ?_; conv => whnf) | (refine br.no ?_; conv => whnf))
  refine br_false (by rw [cmI_neq]; simp) ?_
  conv => whnf
  repeat (first | (refine br.yes ?_; conv => whnf) | (refine br.no ?_; conv => whnf))
  refine loop_inv 0 (fun k ts m' => m' = m ∧ ts = [nilS 1, nilS 1, .junk, .junk, AV.bool false, AV.int 0, .junk, .junk, .junk, .junk, .junk, .junk, .junk, .junk, .junk, .junk, .junk, .junk, .junk, .junk, .junk, .junk, .junk, .junk, .junk, .junk]) _ _ ?hw trim_no ⟨rfl, rfl⟩ ?_
  case hw =>
    repeat (first | exact weak_nil | refine weak_same ?_ | refine weak_junk ?_)
  rintro k hk ts m' ⟨rfl, rfl⟩ R hR
  conv => whnf
  repeat (first | (refine br.yes ?_; conv => whnf) | (refine br.no ?_; conv => whnf))
  refine br_false (by rw [cmI_lss]; simp) ?_
  conv => whnf
  repeat (first | (refine br.yes ?_; conv => whnf) | (refine br.no ?_; conv => whnf))
  exact hK
theorem c29 {i n c r : Nat} {o : Bool} {k : Int} {xs : List Int} (hi : getE m i = some ⟨o, .ai n xs, r⟩) (hx : xs.length = n) (hn : n ≤ 1048576) (hk0 : 0 ≤ k ∧ k ≤ 4194304) (hm : Marks1 k xs)
    (hK : K (AV.int (k + n)) m) : CallLeaf Try.prog w0 29 [.sl i [] 1 0 n c, AV.int k] m K := by
  refine fn_go hmix h29 ?_
  conv => whnf
  repeat (first | (refine br.yes ?_; conv => whnf) | (refine br.no ?_; conv => whnf))
  refine loop_inv n (fun j ts m' => m' = m ∧ ts = [.sl i [] 1 0 n c, AV.int (k + j), .junk, .junk, AV.int 0, AV.int j, .junk, .junk, .junk, .junk, .junk, .junk, .junk, .junk, .junk, .junk, .junk, .junk, .junk, .junk, .junk]) [.sl i [] 1 0 n c, AV.int k, .junk, .junk, AV.int 0, AV.int 0, .junk, .junk, .junk, .junk, .junk, .junk, .junk, .junk, .junk, .junk, .junk, .junk, .junk, .junk, .junk] _ ?hw trim_no ⟨rfl, by simp⟩ ?_
  case hw =>
    repeat (first | exact weak_nil | refine weak_same ?_ | refine weak_junk ?_)
  rintro j hj ts m' ⟨rfl, rfl⟩ R hR
  conv => whnf
  repeat (first | (refine br.yes ?_; conv => whnf) | (refine br.no ?_; conv => whnf))
  refine br_intro (fun h1 => ?_) (fun h1 => ?_)
  · have hj1 := lt_of_lss h1
    have hmj := hm j (by omega)
    conv => whnf
    repeat (first | (refine br.yes ?_; conv => whnf) | (refine br.no ?_; conv => whnf))
    refine ⟨side_in ⟨by omega, by omega⟩, ?_⟩
    conv => whnf
    repeat (first | (refine br.yes ?_; conv => whnf) | (refine br.no ?_; conv => whnf))
    rw [hi]
    conv => whnf
    repeat (first | (refine br.yes ?_; conv => whnf) | (refine br.no ?_; conv => whnf))
    refine ⟨side_in (at_lt hj1), ?_⟩
    rw [nth_at, hmj]
    conv => whnf
    repeat (first | (refine br.yes ?_; conv => whnf) | (refine br.no ?_; conv => whnf))
    refine br_false (by rw [cmI_neq]; simp) ?_
    conv => whnf
    repeat (first | (refine br.yes ?_; conv => whnf) | (refine br.no ?_; conv => whnf))
    have e2 : arI .add .i64 (k + (j : Int)) 1 = k + ((j + 1 : Nat) : Int) := by rw [add_lit (by omega) (by omega)]; omega
    rw [e2, add_one (by omega)]
    refine hR hj1 _ _ _ _ ?hw2 trim_no ⟨rfl, rfl⟩
    case hw2 =>
      repeat (first | exact weak_nil | refine weak_same ?_ | refine weak_junk ?_)
  · have hj2 := ge_of_lss h1
    have : j = n := by omega
    subst this
    conv => whnf
    repeat (first | (refine br.yes ?_; conv => whnf) | (refine br.no ?_; conv => whnf))
    exact hK
end
end Go.Proofs.Ytfkbgfpidolhhaa
