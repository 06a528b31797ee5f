/- Contracts of functions, by a walk each. -/
import Derived.Test.YtfkbgfpidolhhaaCov
namespace Go.Proofs.Ytfkbgfpidolhhaa
open Go Go.Fw
section
variable {w0 : World} {m : MS} {K : AV → MS → Prop}
set_option maxRecDepth 20000 in
set_option maxHeartbeats 3200000 in
theorem rimpl_Cov {n k : Int} {l c : Nat} {xs : List (Int × Int)} (hx : xs.length = l) (hl : l ≤ 1048576) (k1 : covOk n k xs = false → ∀ m, K (.tup [nilS 1, AV.int 2]) m)
    (k2 : ∀ N : Nat, n = N → covOk n k xs = true → K (.tup [.sl 1 [] 1 0 (N * N) (N * N), AV.int 0]) [⟨false, .ap l xs, 0⟩, ⟨true, .ai (N * N) (covL n k xs), N * N⟩]) : CallLeaf Try.prog w0 35 [AV.int n, AV.int k, .sl 0 [] 2 0 l c] [⟨false, .ap l xs, 0⟩] K := by
  refine fn_go hmix h35 ?_
  conv => whnf
  repeat (first | (refine br.yes ?_; conv => whnf) | (refine br.no ?_; conv => whnf))
  refine c_areSides ?_
  conv => whnf
  repeat (first | (refine br.yes ?_; conv => whnf) | (refine br.no ?_; conv => whnf))
  refine br_intro (fun h => ?_) (fun h => ?_)
  · have k1 := k1 (by rw [notB_eq] at h; simp only [Bool.not_eq_true'] at h; unfold covOk; rw [h]; rfl)
    conv => whnf
    repeat (first | (refine br.yes ?_; conv => whnf) | (refine br.no ?_; conv => whnf))
    exact k1 _
  conv => whnf
  repeat (first | (refine br.yes ?_; conv => whnf) | (refine br.no ?_; conv => whnf))
  refine c_arePlaces (i := 0) rfl hx hl ?_
  conv => whnf
  repeat (first | (refine br.yes ?_; conv => whnf) | (refine br.no ?_; conv => whnf))
  refine br_intro (fun h2 => ?_) (fun h2 => ?_)
  · have k1 := k1 (by rw [notB_eq] at h2; simp only [Bool.not_eq_true'] at h2; unfold covOk; rw [h2]; simp)
    conv => whnf
    repeat (first | (refine br.yes ?_; conv => whnf) | (refine br.no ?_; conv => whnf))
    exact k1 _
  have q0 : (isSide n && isSide k && decide (k ≤ n)) = true := by rw [notB_eq] at h; simpa using h
  have q9 : (decide (xs.length ≤ 20) && xs.all (plOk n)) = true := by rw [notB_eq] at h2; simpa using h2
  have hok : covOk n k xs = true := by unfold covOk; rw [q0, q9]; rfl
  simp only [Bool.and_eq_true, decide_eq_true_eq] at q0 q9
  obtain ⟨⟨q1, q2⟩, q3⟩ := q0
  obtain ⟨q4, q5⟩ := q9
  obtain ⟨N, rfl, hN8, hN0⟩ := side_nat q1
  obtain ⟨M, rfl, hM8, hM0⟩ := side_nat q2
  have hMN : M ≤ N := by omega
  have hNN := sq_le hN8
  have hMM := sq_le hM8
  have k2 := k2 N rfl hok
  unfold covL at k2
  simp only [Int.toNat_natCast] at k2
  conv => whnf
  repeat (first | (refine br.yes ?_; conv => whnf) | (refine br.no ?_; conv => whnf))
  rw [mul_nat (by omega) (by omega)]
  refine ⟨side_in ⟨rfl, by omega, by omega⟩, ?_⟩
  conv => whnf
  repeat (first | (refine br.yes ?_; conv => whnf) | (refine br.no ?_; conv => whnf))
  rw [toN_nat, mulN_i]
  refine loop_opq l (fun p ts m => m = [⟨false, .ap l xs, 0⟩, ⟨true, .ai (N * N) (covA N M xs p), N * N⟩] ∧ ts = [AV.int N, AV.int M, .sl 0 [] 2 0 l c, .junk, .junk, .junk, nilS 1, AV.int 0, .sl 1 [] 1 0 (N * N) (N * N), .junk, .junk, .junk, .junk, .junk, .junk, .junk, .junk, .junk, .junk, .junk, .junk, .junk, .junk, .junk, .junk, .junk, .sl 0 [] 2 0 l c, AV.int l, AV.int p, .junk, .junk, .junk, .junk, .junk, .junk, .junk, .junk, .junk, .junk, .junk, .junk, .junk, .junk, .junk, .junk, .junk, .junk, .junk, .junk, .junk, .junk, .junk, .junk, .junk, .junk]) _ _ ?hw (.inl rfl) ⟨rfl, rfl⟩ ?_
  case hw =>
    repeat (first | exact weak_nil | refine weak_same ?_ | refine weak_junk ?_)
  rintro p hp ts m' ⟨rfl, rfl⟩ R hR K0 n0 r0 e0
  conv => whnf
  repeat (first | (refine br.yes ?_; conv => whnf) | (refine br.no ?_; conv => whnf))
  refine br_intro (fun g1 => ?_) (fun g1 => ?_)
  · have hp1 := lt_of_lss g1
    conv => whnf
    repeat (first | (refine br.yes ?_; conv => whnf) | (refine br.no ?_; conv => whnf))
    refine ⟨side_in ⟨by omega, by omega⟩, ?_⟩
    conv => whnf
    repeat (first | (refine br.yes ?_; conv => whnf) | (refine br.no ?_; conv => whnf))
    refine ⟨side_in (at_lt hp1), ?_⟩
    rw [nth_at]
    obtain ⟨P, hP⟩ : ∃ P, P = xs.getD p (0, 0) := ⟨_, rfl⟩
    have hpl : plOk N P = true := by rw [hP]; exact cov_place q5 (by omega)
    rw [← hP]
    obtain ⟨pr, pc, hpr, hpc, hr8, hc8⟩ := pl_nat (a := P.1) (b := P.2) hN0 hN8 hpl
    have hcl : ∀ y x, cellI N P y x = cellI N ((pr : Int), (pc : Int)) y x := fun y x => by unfold cellI; rw [hpr, hpc]
    obtain ⟨out, hout⟩ : ∃ out, out = covA N M xs p := ⟨_, rfl⟩
    have holen : out.length = N * N := by rw [hout]; exact covA_length _
    rw [← hout, hpr, hpc]
    conv => whnf
    repeat (first | (refine br.yes ?_; conv => whnf) | (refine br.no ?_; conv => whnf))
    rw [mul_nat (by omega) (by omega)]
    refine loop_opq (M * M) (fun t ts m => m = [⟨false, .ap l xs, 0⟩, ⟨true, .ai (N * N) (covP N M P out t), N * N⟩, ⟨true, .st [AV.int pr, AV.int pc], 0⟩] ∧ ts = [AV.int N, AV.int M, .sl 0 [] 2 0 l c, .junk, .junk, .junk, nilS 1, AV.int 0, .sl 1 [] 1 0 (N * N) (N * N), .junk, .ptr 2 [], .junk, .junk, .junk, .junk, .junk, .junk, .junk, .junk, .junk, .junk, .junk, .junk, .junk, .junk, .junk, .sl 0 [] 2 0 l c, AV.int l, AV.int p, .junk, .junk, .junk, .junk, .junk, AV.int (M * M : Nat), AV.int t, .junk, .junk, .junk, .junk, .junk, .junk, .junk, .junk, .junk, .junk, .junk, .junk, .junk, .junk, .junk, .junk, .junk, .junk, .junk]) _ _ ?hw2 (.inl rfl) ⟨rfl, rfl⟩ ?_
    case hw2 =>
      repeat (first | exact weak_nil | refine weak_same ?_ | refine weak_junk ?_)
    rintro t ht ts m' ⟨rfl, rfl⟩ R2 hR2 K1 n1 r1 e1'
    conv => whnf
    repeat (first | (refine br.yes ?_; conv => whnf) | (refine br.no ?_; conv => whnf))
    refine br_intro (fun g3 => ?_) (fun g3 => ?_)
    · have ht1 : t < M * M := lt_of_lss g3
      have hMi : (M : Int) ≠ 0 := by omega
      have hci := cellI_lt (N := N) (y := t / M) (x := t % M) (at' := P) hN0
      have hy8 : t / M ≤ 64 := Nat.le_trans (Nat.div_le_self t M) (by omega)
      have hx8 : t % M ≤ 64 := Nat.le_trans (Nat.mod_le t M) (by omega)
      have hstep : covP N M P out (t + 1) = covSet (covP N M P out t) (cellI N P (t / M) (t % M)) := rfl
      obtain ⟨ci, hce⟩ : ∃ ci, ci = cellI N P (t / M) (t % M) := ⟨_, rfl⟩
      rw [← hce] at hstep hci
      conv => whnf
      repeat (first | (refine br.yes ?_; conv => whnf) | (refine br.no ?_; conv => whnf))
      refine ⟨side_in hMi, ?_⟩
      conv => whnf
      repeat (first | (refine br.yes ?_; conv => whnf) | (refine br.no ?_; conv => whnf))
      refine ⟨side_in hMi, ?_⟩
      rw [quo_nat (by omega), rem_nat]
      conv => whnf
      repeat (first | (refine br.yes ?_; conv => whnf) | (refine br.no ?_; conv => whnf))
      refine q_keep (AV.int (ci : Nat)) (fun K' h => c_cellAt hN0 hN8 hr8 hc8 hy8 hx8 (by rw [← hcl, ← hce]; exact h)) ?_
      conv => whnf
      repeat (first | (refine br.yes ?_; conv => whnf) | (refine br.no ?_; conv => whnf))
      refine ⟨side_in ⟨by omega, by omega⟩, ?_⟩
      conv => whnf
      repeat (first | (refine br.yes ?_; conv => whnf) | (refine br.no ?_; conv => whnf))
      refine ⟨side_in (at_lt hci), ?_⟩
      rw [nth_at]
      conv => whnf
      repeat (first | (refine br.yes ?_; conv => whnf) | (refine br.no ?_; conv => whnf))
      refine ⟨side_in ⟨by omega, by omega⟩, ?_⟩
      conv => whnf
      repeat (first | (refine br.yes ?_; conv => whnf) | (refine br.no ?_; conv => whnf))
      refine ⟨side_in (at_lt hci), ?_⟩
      conv => whnf
      repeat (first | (refine br.yes ?_; conv => whnf) | (refine br.no ?_; conv => whnf))
      rw [upd_at, add_one (k := t) (by omega)]
      refine n1 _ _ (hR2 ht1 _ _ _ _ ?hw4 (.inl rfl) ⟨by rw [hstep] <;> rfl, rfl⟩)
      case hw4 =>
        repeat (first | exact weak_nil | refine weak_same ?_ | refine weak_junk ?_)
    · have ht2 : t = M * M := Nat.le_antisymm ht (ge_of_lss g3)
      subst ht2
      conv => whnf
      repeat (first | (refine br.yes ?_; conv => whnf) | (refine br.no ?_; conv => whnf))
      refine e1' _ _ _ ?_
      conv => whnf
      repeat (first | (refine br.yes ?_; conv => whnf) | (refine br.no ?_; conv => whnf))
      rw [add_one (by omega)]
      refine n0 _ _ (hR hp1 _ _ _ _ ?hw6 (.inr ⟨2, by simp, rfl, rfl, rfl⟩) ⟨by simp only [covA]; rw [← hP, ← hout] <;> rfl, rfl⟩)
      case hw6 =>
        repeat (first | exact weak_nil | refine weak_same ?_ | refine weak_junk ?_)
  · have hp2 : p = l := by have := ge_of_lss g1; omega
    subst hp2
    conv => whnf
    repeat (first | (refine br.yes ?_; conv => whnf) | (refine br.no ?_; conv => whnf))
    refine e0 _ _ _ ?_
    conv => whnf
    repeat (first | (refine br.yes ?_; conv => whnf) | (refine br.no ?_; conv => whnf))
    rw [hx] at k2
    exact k2
end
end Go.Proofs.Ytfkbgfpidolhhaa
