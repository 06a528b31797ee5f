/- Contracts of functions, by a walk each. -/
import Derived.Test.YtbjpnhmempokoaaWal2
namespace Go.Proofs.Ytbjpnhmempokoaa
open Go Go.Fw
section
variable {w0 : World} {m : MS} {K : AV → MS → Prop}
/-! a code as a wave -/
def codeOk (n k : Int) : Bool := isSide n && inR k 0 (arI .sub .i64 (arI .mul .i64 n n) 1)
def codeV (k j : Nat) : Nat × Nat := (wal k j, 0)
def codeR (n k : Int) : Int × List (Nat × Nat) × Int := if codeOk n k = true then (n, tabTo (codeV k.toNat) (n.toNat * n.toNat), 0) else (0, List.replicate 64 (0, 0), 2)
theorem codeR_no {n k : Int} (h : codeOk n k = false) : codeR n k = (0, List.replicate 64 (0, 0), 2) := by simp [codeR, h]
theorem codeR_ok {N k : Nat} (h : codeOk N k = true) : codeR N k = ((N : Int), tabTo (codeV k) (N * N), 0) := by simp [codeR, h]
theorem codeR_length {n k : Int} : (codeR n k).2.1.length = 64 := by
  unfold codeR
  split
  · exact tabTo_length _ _
  · rfl
theorem code_nat {n k : Int} (h : codeOk n k = true) : ∃ N q : Nat, n = N ∧ k = q ∧ N ≤ 8 ∧ 0 < N ∧ q < 64 := by
  unfold codeOk at h
  rw [Bool.and_eq_true] at h
  obtain ⟨N, rfl, hN8, hN0⟩ := side_nat h.1
  have hNN := sq_le hN8
  have h0 : 0 < N * N := Nat.mul_pos hN0 hN0
  have h2 := h.2
  rw [mul_nat (by omega) (by omega), sub_one h0 (by omega)] at h2
  simp only [inR, Bool.and_eq_true, decide_eq_true_eq] at h2
  exact ⟨N, k.toNat, rfl, by omega, hN8, hN0, by omega⟩
set_option maxRecDepth 20000 in
theorem rspec_CodeWave {n k : Int} (hK : K (wc (codeR n k)) m) : CallLeaf Try.prog w0 39 [AV.int n, AV.int k] m K := call_nil rfl fun w0 => by
  refine fn_go hmix h39 ?_
  conv => whnf
  repeat (first | (refine br.yes ?_; conv => whnf) | (refine br.no ?_; conv => whnf))
  refine c_l01Side ?_
  conv => whnf
  repeat (first | (refine br.yes ?_; conv => whnf) | (refine br.no ?_; conv => whnf))
  refine br_intro (fun h => ?_) (fun h => ?_)
  · conv => whnf
    repeat (first | (refine br.yes ?_; conv => whnf) | (refine br.no ?_; conv => whnf))
    rw [codeR_no (by rw [notB_eq] at h; simp at h; simp [codeOk, h])] at hK
    exact ⟨rfl, hK⟩
  conv => whnf
  repeat (first | (refine br.yes ?_; conv => whnf) | (refine br.no ?_; conv => whnf))
  refine c_l01In ?_
  conv => whnf
  repeat (first | (refine br.yes ?_; conv => whnf) | (refine br.no ?_; conv => whnf))
  refine br_intro (fun h2 => ?_) (fun h2 => ?_)
  · conv => whnf
    repeat (first | (refine br.yes ?_; conv => whnf) | (refine br.no ?_; conv => whnf))
    rw [codeR_no (by rw [notB_eq] at h2; simp at h2; simp [codeOk, h2])] at hK
    exact ⟨rfl, hK⟩
  conv => whnf
  repeat (first | (refine br.yes ?_; conv => whnf) | (refine br.no ?_; conv => whnf))
  have hok : codeOk n k = true := by rw [notB_eq] at h h2; simp at h h2; simp [codeOk, h, h2]
  obtain ⟨N, q, rfl, rfl, hN8, hN0, hq⟩ := code_nat hok
  have hNN := sq_le hN8
  rw [codeR_ok hok] at hK
  rw [mul_nat (by omega) (by omega)]
  refine c_l10Walsh hNN hq (fun cap => ?_)
  conv => whnf
  repeat (first | (refine br.yes ?_; conv => whnf) | (refine br.no ?_; conv => whnf))
  refine c_l01Empty ?_
  conv => whnf
  repeat (first | (refine br.yes ?_; conv => whnf) | (refine br.no ?_; conv => whnf))
  refine loop_inv (N * N) (fun j ts m => m = [⟨true, .st [AV.int 0, .ac 64 (List.replicate 64 (0, 0))], 0⟩, ⟨true, .af (N * N) (walsh q (N * N)), cap * 1⟩, ⟨true, .st [AV.int N, .ac 64 (tabTo (codeV q) j)], 0⟩] ∧ ts = [AV.int N, AV.int q, .junk, .junk, .ptr 0 [], AV.int 0, .sl 1 [] 1 0 (N * N) cap, .ptr 2 [], AV.int j, .junk, .junk, .junk, .junk, .junk, .junk, .junk, .junk, .junk, .junk, .junk, .junk, .junk, .junk, .junk, .junk, .junk, .junk, .junk, .junk, .junk, .junk, .junk, .junk, .junk, .junk, .junk, .junk, .junk, .junk, .junk, .junk, .junk, .junk, .junk]) _ _ ?hw trim_no ⟨by rw [tabTo_zero] <;> rfl, rfl⟩ ?_
  case hw =>
    repeat (first | exact weak_nil | refine weak_same ?_ | refine weak_junk ?_)
  rintro j hj ts m' ⟨rfl, rfl⟩ R hR
  conv => whnf
  repeat (first | (refine br.yes ?_; conv => whnf) | (refine br.no ?_; conv => whnf))
  refine br_intro (fun h1 => ?_) (fun h1 => ?_)
  · have hj1 := lt_of_lss h1
    have hv : codeV q j = (wal q j, 0) := rfl
    conv => whnf
    repeat (first | (refine br.yes ?_; conv => whnf) | (refine br.no ?_; conv => whnf))
    refine ⟨side_in ⟨by omega, by omega⟩, ?_⟩
    conv => whnf
    repeat (first | (refine br.yes ?_; conv => whnf) | (refine br.no ?_; conv => whnf))
    refine ⟨side_in (at_lt hj1), ?_⟩
    rw [nth_at, walsh_get hj1]
    conv => whnf
    repeat (first | (refine br.yes ?_; conv => whnf) | (refine br.no ?_; conv => whnf))
    refine ⟨side_in ⟨by omega, by omega⟩, ?_⟩
    conv => whnf
    repeat (first | (refine br.yes ?_; conv => whnf) | (refine br.no ?_; conv => whnf))
    refine ⟨side_in (by rw [toN_nat]; exact (show j < 64 by omega)), ?_⟩
    conv => whnf
    repeat (first | (refine br.yes ?_; conv => whnf) | (refine br.no ?_; conv => whnf))
    rw [toN_nat, upd_eq, add_one (by omega)]
    refine hR hj1 _ _ _ _ ?hw2 trim_no ⟨by rw [← tabTo_set hv] <;> rfl, rfl⟩
    case hw2 =>
      repeat (first | exact weak_nil | refine weak_same ?_ | refine weak_junk ?_)
  · have hj2 : j = N * N := Nat.le_antisymm hj (ge_of_lss h1)
    subst hj2
    conv => whnf
    repeat (first | (refine br.yes ?_; conv => whnf) | (refine br.no ?_; conv => whnf))
    exact ⟨rfl, hK⟩
theorem g_CodeWave {a ra q i : Nat} {oa : Bool} {y x : Int} (ha : getE m a = some ⟨oa, AV.int q, ra⟩) (hq : q < 64) (hi : i < 64)
    (hK : K (.cpx .f32 (codeV q i).1 (codeV q i).2) m) : CallLeaf Try.prog w0 72 [AV.int y, AV.int x, AV.int i, .ptr a []] m K := by
  refine fn_go hmix h72 ?_
  conv => whnf
  repeat (first | (refine br.yes ?_; conv => whnf) | (refine br.no ?_; conv => whnf))
  rw [ha]
  conv => whnf
  repeat (first | (refine br.yes ?_; conv => whnf) | (refine br.no ?_; conv => whnf))
  refine c_walsh hq hi ?_
  conv => whnf
  repeat (first | (refine br.yes ?_; conv => whnf) | (refine br.no ?_; conv => whnf))
  exact hK
set_option maxRecDepth 20000 in
theorem rimpl_CodeWave {n k : Int} (hK : K (wc (codeR n k)) m) : CallLeaf Try.prog w0 40 [AV.int n, AV.int k] m K := call_nil rfl fun w0 => by
  refine fn_go hmix h40 ?_
  conv => whnf
  repeat (first | (refine br.yes ?_; conv => whnf) | (refine br.no ?_; conv => whnf))
  refine c_isSide ?_
  conv => whnf
  repeat (first | (refine br.yes ?_; conv => whnf) | (refine br.no ?_; conv => whnf))
  refine br_intro (fun h => ?_) (fun h => ?_)
  · conv => whnf
    repeat (first | (refine br.yes ?_; conv => whnf) | (refine br.no ?_; conv => whnf))
    rw [codeR_no (by rw [notB_eq] at h; simp at h; simp [codeOk, h])] at hK
    exact ⟨rfl, hK⟩
  conv => whnf
  repeat (first | (refine br.yes ?_; conv => whnf) | (refine br.no ?_; conv => whnf))
  refine c_within ?_
  conv => whnf
  repeat (first | (refine br.yes ?_; conv => whnf) | (refine br.no ?_; conv => whnf))
  refine br_intro (fun h2 => ?_) (fun h2 => ?_)
  · conv => whnf
    repeat (first | (refine br.yes ?_; conv => whnf) | (refine br.no ?_; conv => whnf))
    rw [codeR_no (by rw [notB_eq] at h2; simp at h2; simp [codeOk, h2])] at hK
    exact ⟨rfl, hK⟩
  conv => whnf
  repeat (first | (refine br.yes ?_; conv => whnf) | (refine br.no ?_; conv => whnf))
  have hok : codeOk n k = true := by rw [notB_eq] at h h2; simp at h h2; simp [codeOk, h, h2]
  obtain ⟨N, q, rfl, rfl, hN8, hN0, hq⟩ := code_nat hok
  have hNN := sq_le hN8
  rw [codeR_ok hok] at hK
  refine c_waveBy ⟨hN0, hN8⟩ (by kernel_rfl) (val := codeV q) (fun ext i K hi hK => g_CodeWave (a := 0) rfl hq (by omega) hK) ?_
  conv => whnf
  repeat (first | (refine br.yes ?_; conv => whnf) | (refine br.no ?_; conv => whnf))
  exact ⟨rfl, hK⟩
set_option maxRecDepth 20000 in
theorem ospec_CodeWave {n k : Int} (hK : K (wc (plusR (codeR n k))) m) : CallLeaf Try.prog w0 21 [AV.int n, AV.int k] m K := call_nil rfl fun w0 => by
  refine fn_go hmix h21 ?_
  conv => whnf
  repeat (first | (refine br.yes ?_; conv => whnf) | (refine br.no ?_; conv => whnf))
  refine rspec_CodeWave ?_
  have hl := codeR_length (n := n) (k := k)
  unfold wc plusR at hK
  unfold wc
  generalize codeR n k = R at hK hl ⊢
  conv => whnf
  repeat (first | (refine br.yes ?_; conv => whnf) | (refine br.no ?_; conv => whnf))
  refine c_l01PlusWave hl ?_
  conv => whnf
  repeat (first | (refine br.yes ?_; conv => whnf) | (refine br.no ?_; conv => whnf))
  exact ⟨rfl, hK⟩
set_option maxRecDepth 20000 in
theorem oimpl_CodeWave {n k : Int} (hK : K (wc (plusR (codeR n k))) m) : CallLeaf Try.prog w0 22 [AV.int n, AV.int k] m K := call_nil rfl fun w0 => by
  refine fn_go hmix h22 ?_
  conv => whnf
  repeat (first | (refine br.yes ?_; conv => whnf) | (refine br.no ?_; conv => whnf))
  refine rimpl_CodeWave ?_
  have hl := codeR_length (n := n) (k := k)
  unfold wc plusR at hK
  unfold wc
  generalize codeR n k = R at hK hl ⊢
  conv => whnf
  repeat (first | (refine br.yes ?_; conv => whnf) | (refine br.no ?_; conv => whnf))
  refine c_plainWave hl ?_
  conv => whnf
  repeat (first | (refine br.yes ?_; conv => whnf) | (refine br.no ?_; conv => whnf))
  exact ⟨rfl, hK⟩
set_option maxRecDepth 20000 in
theorem law_CodeWave {n k : Int} (hK : ∀ m, K (AV.bool true) m) : CallLeaf Try.prog w0 8 [AV.int n, AV.int k] [] K := by
  refine fn_go hmix h8 ?_
  conv => whnf
  repeat (first | (refine br.yes ?_; conv => whnf) | (refine br.no ?_; conv => whnf))
  obtain ⟨R, hR⟩ : ∃ R, R = plusR (codeR n k) := ⟨_, rfl⟩
  refine ospec_CodeWave ?_
  rw [← hR]
  unfold wc
  conv => whnf
  repeat (first | (refine br.yes ?_; conv => whnf) | (refine br.no ?_; conv => whnf))
  refine oimpl_CodeWave ?_
  rw [← hR]
  unfold wc
  conv => whnf
  repeat (first | (refine br.yes ?_; conv => whnf) | (refine br.no ?_; conv => whnf))
  refine c_eqWave ?_
  conv => whnf
  repeat (first | (refine br.yes ?_; conv => whnf) | (refine br.no ?_; conv => whnf))
  refine br_false (by rw [notB_eq]; rfl) ?_
  conv => whnf
  repeat (first | (refine br.yes ?_; conv => whnf) | (refine br.no ?_; conv => whnf))
  refine br_false (neq_self _) ?_
  conv => whnf
  repeat (first | (refine br.yes ?_; conv => whnf) | (refine br.no ?_; conv => whnf))
  exact hK _
end
end Go.Proofs.Ytbjpnhmempokoaa
