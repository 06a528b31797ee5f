/- Contracts of functions, by a walk each. -/
import Derived.Test.YtpcakgdagmcopaaWal2
namespace Go.Proofs.Ytpcakgdagmcopaa
open Go Go.Fw
section
variable {w0 : World} {m : MS} {K : AV → MS → Prop}
/-! the lengths of codes -/
def isLen (n : Int) : Bool := decide (n = 1) || decide (n = 2) || decide (n = 4) || decide (n = 8) || decide (n = 16) || decide (n = 32) || decide (n = 64)
theorem isLen_pow {n : Int} (j : Nat) (hj : j ≤ 6) (h : n = ((2 ^ j : Nat) : Int)) : isLen n = true := by
  have : ∀ j : Fin 7, isLen ((2 ^ (j : Nat) : Nat) : Int) = true := by decide +kernel
  rw [h]; exact this ⟨j, by omega⟩
theorem isLen_no {n : Int} (h : ∀ j : Nat, j < 7 → ¬ n = ((2 ^ j : Nat) : Int)) : isLen n = false := by
  have h0 := h 0 (by decide); have h1 := h 1 (by decide); have h2 := h 2 (by decide); have h3 := h 3 (by decide); have h4 := h 4 (by decide); have h5 := h 5 (by decide); have h6 := h 6 (by decide)
  simp at h0 h1 h2 h3 h4 h5 h6
  simp [isLen, h0, h1, h2, h3, h4, h5, h6]
theorem c_l10Length {n : Int} (hK : K (AV.bool (isLen n)) m) : CallLeaf Try.prog w0 55 [AV.int n] m K := by
  refine fn_go hmix h55 ?_
  conv => whnf
  repeat (first | (refine br.yes ?_; conv => whnf) | (refine br.no ?_; conv => whnf))
  refine loop_inv 7 (fun j ts m' => m' = m ∧ ts = [AV.int n, .junk, AV.bool false, AV.int (2 ^ j : Nat), .junk, .junk, .junk, .junk, .junk, .junk, .junk] ∧ ∀ i, i < j → ¬ n = ((2 ^ i : Nat) : Int)) _ _ ?hw trim_no ⟨rfl, rfl, fun i hi => by omega⟩ ?_
  case hw =>
    repeat (first | exact weak_nil | refine weak_same ?_ | refine weak_junk ?_)
  rintro j hj ts m' ⟨rfl, rfl, hpre⟩ R hR
  obtain ⟨q, hq⟩ : ∃ q, q = 2 ^ j := ⟨_, rfl⟩
  have hq2 : q ≤ 128 := by rw [hq]; exact Nat.pow_le_pow_right (by decide) hj
  have hj7 : q ≤ 64 → j < 7 := fun h => by
    rcases Nat.lt_or_ge j 7 with h2 | h2
    · exact h2
    · have h3 : j = 7 := by omega
      rw [h3] at hq; omega
  rw [← hq]
  conv => whnf
  repeat (first | (refine br.yes ?_; conv => whnf) | (refine br.no ?_; conv => whnf))
  refine br_intro (fun h1 => ?_) (fun h1 => ?_)
  · have h64 : q ≤ 64 := by rw [cmI_leq] at h1; simp at h1; omega
    have hj1 := hj7 h64
    conv => whnf
    repeat (first | (refine br.yes ?_; conv => whnf) | (refine br.no ?_; conv => whnf))
    refine br_intro (fun h2 => ?_) (fun h2 => ?_)
    · conv => whnf
      repeat (first | (refine br.yes ?_; conv => whnf) | (refine br.no ?_; conv => whnf))
      exact K_bool hK (isLen_pow j (by omega) (by rw [cmI_eql] at h2; simp at h2; rw [h2, hq]))
    · conv => whnf
      repeat (first | (refine br.yes ?_; conv => whnf) | (refine br.no ?_; conv => whnf))
      have e : arI .mul .i64 2 (q : Int) = ((2 ^ (j + 1) : Nat) : Int) := by
        rw [Nat.pow_succ, ← hq, Nat.mul_comm]
        exact mul_nat (a := 2) (by omega) (by omega)
      rw [e]
      refine hR hj1 _ _ _ _ ?hw2 trim_no ⟨rfl, rfl, fun i hi => ?_⟩
      case hw2 =>
        repeat (first | exact weak_nil | refine weak_same ?_ | refine weak_junk ?_)
      rcases Nat.lt_or_ge i j with hlt | hge
      · exact hpre i hlt
      · have : i = j := by omega
        subst this
        rw [cmI_eql, hq] at h2; simpa using h2
  · have h64 : 64 < q := by rw [cmI_leq] at h1; simp at h1; omega
    have hj7 : 7 ≤ j := by
      rcases Nat.lt_or_ge j 7 with h2 | h2
      · have : 2 ^ j ≤ 2 ^ 6 := Nat.pow_le_pow_right (by decide) (by omega)
        rw [← hq] at this; omega
      · exact h2
    conv => whnf
    repeat (first | (refine br.yes ?_; conv => whnf) | (refine br.no ?_; conv => whnf))
    exact K_bool hK (isLen_no (fun i hi => hpre i (by omega)))
theorem len_bits {n : Int} (h : inR n 1 64 = true) : cmI .eql (arI .and .i64 n (arI .sub .i64 n 1)) 0 = isLen n := by
  have h2 : ∀ k : Fin 65, 1 ≤ (k : Nat) → cmI .eql (arI .and .i64 ((k : Nat) : Int) (arI .sub .i64 ((k : Nat) : Int) 1)) 0 = isLen ((k : Nat) : Int) := by decide +kernel
  simp [inR] at h
  obtain ⟨k, rfl⟩ : ∃ k : Nat, n = k := ⟨n.toNat, by omega⟩
  exact h2 ⟨k, by omega⟩ (show 1 ≤ k by omega)
theorem len_range {n : Int} (h : inR n 1 64 = false) : isLen n = false := by
  simp [inR] at h
  simp [isLen]; omega
theorem c_isLength {n : Int} (hK : K (AV.bool (isLen n)) m) : CallLeaf Try.prog w0 57 [AV.int n] m K := by
  refine fn_go hmix h57 ?_
  conv => whnf
  repeat (first | (refine br.yes ?_; conv => whnf) | (refine br.no ?_; conv => whnf))
  refine c_within ?_
  conv => whnf
  repeat (first | (refine br.yes ?_; conv => whnf) | (refine br.no ?_; conv => whnf))
  refine br_intro (fun h => ?_) (fun h => ?_)
  · conv => whnf
    repeat (first | (refine br.yes ?_; conv => whnf) | (refine br.no ?_; conv => whnf))
    exact K_bool hK (len_bits h).symm
  · conv => whnf
    repeat (first | (refine br.yes ?_; conv => whnf) | (refine br.no ?_; conv => whnf))
    exact K_bool hK (len_range h)
theorem len_nat {n : Int} (h : isLen n = true) : ∃ N : Nat, n = N ∧ N ≤ 64 ∧ 0 < N := by
  simp [isLen] at h
  exact ⟨n.toNat, by omega, by omega, by omega⟩
def wcOk (n k : Int) : Bool := isLen n && inR k 0 (arI .sub .i64 n 1)
theorem wc_nat {n k : Int} (h : wcOk n k = true) : ∃ N q : Nat, n = N ∧ k = q ∧ N ≤ 64 ∧ 0 < N ∧ q < N := by
  unfold wcOk at h
  rw [Bool.and_eq_true] at h
  obtain ⟨N, rfl, hN, hN0⟩ := len_nat h.1
  have h2 := h.2
  rw [sub_one hN0 (by omega)] at h2
  simp only [inR, Bool.and_eq_true, decide_eq_true_eq] at h2
  exact ⟨N, k.toNat, rfl, by omega, hN, hN0, by omega⟩
theorem rspec_WalshCode_no {n k : Int} (h : wcOk n k = false) (hK : K (.tup [nilS 1, AV.int 2]) m) : CallLeaf Try.prog w0 33 [AV.int n, AV.int k] m K := by
  refine fn_go hmix h33 ?_
  conv => whnf
  repeat (first | (refine br.yes ?_; conv => whnf) | (refine br.no ?_; conv => whnf))
  refine c_l10Length ?_
  conv => whnf
  repeat (first | (refine br.yes ?_; conv => whnf) | (refine br.no ?_; conv => whnf))
  refine br_intro (fun h1 => ?_) (fun h1 => ?_)
  · conv => whnf
    repeat (first | (refine br.yes ?_; conv => whnf) | (refine br.no ?_; conv => whnf))
    exact hK
  conv => whnf
  repeat (first | (refine br.yes ?_; conv => whnf) | (refine br.no ?_; conv => whnf))
  refine c_l01In ?_
  conv => whnf
  repeat (first | (refine br.yes ?_; conv => whnf) | (refine br.no ?_; conv => whnf))
  refine br_true ?_ ?_
  · rw [notB_eq] at h1 ⊢; simp [wcOk] at h h1 ⊢; exact h h1
  conv => whnf
  repeat (first | (refine br.yes ?_; conv => whnf) | (refine br.no ?_; conv => whnf))
  exact hK
theorem rspec_WalshCode_ok {N k : Nat} (h : wcOk N k = true) (hN : N ≤ 64) (hk : k < 64) (hK : ∀ cap : Nat, K (.tup [.sl m.length [] 1 0 N cap, AV.int 0]) (m ++ [⟨true, .af N (walsh k N), cap * 1⟩])) : CallLeaf Try.prog w0 33 [AV.int N, AV.int k] m K := by
  unfold wcOk at h
  rw [Bool.and_eq_true] at h
  refine fn_go hmix h33 ?_
  conv => whnf
  repeat (first | (refine br.yes ?_; conv => whnf) | (refine br.no ?_; conv => whnf))
  refine c_l10Length ?_
  conv => whnf
  repeat (first | (refine br.yes ?_; conv => whnf) | (refine br.no ?_; conv => whnf))
  refine br_false (by rw [notB_eq, h.1]; rfl) ?_
  conv => whnf
  repeat (first | (refine br.yes ?_; conv => whnf) | (refine br.no ?_; conv => whnf))
  refine c_l01In ?_
  conv => whnf
  repeat (first | (refine br.yes ?_; conv => whnf) | (refine br.no ?_; conv => whnf))
  refine br_false (by rw [notB_eq, h.2]; rfl) ?_
  conv => whnf
  repeat (first | (refine br.yes ?_; conv => whnf) | (refine br.no ?_; conv => whnf))
  refine c_l10Walsh hN hk (fun cap => ?_)
  conv => whnf
  repeat (first | (refine br.yes ?_; conv => whnf) | (refine br.no ?_; conv => whnf))
  exact hK cap
theorem rimpl_WalshCode_no {n k : Int} (h : wcOk n k = false) (hK : K (.tup [nilS 1, AV.int 2]) m) : CallLeaf Try.prog w0 34 [AV.int n, AV.int k] m K := by
  refine fn_go hmix h34 ?_
  conv => whnf
  repeat (first | (refine br.yes ?_; conv => whnf) | (refine br.no ?_; conv => whnf))
  refine c_isLength ?_
  conv => whnf
  repeat (first | (refine br.yes ?_; conv => whnf) | (refine br.no ?_; conv => whnf))
  refine br_intro (fun h1 => ?_) (fun h1 => ?_)
  · conv => whnf
    repeat (first | (refine br.yes ?_; conv => whnf) | (refine br.no ?_; conv => whnf))
    exact hK
  conv => whnf
  repeat (first | (refine br.yes ?_; conv => whnf) | (refine br.no ?_; conv => whnf))
  refine c_within ?_
  conv => whnf
  repeat (first | (refine br.yes ?_; conv => whnf) | (refine br.no ?_; conv => whnf))
  refine br_true ?_ ?_
  · rw [notB_eq] at h1 ⊢; simp [wcOk] at h h1 ⊢; exact h h1
  conv => whnf
  repeat (first | (refine br.yes ?_; conv => whnf) | (refine br.no ?_; conv => whnf))
  exact hK
set_option maxRecDepth 20000 in
theorem rimpl_WalshCode_ok {N k : Nat} (h : wcOk N k = true) (hN : N ≤ 64) (hk : k < 64) (hK : ∀ cap : Nat, K (.tup [.sl m.length [] 1 0 N cap, AV.int 0]) (m ++ [⟨true, .af N (walsh k N), cap * 1⟩])) : CallLeaf Try.prog w0 34 [AV.int N, AV.int k] m K := call_fresh rfl fun w0 => by
  unfold wcOk at h
  rw [Bool.and_eq_true] at h
  refine fn_go hmix h34 ?_
  conv => whnf
  repeat (first | (refine br.yes ?_; conv => whnf) | (refine br.no ?_; conv => whnf))
  refine c_isLength ?_
  conv => whnf
  repeat (first | (refine br.yes ?_; conv => whnf) | (refine br.no ?_; conv => whnf))
  refine br_false (by rw [notB_eq, h.1]; rfl) ?_
  conv => whnf
  repeat (first | (refine br.yes ?_; conv => whnf) | (refine br.no ?_; conv => whnf))
  refine c_within ?_
  conv => whnf
  repeat (first | (refine br.yes ?_; conv => whnf) | (refine br.no ?_; conv => whnf))
  refine br_false (by rw [notB_eq, h.2]; rfl) ?_
  conv => whnf
  repeat (first | (refine br.yes ?_; conv => whnf) | (refine br.no ?_; conv => whnf))
  refine loop_inv N (fun j ts m => ∃ cap, m = [⟨true, .af j (walsh k j), cap * 1⟩] ∧ ts = [AV.int N, AV.int k, .junk, .junk, nilS 1, AV.int 0, .sl 0 [] 1 0 j cap, .junk, .junk, .junk, .junk, .junk, .junk, .junk, .junk, .junk, .junk, .junk, .junk, AV.int N, AV.int j, .junk, .junk, .junk, .junk, .junk, .junk, .junk, .junk, .junk, .junk]) _ _ ?hw (.inl rfl) ⟨0, rfl, rfl⟩ ?_
  case hw =>
    repeat (first | exact weak_nil | refine weak_same ?_ | refine weak_junk ?_)
  rintro j hj ts m' ⟨cap, rfl, rfl⟩ R hR
  conv => whnf
  repeat (first | (refine br.yes ?_; conv => whnf) | (refine br.no ?_; conv => whnf))
  refine br_intro (fun h1 => ?_) (fun h1 => ?_)
  · have hj1 := lt_of_lss h1
    conv => whnf
    repeat (first | (refine br.yes ?_; conv => whnf) | (refine br.no ?_; conv => whnf))
    refine c_walsh hk (by omega) ?_
    conv => whnf
    repeat (first | (refine br.yes ?_; conv => whnf) | (refine br.no ?_; conv => whnf))
    refine ⟨side_in ⟨by decide, rfl, rfl, by omega, rfl⟩, fun cap' => ?_⟩
    conv => whnf
    repeat (first | (refine br.yes ?_; conv => whnf) | (refine br.no ?_; conv => whnf))
    have e1 : addN j 1 = j + 1 := by rw [addN_eq]
    rw [add_one (by omega), e1]
    refine hR hj1 _ _ _ [⟨true, .af (j + 1) (walsh k j ++ [wal k j]), cap' * 1⟩] ?hw5 ?tr ⟨cap', by rw [walsh_next], rfl⟩
    case hw5 =>
      repeat (first | exact weak_nil | refine weak_same ?_ | refine weak_junk ?_)
    case tr =>
      exact .inr ⟨1, by simp, rfl, rfl, rfl⟩
  · have hj2 : j = N := by have := ge_of_lss h1; omega
    subst hj2
    conv => whnf
    repeat (first | (refine br.yes ?_; conv => whnf) | (refine br.no ?_; conv => whnf))
    exact ⟨rfl, fun e he => by simp at he; subst he; exact .inl rfl, rfl, hK cap⟩

theorem ospec_WalshCode_no {n k : Int} (h : wcOk n k = false) (hK : ∀ cap : Nat, K (.tup [.sl m.length [] 1 0 0 cap, AV.int 2]) (m ++ [⟨true, .af 0 [], cap * 1⟩])) : CallLeaf Try.prog w0 15 [AV.int n, AV.int k] m K := by
  refine fn_go hmix h15 ?_
  conv => whnf
  repeat (first | (refine br.yes ?_; conv => whnf) | (refine br.no ?_; conv => whnf))
  refine rspec_WalshCode_no h ?_
  conv => whnf
  repeat (first | (refine br.yes ?_; conv => whnf) | (refine br.no ?_; conv => whnf))
  refine c_l01PlusNumbers0 (fun cap => ?_)
  conv => whnf
  repeat (first | (refine br.yes ?_; conv => whnf) | (refine br.no ?_; conv => whnf))
  exact hK cap
theorem oimpl_WalshCode_no {n k : Int} (h : wcOk n k = false) (hK : K (.tup [nilS 1, AV.int 2]) m) : CallLeaf Try.prog w0 16 [AV.int n, AV.int k] m K := by
  refine fn_go hmix h16 ?_
  conv => whnf
  repeat (first | (refine br.yes ?_; conv => whnf) | (refine br.no ?_; conv => whnf))
  refine rimpl_WalshCode_no h ?_
  conv => whnf
  repeat (first | (refine br.yes ?_; conv => whnf) | (refine br.no ?_; conv => whnf))
  refine c_plainFs0 ?_
  conv => whnf
  repeat (first | (refine br.yes ?_; conv => whnf) | (refine br.no ?_; conv => whnf))
  exact hK
set_option maxRecDepth 20000 in
theorem ospec_WalshCode_ok {N k : Nat} (h : wcOk N k = true) (hN : N ≤ 64) (hk : k < 64) (hK : ∀ c1 cap : Nat, K (.tup [.sl (m.length + 1) [] 1 0 N cap, AV.int 0]) (m ++ [⟨true, .af N (walsh k N), c1⟩, ⟨true, .af N ((walsh k N).map plusN), cap * 1⟩])) : CallLeaf Try.prog w0 15 [AV.int N, AV.int k] m K := call_fresh rfl fun w0 => by
  refine fn_go hmix h15 ?_
  conv => whnf
  repeat (first | (refine br.yes ?_; conv => whnf) | (refine br.no ?_; conv => whnf))
  refine rspec_WalshCode_ok h hN hk (fun c1 => ?_)
  conv => whnf
  repeat (first | (refine br.yes ?_; conv => whnf) | (refine br.no ?_; conv => whnf))
  refine c_l01PlusNumbers (walsh_length k N) (by omega) (fun cap => ?_)
  conv => whnf
  repeat (first | (refine br.yes ?_; conv => whnf) | (refine br.no ?_; conv => whnf))
  exact ⟨rfl, fun e he => by simp at he; rcases he with rfl | rfl <;> exact .inl rfl, rfl, hK _ cap⟩
set_option maxRecDepth 20000 in
theorem oimpl_WalshCode_ok {N k : Nat} (h : wcOk N k = true) (hN : N ≤ 64) (hk : k < 64) (hK : ∀ c1 cap : Nat, K (.tup [.sl m.length [] 1 0 N cap, AV.int 0]) (m ++ [⟨true, .af N ((walsh k N).map plusN), c1⟩])) : CallLeaf Try.prog w0 16 [AV.int N, AV.int k] m K := call_fresh rfl fun w0 => by
  refine fn_go hmix h16 ?_
  conv => whnf
  repeat (first | (refine br.yes ?_; conv => whnf) | (refine br.no ?_; conv => whnf))
  refine rimpl_WalshCode_ok h hN hk (fun c1 => ?_)
  conv => whnf
  repeat (first | (refine br.yes ?_; conv => whnf) | (refine br.no ?_; conv => whnf))
  refine c_plainFs (walsh_length k N) (by omega) ?_
  conv => whnf
  repeat (first | (refine br.yes ?_; conv => whnf) | (refine br.no ?_; conv => whnf))
  exact ⟨rfl, fun e he => by simp at he; subst he; exact .inl rfl, rfl, hK _ _⟩

set_option maxRecDepth 20000 in
theorem law_WalshCode_no {n k : Int} (h : wcOk n k = false) (hK : ∀ m, K (AV.bool true) m) : CallLeaf Try.prog w0 5 [AV.int n, AV.int k] [] K := by
  refine fn_go hmix h5 ?_
  conv => whnf
  repeat (first | (refine br.yes ?_; conv => whnf) | (refine br.no ?_; conv => whnf))
  refine ospec_WalshCode_no h (fun cap => ?_)
  conv => whnf
  repeat (first | (refine br.yes ?_; conv => whnf) | (refine br.no ?_; conv => whnf))
  refine oimpl_WalshCode_no h ?_
  conv => whnf
  repeat (first | (refine br.yes ?_; conv => whnf) | (refine br.no ?_; conv => whnf))
  refine c_eqFloatsS0 ?_
  conv => whnf
  repeat (first | (refine br.yes ?_; conv => whnf) | (refine br.no ?_; conv => whnf))
  refine br_false (by rw [notB_eq]; rfl) ?_
  conv => whnf
  repeat (first | (refine br.yes ?_; conv => whnf) | (refine br.no ?_; conv => whnf))
  refine br_false (neq_self _) ?_
  conv => whnf
  repeat (first | (refine br.yes ?_; conv => whnf) | (refine br.no ?_; conv => whnf))
  refine c_markF0 (k := 1) ?_
  conv => whnf
  repeat (first | (refine br.yes ?_; conv => whnf) | (refine br.no ?_; conv => whnf))
  refine c_heldF0 (k := 1) ?_
  conv => whnf
  repeat (first | (refine br.yes ?_; conv => whnf) | (refine br.no ?_; conv => whnf))
  refine br_false (by rw [cmI_lss]; simp; try omega) ?_
  conv => whnf
  repeat (first | (refine br.yes ?_; conv => whnf) | (refine br.no ?_; conv => whnf))
  refine br_false (neq_self _) ?_
  conv => whnf
  repeat (first | (refine br.yes ?_; conv => whnf) | (refine br.no ?_; conv => whnf))
  refine oimpl_WalshCode_no h ?_
  conv => whnf
  repeat (first | (refine br.yes ?_; conv => whnf) | (refine br.no ?_; conv => whnf))
  refine c_eqFloatsS0 ?_
  conv => whnf
  repeat (first | (refine br.yes ?_; conv => whnf) | (refine br.no ?_; conv => whnf))
  refine br_false (by rw [notB_eq]; rfl) ?_
  conv => whnf
  repeat (first | (refine br.yes ?_; conv => whnf) | (refine br.no ?_; conv => whnf))
  refine br_false (neq_self _) ?_
  conv => whnf
  repeat (first | (refine br.yes ?_; conv => whnf) | (refine br.no ?_; conv => whnf))
  refine c_heldF0 (k := 1) ?_
  conv => whnf
  repeat (first | (refine br.yes ?_; conv => whnf) | (refine br.no ?_; conv => whnf))
  refine br_false (by rw [cmI_lss]; simp; try omega) ?_
  conv => whnf
  repeat (first | (refine br.yes ?_; conv => whnf) | (refine br.no ?_; conv => whnf))
  refine br_false (neq_self _) ?_
  conv => whnf
  repeat (first | (refine br.yes ?_; conv => whnf) | (refine br.no ?_; conv => whnf))
  exact hK _
set_option maxRecDepth 20000 in
theorem law_WalshCode_ok {N k : Nat} (h : wcOk N k = true) (hN : N ≤ 64) (hk : k < 64) (hK : ∀ m, K (AV.bool true) m) : CallLeaf Try.prog w0 5 [AV.int N, AV.int k] [] K := by
  have hlen : ((walsh k N).map plusN).length = N := by simp [walsh_length]
  refine fn_go hmix h5 ?_
  conv => whnf
  repeat (first | (refine br.yes ?_; conv => whnf) | (refine br.no ?_; conv => whnf))
  refine ospec_WalshCode_ok h hN hk (fun c1 cap => ?_)
  conv => whnf
  repeat (first | (refine br.yes ?_; conv => whnf) | (refine br.no ?_; conv => whnf))
  refine oimpl_WalshCode_ok h hN hk (fun c2 cap2 => ?_)
  conv => whnf
  repeat (first | (refine br.yes ?_; conv => whnf) | (refine br.no ?_; conv => whnf))
  refine c_eqFloatsS (i := 2) (j := 1) rfl rfl (by omega) ?_
  conv => whnf
  repeat (first | (refine br.yes ?_; conv => whnf) | (refine br.no ?_; conv => whnf))
  refine br_false (by rw [notB_eq]; rfl) ?_
  conv => whnf
  repeat (first | (refine br.yes ?_; conv => whnf) | (refine br.no ?_; conv => whnf))
  refine br_false (neq_self _) ?_
  conv => whnf
  repeat (first | (refine br.yes ?_; conv => whnf) | (refine br.no ?_; conv => whnf))
  refine c_markF (i := 2) (k := 1) rfl hlen (by omega) (by decide) (fun ys hy hmy => ?_)
  conv => whnf
  repeat (first | (refine br.yes ?_; conv => whnf) | (refine br.no ?_; conv => whnf))
  refine c_heldF (i := 2) (k := 1) rfl hy (by omega) (by decide) hmy ?_
  conv => whnf
  repeat (first | (refine br.yes ?_; conv => whnf) | (refine br.no ?_; conv => whnf))
  refine br_false (by rw [cmI_lss]; simp; try omega) ?_
  conv => whnf
  repeat (first | (refine br.yes ?_; conv => whnf) | (refine br.no ?_; conv => whnf))
  refine br_false (neq_self _) ?_
  conv => whnf
  repeat (first | (refine br.yes ?_; conv => whnf) | (refine br.no ?_; conv => whnf))
  refine oimpl_WalshCode_ok h hN hk (fun c3 cap3 => ?_)
  conv => whnf
  repeat (first | (refine br.yes ?_; conv => whnf) | (refine br.no ?_; conv => whnf))
  refine c_eqFloatsS (i := 3) (j := 1) rfl rfl (by omega) ?_
  conv => whnf
  repeat (first | (refine br.yes ?_; conv => whnf) | (refine br.no ?_; conv => whnf))
  refine br_false (by rw [notB_eq]; rfl) ?_
  conv => whnf
  repeat (first | (refine br.yes ?_; conv => whnf) | (refine br.no ?_; conv => whnf))
  refine br_false (neq_self _) ?_
  conv => whnf
  repeat (first | (refine br.yes ?_; conv => whnf) | (refine br.no ?_; conv => whnf))
  refine c_heldF (i := 2) (k := 1) rfl hy (by omega) (by decide) hmy ?_
  conv => whnf
  repeat (first | (refine br.yes ?_; conv => whnf) | (refine br.no ?_; conv => whnf))
  refine br_false (by rw [cmI_lss]; simp; try omega) ?_
  conv => whnf
  repeat (first | (refine br.yes ?_; conv => whnf) | (refine br.no ?_; conv => whnf))
  refine br_false (neq_self _) ?_
  conv => whnf
  repeat (first | (refine br.yes ?_; conv => whnf) | (refine br.no ?_; conv => whnf))
  exact hK _

theorem law_WalshCode {n k : Int} (hK : ∀ m, K (AV.bool true) m) : CallLeaf Try.prog w0 5 [AV.int n, AV.int k] [] K := by
  cases h : wcOk n k with
  | false => exact law_WalshCode_no h hK
  | true =>
    obtain ⟨N, q, rfl, rfl, hN, _, hq⟩ := wc_nat h
    exact law_WalshCode_ok h hN (by omega) hK

end
end Go.Proofs.Ytpcakgdagmcopaa
