/- Contracts of functions, by a walk each. -/
import Derived.Test.YtfoflddjcijaeaaFwFresh
import Derived.Test.YtfoflddjcijaeaaCom4
namespace Go.Proofs.Ytfoflddjcijaeaa
open Go Go.Fw
section
variable {w0 : World} {m : MS} {K : AV → MS → Prop}
/-! a Walsh function -/
/-- is the number of ones odd? (so many places) -/
def oddF : Nat → Nat → Bool
  | 0, _ => false
  | f + 1, b => (b % 2 == 1) ^^ oddF f (b / 2)
theorem oddF_zero (f : Nat) : oddF f 0 = false := by
  induction f with
  | zero => rfl
  | succ f ih => simp [oddF, ih]
def signW (p : Bool) : Nat := if p = true then 3212836864 else 1065353216
theorem neg_sign (p : Bool) : ngF .f32 (signW p) = signW (!p) := by
  unfold ngF
  cases p <;> rfl
def wal (k j : Nat) : Nat := signW (oddF 7 (k &&& j))
def walsh (k n : Nat) : List Nat := (List.range n).map (wal k)
theorem walsh_next (k n : Nat) : walsh k n ++ [wal k n] = walsh k (n + 1) := by unfold walsh; rw [List.range_succ]; simp
theorem walsh_length (k n : Nat) : (walsh k n).length = n := by simp [walsh]
theorem walsh_get {k n j : Nat} (h : j < n) : (walsh k n).getD j 0 = wal k j := by simp [walsh, h]
set_option maxRecDepth 100000 in
theorem and_lt {k j : Nat} (hj : j < 64) : k &&& j < 64 := Nat.lt_of_le_of_lt Nat.and_le_right hj
theorem and_nat {k j : Nat} (hk : k < 64) (hj : j < 64) : arI .and .i64 (k : Int) (j : Int) = ((k &&& j : Nat) : Int) := by
  have h : ∀ k : Fin 64, ∀ j : Fin 64, arI .and .i64 ((k : Nat) : Int) ((j : Nat) : Int) = (((k : Nat) &&& (j : Nat) : Nat) : Int) := by decide +kernel
  exact h ⟨k, hk⟩ ⟨j, hj⟩
theorem quo_two (a : Nat) (ha : a ≤ 1048576) : arI .quo .i64 (a : Int) 2 = ((a / 2 : Nat) : Int) := quo_nat (b := 2) ha
theorem rem_two (a : Nat) : arI .rem .i64 (a : Int) 2 = ((a % 2 : Nat) : Int) := rem_nat a 2
set_option maxRecDepth 20000 in
set_option maxHeartbeats 1600000 in
theorem c_l10Walsh {N k : Nat} (hN : N ≤ 64) (hk : k < 64) (hK : ∀ cap : Nat, K (.sl m.length [] 1 0 N cap) (m ++ [⟨true, .af N (walsh k N), cap * 1⟩])) : CallLeaf Try.prog w0 101 [AV.int N, AV.int k] m K := call_fresh rfl fun w0 => by
  refine fn_go hmix h101 ?_
  conv => whnf
  repeat (first | (refine br.yes ?_; conv => whnf) | (refine br.no ?_; conv => whnf))
  refine loop_inv N (fun j ts m => ∃ cap, m = [⟨true, .af j (walsh k j), cap * 1⟩] ∧ ts = [AV.int N, AV.int k, .junk, .junk, nilS 1, .sl 0 [] 1 0 j cap, AV.int j, .junk, .junk, .junk, .junk, .junk, .junk, .junk, .junk, .junk, .junk, .junk, .junk, .junk, .junk, .junk, .junk, .junk, .junk, .junk, .junk, .junk, .junk, .junk, .junk, .junk]) _ _ ?hw (.inl rfl) ⟨0, rfl, rfl⟩ ?_
  case hw =>
    repeat (first | exact weak_nil | refine weak_same ?_ | refine weak_junk ?_)
  rintro j hj ts m' ⟨cap, rfl, rfl⟩ R hR
  conv => whnf
  repeat (first | (refine br.yes ?_; conv => whnf) | (refine br.no ?_; conv => whnf))
  refine br_intro (fun h1 => ?_) (fun h1 => ?_)
  · have hj1 := lt_of_lss h1
    conv => whnf
    repeat (first | (refine br.yes ?_; conv => whnf) | (refine br.no ?_; conv => whnf))
    rw [and_nat hk (by omega)]
    have hb := and_lt (k := k) (j := j) (by omega)
    obtain ⟨T, hT⟩ : ∃ T, T = oddF 7 (k &&& j) := ⟨_, rfl⟩
    refine loop_inv 7 (fun i ts m => ∃ (c : Nat) (p : Bool), c < 2 ^ (7 - i) ∧ (p ^^ oddF (7 - i) c) = T ∧ m = [⟨true, .af j (walsh k j), cap * 1⟩] ∧ ts = [AV.int N, AV.int k, .junk, .junk, nilS 1, .sl 0 [] 1 0 j cap, AV.int j, .flt .f32 (signW p), AV.int c, .junk, .junk, .junk, .junk, .junk, .junk, .junk, .junk, .junk, .junk, .junk, .junk, .junk, .junk, .junk, .junk, .junk, .junk, .junk, .junk, .junk, .junk, .junk]) _ _ ?hw2 (.inl rfl) ⟨k &&& j, false, by simp; omega, by rw [hT]; simp, rfl, rfl⟩ ?_
    case hw2 =>
      repeat (first | exact weak_nil | refine weak_same ?_ | refine weak_junk ?_)
    rintro i hi ts m' ⟨c, p, hc, hp, rfl, rfl⟩ R2 hR2
    conv => whnf
    repeat (first | (refine br.yes ?_; conv => whnf) | (refine br.no ?_; conv => whnf))
    refine br_intro (fun h2 => ?_) (fun h2 => ?_)
    · have hc0 : 0 < c := by rw [cmI_gtr] at h2; simp at h2; omega
      have hi7 : i < 7 := by
        rcases Nat.lt_or_ge i 7 with h | h
        · exact h
        · have : 7 - i = 0 := by omega
          rw [this] at hc; omega
      have e7 : 7 - i = (7 - (i + 1)) + 1 := by omega
      have hc127 : c ≤ 128 := Nat.le_trans (Nat.le_of_lt hc) (Nat.pow_le_pow_right (by decide) (show 7 - i ≤ 7 by omega))
      rw [e7] at hc hp
      rw [Nat.pow_succ] at hc
      simp only [oddF] at hp
      conv => whnf
      repeat (first | (refine br.yes ?_; conv => whnf) | (refine br.no ?_; conv => whnf))
      refine ⟨side_in (by decide), ?_⟩
      rw [rem_two]
      conv => whnf
      repeat (first | (refine br.yes ?_; conv => whnf) | (refine br.no ?_; conv => whnf))
      refine br_intro (fun h3 => ?_) (fun h3 => ?_)
      · have h4 : c % 2 = 1 := by rw [cmI_eql] at h3; simp at h3; omega
        conv => whnf
        repeat (first | (refine br.yes ?_; conv => whnf) | (refine br.no ?_; conv => whnf))
        refine ⟨side_in (by decide), ?_⟩
        rw [quo_two _ (by omega), neg_sign]
        conv => whnf
        repeat (first | (refine br.yes ?_; conv => whnf) | (refine br.no ?_; conv => whnf))
        refine hR2 hi7 _ _ _ _ ?hw3 trim_no ⟨c / 2, !p, by omega, by rw [← hp, h4]; cases p <;> simp, rfl, rfl⟩
        case hw3 =>
          repeat (first | exact weak_nil | refine weak_same ?_ | refine weak_junk ?_)
      · have h4 : c % 2 = 0 := by rw [cmI_eql] at h3; simp at h3; omega
        conv => whnf
        repeat (first | (refine br.yes ?_; conv => whnf) | (refine br.no ?_; conv => whnf))
        refine ⟨side_in (by decide), ?_⟩
        rw [quo_two _ (by omega)]
        conv => whnf
        repeat (first | (refine br.yes ?_; conv => whnf) | (refine br.no ?_; conv => whnf))
        refine hR2 hi7 _ _ _ _ ?hw4 trim_no ⟨c / 2, p, by omega, by rw [← hp, h4]; cases p <;> simp, rfl, rfl⟩
        case hw4 =>
          repeat (first | exact weak_nil | refine weak_same ?_ | refine weak_junk ?_)
    · have hc0 : c = 0 := by rw [cmI_gtr] at h2; simp at h2; omega
      rw [hc0, oddF_zero] at hp
      have hp2 : signW p = wal k j := by unfold wal; rw [← hT, ← hp]; simp
      conv => whnf
      repeat (first | (refine br.yes ?_; conv => whnf) | (refine br.no ?_; conv => whnf))
      rw [hp2]
      refine ⟨side_in ⟨by decide, rfl, rfl, by omega, rfl⟩, fun cap' => ?_⟩
      conv => whnf
      repeat (first | (refine br.yes ?_; conv => whnf) | (refine br.no ?_; conv => whnf))
      have e1 : addN j 1 = j + 1 := by rw [addN_eq]
      rw [add_one (by omega), e1]
      refine hR hj1 _ _ _ [⟨true, .af (j + 1) (walsh k j ++ [wal k j]), cap' * 1⟩] ?hw5 ?tr ⟨cap', by rw [walsh_next], rfl⟩
      case hw5 =>
        repeat (first | exact weak_nil | refine weak_same ?_ | refine weak_junk ?_)
      case tr =>
        exact .inr ⟨1, by simp, rfl, rfl, rfl⟩
  · have hj2 : j = N := by have := ge_of_lss h1; omega
    subst hj2
    conv => whnf
    repeat (first | (refine br.yes ?_; conv => whnf) | (refine br.no ?_; conv => whnf))
    exact ⟨rfl, fun e he => by simp at he; subst he; exact .inl rfl, rfl, hK cap⟩
end
end Go.Proofs.Ytfoflddjcijaeaa
