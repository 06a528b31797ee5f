/- Contracts of functions, by a walk each. -/
import Derived.Test.YtpcakgdagmcopaaWal
namespace Go.Proofs.Ytpcakgdagmcopaa
open Go Go.Fw
section
variable {w0 : World} {m : MS} {K : AV → MS → Prop}
/-! the primes and their codes -/
def isPrm (n : Int) : Bool := decide (n = 3) || decide (n = 7) || decide (n = 11) || decide (n = 19) || decide (n = 23) || decide (n = 31)
theorem c_l10Prime {n : Int} (hK : K (AV.bool (isPrm n)) m) : CallLeaf Try.prog w0 43 [AV.int n] m K := by
  refine fn_go hmix h43 ?_
  conv => whnf
  repeat (first | (refine br.yes ?_; conv => whnf) | (refine br.no ?_; conv => whnf))
  refine br_intro (fun h1 => ?_) (fun h1 => ?_)
  · conv => whnf
    repeat (first | (refine br.yes ?_; conv => whnf) | (refine br.no ?_; conv => whnf))
    exact K_bool hK (by rw [cmI_eql] at h1; simp at h1; simp [isPrm, h1])
  conv => whnf
  repeat (first | (refine br.yes ?_; conv => whnf) | (refine br.no ?_; conv => whnf))
  refine br_intro (fun h2 => ?_) (fun h2 => ?_)
  · conv => whnf
    repeat (first | (refine br.yes ?_; conv => whnf) | (refine br.no ?_; conv => whnf))
    exact K_bool hK (by rw [cmI_eql] at h2; simp at h2; simp [isPrm, h2])
  conv => whnf
  repeat (first | (refine br.yes ?_; conv => whnf) | (refine br.no ?_; conv => whnf))
  refine br_intro (fun h3 => ?_) (fun h3 => ?_)
  · conv => whnf
    repeat (first | (refine br.yes ?_; conv => whnf) | (refine br.no ?_; conv => whnf))
    exact K_bool hK (by rw [cmI_eql] at h3; simp at h3; simp [isPrm, h3])
  conv => whnf
  repeat (first | (refine br.yes ?_; conv => whnf) | (refine br.no ?_; conv => whnf))
  refine br_intro (fun h4 => ?_) (fun h4 => ?_)
  · conv => whnf
    repeat (first | (refine br.yes ?_; conv => whnf) | (refine br.no ?_; conv => whnf))
    exact K_bool hK (by rw [cmI_eql] at h4; simp at h4; simp [isPrm, h4])
  conv => whnf
  repeat (first | (refine br.yes ?_; conv => whnf) | (refine br.no ?_; conv => whnf))
  refine br_intro (fun h5 => ?_) (fun h5 => ?_)
  · conv => whnf
    repeat (first | (refine br.yes ?_; conv => whnf) | (refine br.no ?_; conv => whnf))
    exact K_bool hK (by rw [cmI_eql] at h5; simp at h5; simp [isPrm, h5])
  conv => whnf
  repeat (first | (refine br.yes ?_; conv => whnf) | (refine br.no ?_; conv => whnf))
  exact K_bool hK (by rw [cmI_eql] at *; simp at h1 h2 h3 h4 h5; simp [isPrm, h1, h2, h3, h4, h5])
def prms : List Int := [3, 7, 11, 19, 23, 31]
theorem prms_yes {n : Int} {k : Nat} (hk : k < 6) (h : cmI .eql n (prms.getD k 0) = true) : isPrm n = true := by
  rw [cmI_eql] at h
  simp only [decide_eq_true_eq] at h
  have : ∀ k : Fin 6, isPrm (prms.getD (k : Nat) 0) = true := by decide +kernel
  rw [h]; exact this ⟨k, hk⟩
theorem prms_no {n : Int} (h : ∀ k, k < 6 → cmI .eql n (prms.getD k 0) = false) : isPrm n = false := by
  have h0 := h 0 (by decide); have h1 := h 1 (by decide); have h2 := h 2 (by decide); have h3 := h 3 (by decide); have h4 := h 4 (by decide); have h5 := h 5 (by decide)
  rw [cmI_eql] at h0 h1 h2 h3 h4 h5
  simp [prms] at h0 h1 h2 h3 h4 h5
  simp [isPrm, h0, h1, h2, h3, h4, h5]
theorem c_index {n : Int} {i c r : Nat} {o : Bool} (hi : getE m i = some ⟨o, .ai 6 prms, r⟩) (h1 : isPrm n = true → ∀ q : Nat, K (AV.int q) m) (h2 : isPrm n = false → K (AV.int (-1)) m) : CallLeaf Try.prog w0 71 [.sl i [] 1 0 6 c, AV.int n] m K := by
  refine fn_go hmix h71 ?_
  conv => whnf
  repeat (first | (refine br.yes ?_; conv => whnf) | (refine br.no ?_; conv => whnf))
  refine loop_inv 6 (fun k ts m' => m' = m ∧ ts = [.sl i [] 1 0 6 c, AV.int n, .junk, .junk, AV.int 0, .junk, .junk, AV.int 6, AV.int k, .junk, .junk, .junk, .junk, .junk, .junk, .junk, .junk, .junk, .junk] ∧ ∀ q, q < k → cmI .eql n (prms.getD q 0) = false) _ _ ?hw trim_no ⟨rfl, rfl, fun q hq => by omega⟩ ?_
  case hw =>
    repeat (first | exact weak_nil | refine weak_same ?_ | refine weak_junk ?_)
  rintro k hk ts m' ⟨rfl, rfl, hpre⟩ R hR
  conv => whnf
  repeat (first | (refine br.yes ?_; conv => whnf) | (refine br.no ?_; conv => whnf))
  refine br_intro (fun g1 => ?_) (fun g1 => ?_)
  · have hk1 : k < 6 := lt_of_lss (n := 6) g1
    conv => whnf
    repeat (first | (refine br.yes ?_; conv => whnf) | (refine br.no ?_; conv => whnf))
    refine ⟨side_in ⟨by omega, by omega⟩, ?_⟩
    conv => whnf
    repeat (first | (refine br.yes ?_; conv => whnf) | (refine br.no ?_; conv => whnf))
    rw [hi]
    conv => whnf
    repeat (first | (refine br.yes ?_; conv => whnf) | (refine br.no ?_; conv => whnf))
    refine ⟨side_in (at_lt hk1), ?_⟩
    rw [nth_at]
    conv => whnf
    repeat (first | (refine br.yes ?_; conv => whnf) | (refine br.no ?_; conv => whnf))
    refine br_intro (fun g2 => ?_) (fun g2 => ?_)
    · conv => whnf
      repeat (first | (refine br.yes ?_; conv => whnf) | (refine br.no ?_; conv => whnf))
      exact h1 (prms_yes hk1 g2) k
    · conv => whnf
      repeat (first | (refine br.yes ?_; conv => whnf) | (refine br.no ?_; conv => whnf))
      rw [add_one (by omega)]
      refine hR hk1 _ _ _ _ ?hw2 trim_no ⟨rfl, rfl, fun q hq => ?_⟩
      case hw2 =>
        repeat (first | exact weak_nil | refine weak_same ?_ | refine weak_junk ?_)
      rcases Nat.lt_or_ge q k with hlt | hge
      · exact hpre q hlt
      · have : q = k := by omega
        subst this; exact g2
  · have hk2 : 6 ≤ k := ge_of_lss (n := 6) g1
    conv => whnf
    repeat (first | (refine br.yes ?_; conv => whnf) | (refine br.no ?_; conv => whnf))
    exact h2 (prms_no (fun q hq => hpre q (by omega)))
theorem c_contains {n : Int} {i c r : Nat} {o : Bool} (hi : getE m i = some ⟨o, .ai 6 prms, r⟩) (hK : K (AV.bool (isPrm n)) m) : CallLeaf Try.prog w0 63 [.sl i [] 1 0 6 c, AV.int n] m K := by
  refine fn_go hmix h63 ?_
  conv => whnf
  repeat (first | (refine br.yes ?_; conv => whnf) | (refine br.no ?_; conv => whnf))
  refine c_index hi (fun h q => ?_) (fun h => ?_)
  · conv => whnf
    repeat (first | (refine br.yes ?_; conv => whnf) | (refine br.no ?_; conv => whnf))
    exact K_bool hK (by rw [h, cmI_geq]; symm; simp)
  · conv => whnf
    repeat (first | (refine br.yes ?_; conv => whnf) | (refine br.no ?_; conv => whnf))
    exact K_bool hK (by rw [h, cmI_geq]; rfl)
theorem c_isLegendre {n : Int} (hK : K (AV.bool (isPrm n)) m) : CallLeaf Try.prog w0 46 [AV.int n] m K := call_nil rfl fun w0 => by
  refine fn_go hmix h46 ?_
  conv => whnf
  repeat (first | (refine br.yes ?_; conv => whnf) | (refine br.no ?_; conv => whnf))
  refine c_contains (i := 0) rfl ?_
  conv => whnf
  repeat (first | (refine br.yes ?_; conv => whnf) | (refine br.no ?_; conv => whnf))
  exact ⟨rfl, hK⟩
theorem prm_nat {n : Int} (h : isPrm n = true) : ∃ N : Nat, n = N ∧ N ≤ 31 ∧ 0 < N := by
  simp [isPrm] at h
  exact ⟨n.toNat, by omega, by omega, by omega⟩
/-- is it a square (of one below x)? -/
def isSq (p x j : Nat) : Bool := (List.range x).any fun k => k * k % p == j
theorem isSq_next (p x j : Nat) : isSq p (x + 1) j = (isSq p x j || x * x % p == j) := by unfold isSq; rw [List.range_succ]; simp
def legV (p x j : Nat) : Nat := signW (!isSq p x j)
def legs (p j : Nat) : List Nat := (List.range j).map (legV p p)
theorem legs_next (p j : Nat) : legs p j ++ [legV p p j] = legs p (j + 1) := by unfold legs; rw [List.range_succ]; simp
theorem legs_length (p j : Nat) : (legs p j).length = j := by simp [legs]
def legT (p x : Nat) : List Nat := (List.range p).map (legV p x)
theorem legT_all (p : Nat) : legT p p = legs p p := rfl
theorem legT_zero (p : Nat) : legT p 0 = List.replicate p 3212836864 := by
  unfold legT
  apply List.ext_getElem (by simp)
  intro i h1 h2
  simp [legV, isSq, signW]
theorem legT_set {p x : Nat} : (legT p x).set (x * x % p) 1065353216 = legT p (x + 1) := by
  unfold legT
  apply List.ext_getElem (by simp)
  intro i h1 h2
  simp only [List.length_map, List.length_range] at h2
  by_cases hi : x * x % p = i
  · subst hi
    simp [legV, isSq_next, signW]
  · rw [List.getElem_set_ne hi]
    have : (x * x % p == i) = false := by simpa using hi
    simp [legV, isSq_next, this]
set_option maxRecDepth 20000 in
set_option maxHeartbeats 1600000 in
theorem c_l10Legendre {p : Nat} (hp : p ≤ 31) (hp0 : 0 < p) (hK : ∀ cap : Nat, K (.sl m.length [] 1 0 p cap) (m ++ [⟨true, .af p (legs p p), cap * 1⟩])) : CallLeaf Try.prog w0 44 [AV.int p] m K := call_fresh rfl fun w0 => by
  refine fn_go hmix h44 ?_
  conv => whnf
  repeat (first | (refine br.yes ?_; conv => whnf) | (refine br.no ?_; conv => whnf))
  refine loop_inv p (fun j ts m => ∃ cap, m = [⟨true, .af j (legs p j), cap * 1⟩] ∧ ts = [AV.int p, .junk, nilS 1, .sl 0 [] 1 0 j cap, AV.int j, .junk, .junk, .junk, .junk, .junk, .junk, .junk, .junk, .junk, .junk, .junk, .junk, .junk, .junk, .junk, .junk, .junk, .junk, .junk, .junk, .junk, .junk, .junk, .junk, .junk]) _ _ ?hw (.inl rfl) ⟨0, rfl, rfl⟩ ?_
  case hw =>
    repeat (first | exact weak_nil | refine weak_same ?_ | refine weak_junk ?_)
  rintro j hj ts m' ⟨cap, rfl, rfl⟩ R hR
  conv => whnf
  repeat (first | (refine br.yes ?_; conv => whnf) | (refine br.no ?_; conv => whnf))
  refine br_intro (fun h1 => ?_) (fun h1 => ?_)
  · have hj1 := lt_of_lss h1
    conv => whnf
    repeat (first | (refine br.yes ?_; conv => whnf) | (refine br.no ?_; conv => whnf))
    refine loop_inv p (fun x ts m => m = [⟨true, .af j (legs p j), cap * 1⟩] ∧ ts = [AV.int p, .junk, nilS 1, .sl 0 [] 1 0 j cap, AV.int j, .flt .f32 (legV p x j), AV.int x, .junk, .junk, .junk, .junk, .junk, .junk, .junk, .junk, .junk, .junk, .junk, .junk, .junk, .junk, .junk, .junk, .junk, .junk, .junk, .junk, .junk, .junk, .junk]) _ _ ?hw2 (.inl rfl) ⟨rfl, rfl⟩ ?_
    case hw2 =>
      repeat (first | exact weak_nil | refine weak_same ?_ | refine weak_junk ?_)
    rintro x hx ts m' ⟨rfl, rfl⟩ R2 hR2
    conv => whnf
    repeat (first | (refine br.yes ?_; conv => whnf) | (refine br.no ?_; conv => whnf))
    refine br_intro (fun h2 => ?_) (fun h2 => ?_)
    · have hx1 := lt_of_lss h2
      have hxx : x * x ≤ 31 * 31 := Nat.mul_le_mul (by omega) (by omega)
      have hpi : (p : Int) ≠ 0 := by omega
      have e1 : arI .mul .i64 (x : Int) (x : Int) = ((x * x : Nat) : Int) := mul_nat (by omega) (by omega)
      have e2 : arI .rem .i64 ((x * x : Nat) : Int) (p : Int) = ((x * x % p : Nat) : Int) := rem_nat _ _
      conv => whnf
      repeat (first | (refine br.yes ?_; conv => whnf) | (refine br.no ?_; conv => whnf))
      refine ⟨side_in hpi, ?_⟩
      rw [e1, e2]
      obtain ⟨q, hq⟩ : ∃ q, q = x * x % p := ⟨_, rfl⟩
      rw [← hq]
      conv => whnf
      repeat (first | (refine br.yes ?_; conv => whnf) | (refine br.no ?_; conv => whnf))
      refine br_intro (fun h3 => ?_) (fun h3 => ?_)
      · have h4 : x * x % p = j := by
          rw [← hq]
          rw [cmI_eql] at h3
          simp only [decide_eq_true_eq] at h3
          exact Int.ofNat.inj h3
        have e : (1065353216 : Nat) = legV p (x + 1) j := by
          have : (x * x % p == j) = true := by simpa using h4
          simp [legV, isSq_next, this, signW]
        conv => whnf
        repeat (first | (refine br.yes ?_; conv => whnf) | (refine br.no ?_; conv => whnf))
        rw [add_one (by omega), e]
        refine hR2 hx1 _ _ _ _ ?hw3 trim_no ⟨rfl, rfl⟩
        case hw3 =>
          repeat (first | exact weak_nil | refine weak_same ?_ | refine weak_junk ?_)
      · have h4 : x * x % p ≠ j := by
          rw [cmI_eql] at h3
          simp only [decide_eq_false_iff_not] at h3
          exact fun h => h3 (by rw [hq, h])
        have e : legV p x j = legV p (x + 1) j := by
          have : (x * x % p == j) = false := by simpa using h4
          simp [legV, isSq_next, this]
        conv => whnf
        repeat (first | (refine br.yes ?_; conv => whnf) | (refine br.no ?_; conv => whnf))
        rw [add_one (by omega), e]
        refine hR2 hx1 _ _ _ _ ?hw4 trim_no ⟨rfl, rfl⟩
        case hw4 =>
          repeat (first | exact weak_nil | refine weak_same ?_ | refine weak_junk ?_)
    · have hx2 : x = p := by have := ge_of_lss h2; omega
      subst hx2
      conv => whnf
      repeat (first | (refine br.yes ?_; conv => whnf) | (refine br.no ?_; conv => whnf))
      refine ⟨side_in ⟨by decide, rfl, rfl, by omega, rfl⟩, fun cap' => ?_⟩
      conv => whnf
      repeat (first | (refine br.yes ?_; conv => whnf) | (refine br.no ?_; conv => whnf))
      have e1 : addN j 1 = j + 1 := by rw [addN_eq]
      rw [add_one (by omega), e1]
      refine hR hj1 _ _ _ [⟨true, .af (j + 1) (legs x j ++ [legV x x j]), cap' * 1⟩] ?hw5 ?tr ⟨cap', by rw [legs_next], rfl⟩
      case hw5 =>
        repeat (first | exact weak_nil | refine weak_same ?_ | refine weak_junk ?_)
      case tr =>
        exact .inr ⟨1, by simp, rfl, rfl, rfl⟩
  · have hj2 : j = p := by have := ge_of_lss h1; omega
    subst hj2
    conv => whnf
    repeat (first | (refine br.yes ?_; conv => whnf) | (refine br.no ?_; conv => whnf))
    exact ⟨rfl, fun e he => by simp at he; subst he; exact .inl rfl, rfl, hK cap⟩
set_option maxRecDepth 20000 in
set_option maxHeartbeats 1600000 in
theorem c_legendre {p : Nat} (hp : p ≤ 31) (hp0 : 0 < p) (hK : ∀ cap r : Nat, K (.sl m.length [] 1 0 p cap) (m ++ [⟨true, .af p (legs p p), r⟩])) : CallLeaf Try.prog w0 47 [AV.int p] m K := call_fresh rfl fun w0 => by
  refine fn_go hmix h47 ?_
  conv => whnf
  repeat (first | (refine br.yes ?_; conv => whnf) | (refine br.no ?_; conv => whnf))
  refine ⟨side_in ⟨rfl, by omega, by omega⟩, ?_⟩
  conv => whnf
  repeat (first | (refine br.yes ?_; conv => whnf) | (refine br.no ?_; conv => whnf))
  rw [toN_nat, mulN_f]
  refine loop_inv p (fun j ts m => m = [⟨true, .af p (mapTo (fun _ => 3212836864) (List.replicate p 0) j), p⟩] ∧ ts = [AV.int p, .junk, nilS 1, .sl 0 [] 1 0 p p, .junk, .junk, .junk, .junk, .sl 0 [] 1 0 p p, AV.int p, AV.int j, .junk, .junk, .junk, .junk, .junk, .junk, .junk, .junk, .junk, .junk, .junk, .junk, .junk, .junk, .junk, .junk, .junk, .junk, .junk]) _ _ ?hw (.inl rfl) ⟨by rw [mapTo_zero]; rfl, rfl⟩ ?_
  case hw =>
    repeat (first | exact weak_nil | refine weak_same ?_ | refine weak_junk ?_)
  rintro j hj ts m' ⟨rfl, rfl⟩ R hR
  conv => whnf
  repeat (first | (refine br.yes ?_; conv => whnf) | (refine br.no ?_; conv => whnf))
  refine br_intro (fun h1 => ?_) (fun h1 => ?_)
  · have hj1 := lt_of_lss h1
    conv => whnf
    repeat (first | (refine br.yes ?_; conv => whnf) | (refine br.no ?_; conv => whnf))
    refine ⟨side_in ⟨by omega, by omega⟩, ?_⟩
    conv => whnf
    repeat (first | (refine br.yes ?_; conv => whnf) | (refine br.no ?_; conv => whnf))
    refine ⟨side_in (at_lt hj1), ?_⟩
    conv => whnf
    repeat (first | (refine br.yes ?_; conv => whnf) | (refine br.no ?_; conv => whnf))
    rw [add_one (by omega), upd_at]
    refine hR hj1 _ _ _ _ ?hw2 trim_no ⟨by rw [← mapTo_set (fun _ => 3212836864) 0 (by simpa using hj1)] <;> rfl, rfl⟩
    case hw2 =>
      repeat (first | exact weak_nil | refine weak_same ?_ | refine weak_junk ?_)
  · have hj2 : j = p := by have := ge_of_lss h1; omega
    subst hj2
    have e0 : mapTo (fun _ => 3212836864) (List.replicate j 0) j = legT j 0 := by rw [mapTo_all _ (by simp), legT_zero]; simp
    conv => whnf
    repeat (first | (refine br.yes ?_; conv => whnf) | (refine br.no ?_; conv => whnf))
    rw [e0]
    refine loop_inv j (fun x ts m => m = [⟨true, .af j (legT j x), j⟩] ∧ ts = [AV.int j, .junk, nilS 1, .sl 0 [] 1 0 j j, .junk, .junk, .junk, .junk, .junk, .junk, .junk, .junk, .junk, .junk, .junk, .junk, .junk, AV.int j, AV.int x, .junk, .junk, .junk, .junk, .junk, .junk, .junk, .junk, .junk, .junk, .junk]) _ _ ?hw3 (.inl rfl) ⟨rfl, rfl⟩ ?_
    case hw3 =>
      repeat (first | exact weak_nil | refine weak_same ?_ | refine weak_junk ?_)
    rintro x hx ts m' ⟨rfl, rfl⟩ R2 hR2
    conv => whnf
    repeat (first | (refine br.yes ?_; conv => whnf) | (refine br.no ?_; conv => whnf))
    refine br_intro (fun h2 => ?_) (fun h2 => ?_)
    · have hx1 := lt_of_lss h2
      have hxx : x * x ≤ 31 * 31 := Nat.mul_le_mul (by omega) (by omega)
      have hlt := Nat.mod_lt (x * x) hp0
      conv => whnf
      repeat (first | (refine br.yes ?_; conv => whnf) | (refine br.no ?_; conv => whnf))
      refine ⟨side_in (by omega), ?_⟩
      rw [mul_nat (by omega) (by omega), rem_nat]
      obtain ⟨q, hq⟩ : ∃ q, q = x * x % j := ⟨_, rfl⟩
      rw [← hq] at hlt ⊢
      conv => whnf
      repeat (first | (refine br.yes ?_; conv => whnf) | (refine br.no ?_; conv => whnf))
      refine ⟨side_in ⟨by omega, by omega⟩, ?_⟩
      conv => whnf
      repeat (first | (refine br.yes ?_; conv => whnf) | (refine br.no ?_; conv => whnf))
      refine ⟨side_in (at_lt hlt), ?_⟩
      conv => whnf
      repeat (first | (refine br.yes ?_; conv => whnf) | (refine br.no ?_; conv => whnf))
      rw [add_one (by omega), upd_at]
      refine hR2 hx1 _ _ _ _ ?hw4 trim_no ⟨by rw [← legT_set, hq], rfl⟩
      case hw4 =>
        repeat (first | exact weak_nil | refine weak_same ?_ | refine weak_junk ?_)
    · have hx2 : x = j := by have := ge_of_lss h2; omega
      subst hx2
      conv => whnf
      repeat (first | (refine br.yes ?_; conv => whnf) | (refine br.no ?_; conv => whnf))
      exact ⟨rfl, fun e he => by simp at he; subst he; exact .inl rfl, rfl, hK _ _⟩
theorem rspec_LegendreCode_no {n : Int} (h : isPrm n = false) (hK : K (.tup [nilS 1, AV.int 2]) m) : CallLeaf Try.prog w0 29 [AV.int n] m K := by
  refine fn_go hmix h29 ?_
  conv => whnf
  repeat (first | (refine br.yes ?_; conv => whnf) | (refine br.no ?_; conv => whnf))
  refine c_l10Prime ?_
  conv => whnf
  repeat (first | (refine br.yes ?_; conv => whnf) | (refine br.no ?_; conv => whnf))
  refine br_true (by rw [notB_eq, h]; rfl) ?_
  conv => whnf
  repeat (first | (refine br.yes ?_; conv => whnf) | (refine br.no ?_; conv => whnf))
  exact hK
theorem rimpl_LegendreCode_no {n : Int} (h : isPrm n = false) (hK : K (.tup [nilS 1, AV.int 2]) m) : CallLeaf Try.prog w0 31 [AV.int n] m K := by
  refine fn_go hmix h31 ?_
  conv => whnf
  repeat (first | (refine br.yes ?_; conv => whnf) | (refine br.no ?_; conv => whnf))
  refine c_isLegendre ?_
  conv => whnf
  repeat (first | (refine br.yes ?_; conv => whnf) | (refine br.no ?_; conv => whnf))
  refine br_true (by rw [notB_eq, h]; rfl) ?_
  conv => whnf
  repeat (first | (refine br.yes ?_; conv => whnf) | (refine br.no ?_; conv => whnf))
  exact hK
theorem rspec_LegendreCode_ok {p : Nat} (h : isPrm p = true) (hp : p ≤ 31) (hp0 : 0 < p) (hK : ∀ r cap : Nat, K (.tup [.sl m.length [] 1 0 p cap, AV.int 0]) (m ++ [⟨true, .af p (legs p p), r⟩])) : CallLeaf Try.prog w0 29 [AV.int p] m K := by
  refine fn_go hmix h29 ?_
  conv => whnf
  repeat (first | (refine br.yes ?_; conv => whnf) | (refine br.no ?_; conv => whnf))
  refine c_l10Prime ?_
  conv => whnf
  repeat (first | (refine br.yes ?_; conv => whnf) | (refine br.no ?_; conv => whnf))
  refine br_false (by rw [notB_eq, h]; rfl) ?_
  conv => whnf
  repeat (first | (refine br.yes ?_; conv => whnf) | (refine br.no ?_; conv => whnf))
  refine c_l10Legendre hp hp0 (fun cap => ?_)
  conv => whnf
  repeat (first | (refine br.yes ?_; conv => whnf) | (refine br.no ?_; conv => whnf))
  exact hK _ cap
theorem rimpl_LegendreCode_ok {p : Nat} (h : isPrm p = true) (hp : p ≤ 31) (hp0 : 0 < p) (hK : ∀ r cap : Nat, K (.tup [.sl m.length [] 1 0 p cap, AV.int 0]) (m ++ [⟨true, .af p (legs p p), r⟩])) : CallLeaf Try.prog w0 31 [AV.int p] m K := by
  refine fn_go hmix h31 ?_
  conv => whnf
  repeat (first | (refine br.yes ?_; conv => whnf) | (refine br.no ?_; conv => whnf))
  refine c_isLegendre ?_
  conv => whnf
  repeat (first | (refine br.yes ?_; conv => whnf) | (refine br.no ?_; conv => whnf))
  refine br_false (by rw [notB_eq, h]; rfl) ?_
  conv => whnf
  repeat (first | (refine br.yes ?_; conv => whnf) | (refine br.no ?_; conv => whnf))
  refine c_legendre hp hp0 (fun cap r => ?_)
  conv => whnf
  repeat (first | (refine br.yes ?_; conv => whnf) | (refine br.no ?_; conv => whnf))
  exact hK _ _

theorem ospec_LegendreCode_no {n : Int} (h : isPrm n = false) (hK : ∀ cap : Nat, K (.tup [.sl m.length [] 1 0 0 cap, AV.int 2]) (m ++ [⟨true, .af 0 [], cap * 1⟩])) : CallLeaf Try.prog w0 11 [AV.int n] m K := by
  refine fn_go hmix h11 ?_
  conv => whnf
  repeat (first | (refine br.yes ?_; conv => whnf) | (refine br.no ?_; conv => whnf))
  refine rspec_LegendreCode_no h ?_
  conv => whnf
  repeat (first | (refine br.yes ?_; conv => whnf) | (refine br.no ?_; conv => whnf))
  refine c_l01PlusNumbers0 (fun cap => ?_)
  conv => whnf
  repeat (first | (refine br.yes ?_; conv => whnf) | (refine br.no ?_; conv => whnf))
  exact hK cap
theorem oimpl_LegendreCode_no {n : Int} (h : isPrm n = false) (hK : K (.tup [nilS 1, AV.int 2]) m) : CallLeaf Try.prog w0 12 [AV.int n] m K := by
  refine fn_go hmix h12 ?_
  conv => whnf
  repeat (first | (refine br.yes ?_; conv => whnf) | (refine br.no ?_; conv => whnf))
  refine rimpl_LegendreCode_no h ?_
  conv => whnf
  repeat (first | (refine br.yes ?_; conv => whnf) | (refine br.no ?_; conv => whnf))
  refine c_plainFs0 ?_
  conv => whnf
  repeat (first | (refine br.yes ?_; conv => whnf) | (refine br.no ?_; conv => whnf))
  exact hK
set_option maxRecDepth 20000 in
theorem ospec_LegendreCode_ok {p : Nat} (h : isPrm p = true) (hp : p ≤ 31) (hp0 : 0 < p) (hK : ∀ c1 cap : Nat, K (.tup [.sl (m.length + 1) [] 1 0 p cap, AV.int 0]) (m ++ [⟨true, .af p (legs p p), c1⟩, ⟨true, .af p ((legs p p).map plusN), cap * 1⟩])) : CallLeaf Try.prog w0 11 [AV.int p] m K := call_fresh rfl fun w0 => by
  refine fn_go hmix h11 ?_
  conv => whnf
  repeat (first | (refine br.yes ?_; conv => whnf) | (refine br.no ?_; conv => whnf))
  refine rspec_LegendreCode_ok h hp hp0 (fun r1 c1 => ?_)
  conv => whnf
  repeat (first | (refine br.yes ?_; conv => whnf) | (refine br.no ?_; conv => whnf))
  refine c_l01PlusNumbers (legs_length p p) (by omega) (fun cap => ?_)
  conv => whnf
  repeat (first | (refine br.yes ?_; conv => whnf) | (refine br.no ?_; conv => whnf))
  exact ⟨rfl, fun e he => by simp at he; rcases he with rfl | rfl <;> exact .inl rfl, rfl, hK _ cap⟩
set_option maxRecDepth 20000 in
theorem oimpl_LegendreCode_ok {p : Nat} (h : isPrm p = true) (hp : p ≤ 31) (hp0 : 0 < p) (hK : ∀ c1 cap : Nat, K (.tup [.sl m.length [] 1 0 p cap, AV.int 0]) (m ++ [⟨true, .af p ((legs p p).map plusN), c1⟩])) : CallLeaf Try.prog w0 12 [AV.int p] m K := call_fresh rfl fun w0 => by
  refine fn_go hmix h12 ?_
  conv => whnf
  repeat (first | (refine br.yes ?_; conv => whnf) | (refine br.no ?_; conv => whnf))
  refine rimpl_LegendreCode_ok h hp hp0 (fun r1 c1 => ?_)
  conv => whnf
  repeat (first | (refine br.yes ?_; conv => whnf) | (refine br.no ?_; conv => whnf))
  refine c_plainFs (legs_length p p) (by omega) ?_
  conv => whnf
  repeat (first | (refine br.yes ?_; conv => whnf) | (refine br.no ?_; conv => whnf))
  exact ⟨rfl, fun e he => by simp at he; subst he; exact .inl rfl, rfl, hK _ _⟩

set_option maxRecDepth 20000 in
theorem law_LegendreCode_no {n : Int} (h : isPrm n = false) (hK : ∀ m, K (AV.bool true) m) : CallLeaf Try.prog w0 4 [AV.int n] [] K := by
  refine fn_go hmix h4 ?_
  conv => whnf
  repeat (first | (refine br.yes ?_; conv => whnf) | (refine br.no ?_; conv => whnf))
  refine ospec_LegendreCode_no h (fun cap => ?_)
  conv => whnf
  repeat (first | (refine br.yes ?_; conv => whnf) | (refine br.no ?_; conv => whnf))
  refine oimpl_LegendreCode_no h ?_
  conv => whnf
  repeat (first | (refine br.yes ?_; conv => whnf) | (refine br.no ?_; conv => whnf))
  refine c_eqFloatsS0 ?_
  conv => whnf
  repeat (first | (refine br.yes ?_; conv => whnf) | (refine br.no ?_; conv => whnf))
  refine br_false (by rw [notB_eq]; rfl) ?_
  conv => whnf
  repeat (first | (refine br.yes ?_; conv => whnf) | (refine br.no ?_; conv => whnf))
  refine br_false (neq_self _) ?_
  conv => whnf
  repeat (first | (refine br.yes ?_; conv => whnf) | (refine br.no ?_; conv => whnf))
  refine c_markF0 (k := 1) ?_
  conv => whnf
  repeat (first | (refine br.yes ?_; conv => whnf) | (refine br.no ?_; conv => whnf))
  refine c_heldF0 (k := 1) ?_
  conv => whnf
  repeat (first | (refine br.yes ?_; conv => whnf) | (refine br.no ?_; conv => whnf))
  refine br_false (by rw [cmI_lss]; simp; try omega) ?_
  conv => whnf
  repeat (first | (refine br.yes ?_; conv => whnf) | (refine br.no ?_; conv => whnf))
  refine br_false (neq_self _) ?_
  conv => whnf
  repeat (first | (refine br.yes ?_; conv => whnf) | (refine br.no ?_; conv => whnf))
  refine oimpl_LegendreCode_no h ?_
  conv => whnf
  repeat (first | (refine br.yes ?_; conv => whnf) | (refine br.no ?_; conv => whnf))
  refine c_eqFloatsS0 ?_
  conv => whnf
  repeat (first | (refine br.yes ?_; conv => whnf) | (refine br.no ?_; conv => whnf))
  refine br_false (by rw [notB_eq]; rfl) ?_
  conv => whnf
  repeat (first | (refine br.yes ?_; conv => whnf) | (refine br.no ?_; conv => whnf))
  refine br_false (neq_self _) ?_
  conv => whnf
  repeat (first | (refine br.yes ?_; conv => whnf) | (refine br.no ?_; conv => whnf))
  refine c_heldF0 (k := 1) ?_
  conv => whnf
  repeat (first | (refine br.yes ?_; conv => whnf) | (refine br.no ?_; conv => whnf))
  refine br_false (by rw [cmI_lss]; simp; try omega) ?_
  conv => whnf
  repeat (first | (refine br.yes ?_; conv => whnf) | (refine br.no ?_; conv => whnf))
  refine br_false (neq_self _) ?_
  conv => whnf
  repeat (first | (refine br.yes ?_; conv => whnf) | (refine br.no ?_; conv => whnf))
  exact hK _
set_option maxRecDepth 20000 in
theorem law_LegendreCode_ok {p : Nat} (h : isPrm p = true) (hp : p ≤ 31) (hp0 : 0 < p) (hK : ∀ m, K (AV.bool true) m) : CallLeaf Try.prog w0 4 [AV.int p] [] K := by
  have hlen : ((legs p p).map plusN).length = p := by simp [legs_length]
  refine fn_go hmix h4 ?_
  conv => whnf
  repeat (first | (refine br.yes ?_; conv => whnf) | (refine br.no ?_; conv => whnf))
  refine ospec_LegendreCode_ok h hp hp0 (fun c1 cap => ?_)
  conv => whnf
  repeat (first | (refine br.yes ?_; conv => whnf) | (refine br.no ?_; conv => whnf))
  refine oimpl_LegendreCode_ok h hp hp0 (fun c2 cap2 => ?_)
  conv => whnf
  repeat (first | (refine br.yes ?_; conv => whnf) | (refine br.no ?_; conv => whnf))
  refine c_eqFloatsS (i := 2) (j := 1) rfl rfl (by omega) ?_
  conv => whnf
  repeat (first | (refine br.yes ?_; conv => whnf) | (refine br.no ?_; conv => whnf))
  refine br_false (by rw [notB_eq]; rfl) ?_
  conv => whnf
  repeat (first | (refine br.yes ?_; conv => whnf) | (refine br.no ?_; conv => whnf))
  refine br_false (neq_self _) ?_
  conv => whnf
  repeat (first | (refine br.yes ?_; conv => whnf) | (refine br.no ?_; conv => whnf))
  refine c_markF (i := 2) (k := 1) rfl hlen (by omega) (by decide) (fun ys hy hmy => ?_)
  conv => whnf
  repeat (first | (refine br.yes ?_; conv => whnf) | (refine br.no ?_; conv => whnf))
  refine c_heldF (i := 2) (k := 1) rfl hy (by omega) (by decide) hmy ?_
  conv => whnf
  repeat (first | (refine br.yes ?_; conv => whnf) | (refine br.no ?_; conv => whnf))
  refine br_false (by rw [cmI_lss]; simp; try omega) ?_
  conv => whnf
  repeat (first | (refine br.yes ?_; conv => whnf) | (refine br.no ?_; conv => whnf))
  refine br_false (neq_self _) ?_
  conv => whnf
  repeat (first | (refine br.yes ?_; conv => whnf) | (refine br.no ?_; conv => whnf))
  refine oimpl_LegendreCode_ok h hp hp0 (fun c3 cap3 => ?_)
  conv => whnf
  repeat (first | (refine br.yes ?_; conv => whnf) | (refine br.no ?_; conv => whnf))
  refine c_eqFloatsS (i := 3) (j := 1) rfl rfl (by omega) ?_
  conv => whnf
  repeat (first | (refine br.yes ?_; conv => whnf) | (refine br.no ?_; conv => whnf))
  refine br_false (by rw [notB_eq]; rfl) ?_
  conv => whnf
  repeat (first | (refine br.yes ?_; conv => whnf) | (refine br.no ?_; conv => whnf))
  refine br_false (neq_self _) ?_
  conv => whnf
  repeat (first | (refine br.yes ?_; conv => whnf) | (refine br.no ?_; conv => whnf))
  refine c_heldF (i := 2) (k := 1) rfl hy (by omega) (by decide) hmy ?_
  conv => whnf
  repeat (first | (refine br.yes ?_; conv => whnf) | (refine br.no ?_; conv => whnf))
  refine br_false (by rw [cmI_lss]; simp; try omega) ?_
  conv => whnf
  repeat (first | (refine br.yes ?_; conv => whnf) | (refine br.no ?_; conv => whnf))
  refine br_false (neq_self _) ?_
  conv => whnf
  repeat (first | (refine br.yes ?_; conv => whnf) | (refine br.no ?_; conv => whnf))
  exact hK _

theorem law_LegendreCode {n : Int} (hK : ∀ m, K (AV.bool true) m) : CallLeaf Try.prog w0 4 [AV.int n] [] K := by
  cases h : isPrm n with
  | false => exact law_LegendreCode_no h hK
  | true =>
    obtain ⟨N, rfl, hN, h0⟩ := prm_nat h
    exact law_LegendreCode_ok h hN h0 hK

end
end Go.Proofs.Ytpcakgdagmcopaa
