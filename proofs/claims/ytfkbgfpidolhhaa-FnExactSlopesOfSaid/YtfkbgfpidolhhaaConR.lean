/- Contracts of functions, by a walk each. -/
import Derived.Test.YtfkbgfpidolhhaaConM
namespace Go.Proofs.Ytfkbgfpidolhhaa
open Go Go.Fw
section
variable {w0 : World} {m : MS} {K : AV → MS → Prop}
def parts (xs : List Int) : Bool := xs.all fun x => inR x 0 63
/-- the code of a wrapped map -/
def rcode (N : Int) (xs : List Int) : Int := if isMap N xs then (if parts xs then 0 else 5) else 1
theorem c55 {N : Int} {i n c r : Nat} {o : Bool} {xs : List Int} (hi : getE m i = some ⟨o, .ai n xs, r⟩) (hx : xs.length = n) (hn : n ≤ 4611686018427387904)
    (hK : K (AV.int (rcode N xs)) m) : CallLeaf Try.prog w0 55 [AV.int N, .sl i [] 1 0 n c] m K := by
  refine fn_go hmix h55 ?_
  conv => whnf
  repeat (first | (refine br.yes ?_; conv => whnf) | (refine br.no ?_; conv => whnf))
  refine c49 hi hx hn ?_
  conv => whnf
  repeat (first | (refine br.yes ?_; conv => whnf) | (refine br.no ?_; conv => whnf))
  refine br_intro (fun h => ?_) (fun h => ?_)
  · conv => whnf
    repeat (first | (refine br.yes ?_; conv => whnf) | (refine br.no ?_; conv => whnf))
    exact K_int hK (by rw [notB_eq] at h; simp at h; simp [rcode, h])
  conv => whnf
  repeat (first | (refine br.yes ?_; conv => whnf) | (refine br.no ?_; conv => whnf))
  have hm : isMap N xs = true := by rw [notB_eq] at h; simpa using h
  refine loop_inv n (fun k ts m' => m' = m ∧ ts = [AV.int N, .sl i [] 1 0 n c, .junk, .junk, AV.int 0, AV.int k, .junk, .junk, .junk, .junk, .junk, .junk, .junk, .junk, .junk, .junk, .junk, .junk, .junk, .junk, .junk, .junk] ∧ ∀ p, p < k → inR (xs.getD p 0) 0 63 = true) _ _ ?hw trim_no ⟨rfl, rfl, by intro p hp; omega⟩ ?_
  case hw =>
    repeat (first | exact weak_nil | refine weak_same ?_ | refine weak_junk ?_)
  rintro k hk ts m' ⟨rfl, rfl, hpre⟩ R hR
  conv => whnf
  repeat (first | (refine br.yes ?_; conv => whnf) | (refine br.no ?_; conv => whnf))
  refine br_intro (fun h3 => ?_) (fun h3 => ?_)
  · conv => whnf
    repeat (first | (refine br.yes ?_; conv => whnf) | (refine br.no ?_; conv => whnf))
    have hk1 := lt_of_lss h3
    refine ⟨side_in ⟨by omega, by omega⟩, ?_⟩
    conv => whnf
    repeat (first | (refine br.yes ?_; conv => whnf) | (refine br.no ?_; conv => whnf))
    rw [hi]
    conv => whnf
    repeat (first | (refine br.yes ?_; conv => whnf) | (refine br.no ?_; conv => whnf))
    refine ⟨side_in (at_lt hk1), ?_⟩
    rw [nth_at]
    conv => whnf
    repeat (first | (refine br.yes ?_; conv => whnf) | (refine br.no ?_; conv => whnf))
    refine c40 ?_
    conv => whnf
    repeat (first | (refine br.yes ?_; conv => whnf) | (refine br.no ?_; conv => whnf))
    refine br_intro (fun h4 => ?_) (fun h4 => ?_)
    · conv => whnf
      repeat (first | (refine br.yes ?_; conv => whnf) | (refine br.no ?_; conv => whnf))
      have h5 : parts xs = false := all_not (k := k) (by omega) (by rw [notB_eq] at h4; simpa using h4)
      exact K_int hK (by simp [rcode, hm, h5])
    · conv => whnf
      repeat (first | (refine br.yes ?_; conv => whnf) | (refine br.no ?_; conv => whnf))
      rw [add_one (by omega)]
      refine hR hk1 _ _ _ _ ?hw2 trim_no ⟨rfl, rfl, fun p hp => ?_⟩
      case hw2 =>
        repeat (first | exact weak_nil | refine weak_same ?_ | refine weak_junk ?_)
      rw [notB_eq] at h4
      simp at h4
      rcases Nat.lt_or_ge p k with hlt | hge
      · exact hpre p hlt
      · have : p = k := by omega
        subst this; simpa using h4
  · conv => whnf
    repeat (first | (refine br.yes ?_; conv => whnf) | (refine br.no ?_; conv => whnf))
    have hk2 := ge_of_lss h3
    have h5 : parts xs = true := all_from (fun p hp => hpre p (by omega))
    exact K_int hK (by simp [rcode, hm, h5])
theorem c68 {x : Int} (hK : K (AV.bool (inR x 0 63)) m) : CallLeaf Try.prog w0 68 [AV.int x] m K := by
  refine fn_go hmix h68 ?_
  conv => whnf
  repeat (first | (refine br.yes ?_; conv => whnf) | (refine br.no ?_; conv => whnf))
  refine c47 ?_
  conv => whnf
  repeat (first | (refine br.yes ?_; conv => whnf) | (refine br.no ?_; conv => whnf))
  exact hK
theorem c67 {x : Int} (hK : K (AV.bool (!inR x 0 63)) m) : CallLeaf Try.prog w0 67 [AV.int x] m K := by
  refine fn_go hmix h67 ?_
  conv => whnf
  repeat (first | (refine br.yes ?_; conv => whnf) | (refine br.no ?_; conv => whnf))
  refine c68 ?_
  conv => whnf
  repeat (first | (refine br.yes ?_; conv => whnf) | (refine br.no ?_; conv => whnf))
  exact K_bool hK (notB_eq _).symm
theorem c56 {N : Int} {i n c r : Nat} {o : Bool} {xs : List Int} (hi : getE m i = some ⟨o, .ai n xs, r⟩) (hx : xs.length = n) (hn : n ≤ 4611686018427387904)
    (hK : K (AV.int (rcode N xs)) m) : CallLeaf Try.prog w0 56 [AV.int N, .sl i [] 1 0 n c] m K := by
  refine fn_go hmix h56 ?_
  conv => whnf
  repeat (first | (refine br.yes ?_; conv => whnf) | (refine br.no ?_; conv => whnf))
  refine c19 hi hx hn ?_
  conv => whnf
  repeat (first | (refine br.yes ?_; conv => whnf) | (refine br.no ?_; conv => whnf))
  refine br_intro (fun h => ?_) (fun h => ?_)
  · conv => whnf
    repeat (first | (refine br.yes ?_; conv => whnf) | (refine br.no ?_; conv => whnf))
    exact K_int hK (by rw [notB_eq] at h; simp at h; simp [rcode, h])
  conv => whnf
  repeat (first | (refine br.yes ?_; conv => whnf) | (refine br.no ?_; conv => whnf))
  have hm : isMap N xs = true := by rw [notB_eq] at h; simpa using h
  refine c50 (by kernel_rfl) (fun x K hK => c67 hK) hi hx hn ?_
  have hany : (xs.any fun x => !inR x 0 63) = !parts xs := by
    unfold parts
    rw [List.not_all_eq_any_not]
  conv => whnf
  repeat (first | (refine br.yes ?_; conv => whnf) | (refine br.no ?_; conv => whnf))
  refine br_intro (fun h2 => ?_) (fun h2 => ?_)
  · conv => whnf
    repeat (first | (refine br.yes ?_; conv => whnf) | (refine br.no ?_; conv => whnf))
    rw [hany] at h2
    exact K_int hK (by simp at h2; simp [rcode, hm, h2])
  · conv => whnf
    repeat (first | (refine br.yes ?_; conv => whnf) | (refine br.no ?_; conv => whnf))
    rw [hany] at h2
    exact K_int hK (by simp at h2; simp [rcode, hm, h2])
/-- the residue of four cells -/
def resAt (xs : List Int) (N r c : Nat) : Int :=
  arI .quo .i64 (arI .add .i64 (arI .add .i64 (arI .add .i64 (less (xs.getD (N * r + c) 0) (xs.getD (N * r + c + 1) 0)) (less (xs.getD (N * r + c + 1) 0) (xs.getD (N * r + N + c + 1) 0))) (less (xs.getD (N * r + N + c + 1) 0) (xs.getD (N * r + N + c) 0))) (less (xs.getD (N * r + N + c) 0) (xs.getD (N * r + c) 0))) 64
def resTo (xs : List Int) (N r c : Nat) : List Int := ((List.range r).flatMap fun i => (List.range (N - 1)).map fun j => resAt xs N i j) ++ (List.range c).map fun j => resAt xs N r j
theorem resTo_next (xs : List Int) (N r c : Nat) : resTo xs N r (c + 1) = resTo xs N r c ++ [resAt xs N r c] := by
  unfold resTo; rw [List.range_succ]; simp
theorem resTo_row (xs : List Int) (N r : Nat) : resTo xs N (r + 1) 0 = resTo xs N r (N - 1) := by
  unfold resTo; rw [List.range_succ]; simp
theorem resTo_length (xs : List Int) (N r c : Nat) : (resTo xs N r c).length = r * (N - 1) + c := by
  unfold resTo
  rw [List.length_append, List.length_flatMap]
  simp
  induction r with
  | zero => simp
  | succ r ih => rw [List.range_succ, List.map_append, List.sum_append, ih]; simp; rw [Nat.succ_mul]
theorem mul_nat {a b : Nat} (ha : a ≤ 1048576) (hb : b ≤ 1048576) : arI .mul .i64 (a : Int) (b : Int) = ((a * b : Nat) : Int) := by
  have h : a * b ≤ 1048576 * 1048576 := Nat.mul_le_mul ha hb
  have h2 : ((a : Int) * (b : Int)) = ((a * b : Nat) : Int) := by simp
  rw [arI_mul, h2, wrap_fits (by omega) (by omega)]
theorem add_nat {a b : Nat} (ha : a ≤ 1048576) (hb : b ≤ 1048576) : arI .add .i64 (a : Int) (b : Int) = ((a + b : Nat) : Int) := by
  have h2 : ((a : Int) + (b : Int)) = ((a + b : Nat) : Int) := by simp
  rw [arI_add, h2, wrap_fits (by omega) (by omega)]
theorem sub_one {a : Nat} (h1 : 0 < a) (ha : a ≤ 4611686018427387904) : arI .sub .i64 (a : Int) 1 = ((a - 1 : Nat) : Int) := by
  rw [arI_sub, wrap_fits (by omega) (by omega)]; omega
theorem res_bound {N r c : Nat} (hr : r + 1 < N) (hc : c + 1 < N) : N * r + N + c + 1 < N * N := by
  have h : N * (r + 2) ≤ N * N := Nat.mul_le_mul_left N (by omega)
  have h2 : N * (r + 2) = N * r + N + N := by rw [Nat.mul_add]; omega
  omega
def resids (N : Int) (xs : List Int) : List Int := resTo xs N.toNat (N.toNat - 1) 0
theorem rcode_map {N : Int} {xs : List Int} (h : rcode N xs = 0) : isMap N xs = true := by
  unfold rcode at h
  cases h2 : isMap N xs with
  | true => rfl
  | false => rw [h2] at h; simp at h
theorem map_square {N : Int} {xs : List Int} (h : isMap N xs = true) : ∃ n : Nat, N = n ∧ n ≤ 8 ∧ 0 < n ∧ xs.length = n * n := by
  unfold isMap at h
  simp at h
  obtain ⟨⟨h1, h2⟩, _⟩ := h
  obtain ⟨n, rfl, h8, h0⟩ := side_nat h1
  refine ⟨n, rfl, h8, h0, ?_⟩
  unfold square at h2
  rw [mul_nat (by omega) (by omega)] at h2
  simp only [decide_eq_true_eq] at h2
  omega
theorem c30_bad {N : Int} {i n c r : Nat} {o : Bool} {xs : List Int} (hi : getE m i = some ⟨o, .ai n xs, r⟩) (hx : xs.length = n) (hn : n ≤ 1048576) (hno : rcode N xs ≠ 0)
    (hK : K (.tup [nilS 1, AV.int (rcode N xs)]) m) : CallLeaf Try.prog w0 30 [AV.int N, .sl i [] 1 0 n c] m K := by
  refine fn_go hmix h30 ?_
  conv => whnf
  repeat (first | (refine br.yes ?_; conv => whnf) | (refine br.no ?_; conv => whnf))
  refine c55 hi hx (by omega) ?_
  conv => whnf
  repeat (first | (refine br.yes ?_; conv => whnf) | (refine br.no ?_; conv => whnf))
  refine br_true (by rw [cmI_neq]; simpa using hno) ?_
  conv => whnf
  repeat (first | (refine br.yes ?_; conv => whnf) | (refine br.no ?_; conv => whnf))
  exact hK
theorem c31_bad {N : Int} {i n c r : Nat} {o : Bool} {xs : List Int} (hi : getE m i = some ⟨o, .ai n xs, r⟩) (hx : xs.length = n) (hn : n ≤ 1048576) (hno : rcode N xs ≠ 0)
    (hK : K (.tup [nilS 1, AV.int (rcode N xs)]) m) : CallLeaf Try.prog w0 31 [AV.int N, .sl i [] 1 0 n c] m K := by
  refine fn_go hmix h31 ?_
  conv => whnf
  repeat (first | (refine br.yes ?_; conv => whnf) | (refine br.no ?_; conv => whnf))
  refine c56 hi hx (by omega) ?_
  conv => whnf
  repeat (first | (refine br.yes ?_; conv => whnf) | (refine br.no ?_; conv => whnf))
  refine br_true (by rw [cmI_neq]; simpa using hno) ?_
  conv => whnf
  repeat (first | (refine br.yes ?_; conv => whnf) | (refine br.no ?_; conv => whnf))
  exact hK
set_option maxRecDepth 20000 in
set_option maxHeartbeats 1600000 in
theorem c30_2 {n0 r0 : Nat} {o0 : Bool} {x0 : List Int} {n1 r1 : Nat} {o1 : Bool} {x1 : List Int} {N : Int} {c : Nat} (hx : x1.length = n1) (hn : n1 ≤ 1048576) (hok : rcode N x1 = 0)
    (hK : ∀ cap : Nat, K (.tup [.sl 2 [] 1 0 (resids N x1).length cap, AV.int 0]) [⟨o0, .ai n0 x0, r0⟩, ⟨o1, .ai n1 x1, r1⟩, ⟨true, .ai (resids N x1).length (resids N x1), cap * 1⟩]) : CallLeaf Try.prog w0 30 [AV.int N, .sl 1 [] 1 0 n1 c] [⟨o0, .ai n0 x0, r0⟩, ⟨o1, .ai n1 x1, r1⟩] K := by
  obtain ⟨M, rfl, hM8, hM0, hsq⟩ := map_square (rcode_map hok)
  refine fn_go hmix h30 ?_
  conv => whnf
  repeat (first | (refine br.yes ?_; conv => whnf) | (refine br.no ?_; conv => whnf))
  refine c55 (i := 1) rfl hx (by omega) ?_
  rw [hok]
  conv => whnf
  repeat (first | (refine br.yes ?_; conv => whnf) | (refine br.no ?_; conv => whnf))
  refine br_false (neq_self _) ?_
  conv => whnf
  repeat (first | (refine br.yes ?_; conv => whnf) | (refine br.no ?_; conv => whnf))
  refine loop_inv (M - 1) (fun r ts m => ∃ cap, m = [⟨o0, .ai n0 x0, r0⟩, ⟨o1, .ai n1 x1, r1⟩, ⟨true, .ai (resTo x1 M r 0).length (resTo x1 M r 0), cap * 1⟩] ∧ ts = [AV.int (M : Int), .sl 1 [] 1 0 n1 c, .junk, .junk, nilS 1, AV.int 0, AV.int 0, .sl 2 [] 1 0 (resTo x1 M r 0).length cap, AV.int r, .junk, .junk, .junk, .junk, .junk, .junk, .junk, .junk, .junk, .junk, .junk, .junk, .junk, .junk, .junk, .junk, .junk, .junk, .junk, .junk, .junk, .junk, .junk, .junk, .junk, .junk, .junk, .junk, .junk, .junk, .junk, .junk, .junk, .junk, .junk, .junk, .junk, .junk, .junk, .junk, .junk, .junk, .junk, .junk, .junk, .junk, .junk, .junk, .junk, .junk, .junk, .junk, .junk, .junk, .junk, .junk, .junk, .junk, .junk, .junk, .junk, .junk, .junk, .junk, .junk, .junk, .junk, .junk, .junk, .junk, .junk, .junk, .junk, .junk, .junk, .junk, .junk, .junk, .junk, .junk, .junk, .junk]) _ _ ?hw (.inl rfl) ⟨0, rfl, rfl⟩ ?_
  case hw =>
    repeat (first | exact weak_nil | refine weak_same ?_ | refine weak_junk ?_)
  rintro r hr ts m ⟨cap, rfl, rfl⟩ R hR
  conv => whnf
  repeat (first | (refine br.yes ?_; conv => whnf) | (refine br.no ?_; conv => whnf))
  refine br_intro (fun h3 => ?_) (fun h3 => ?_)
  · have hr1 : r + 1 < M := by rw [add_one (by omega)] at h3; exact lt_of_lss h3
    conv => whnf
    repeat (first | (refine br.yes ?_; conv => whnf) | (refine br.no ?_; conv => whnf))
    refine loop_inv (M - 1) (fun q ts m => ∃ cap, m = [⟨o0, .ai n0 x0, r0⟩, ⟨o1, .ai n1 x1, r1⟩, ⟨true, .ai (resTo x1 M r q).length (resTo x1 M r q), cap * 1⟩] ∧ ts = [AV.int (M : Int), .sl 1 [] 1 0 n1 c, .junk, .junk, nilS 1, AV.int 0, AV.int 0, .sl 2 [] 1 0 (resTo x1 M r q).length cap, AV.int r, AV.int q, .junk, .junk, .junk, .junk, .junk, .junk, .junk, .junk, .junk, .junk, .junk, .junk, .junk, .junk, .junk, .junk, .junk, .junk, .junk, .junk, .junk, .junk, .junk, .junk, .junk, .junk, .junk, .junk, .junk, .junk, .junk, .junk, .junk, .junk, .junk, .junk, .junk, .junk, .junk, .junk, .junk, .junk, .junk, .junk, .junk, .junk, .junk, .junk, .junk, .junk, .junk, .junk, .junk, .junk, .junk, .junk, .junk, .junk, .junk, .junk, .junk, .junk, .junk, .junk, .junk, .junk, .junk, .junk, .junk, .junk, .junk, .junk, .junk, .junk, .junk, .junk, .junk, .junk, .junk, .junk, .junk]) _ _ ?hw2 (.inl rfl) ⟨cap, rfl, rfl⟩ ?_
    case hw2 =>
      repeat (first | exact weak_nil | refine weak_same ?_ | refine weak_junk ?_)
    rintro q hq ts m ⟨cap, rfl, rfl⟩ R2 hR2
    conv => whnf
    repeat (first | (refine br.yes ?_; conv => whnf) | (refine br.no ?_; conv => whnf))
    refine br_intro (fun h4 => ?_) (fun h4 => ?_)
    · have hq1 : q + 1 < M := by rw [add_one (by omega)] at h4; exact lt_of_lss h4
      have hb := res_bound hr1 hq1
      have hMr : M * r ≤ 64 := Nat.le_trans (Nat.mul_le_mul hM8 (show r ≤ 8 by omega)) (by decide)
      have e1 : arI .mul .i64 (M : Int) (r : Int) = ((M * r : Nat) : Int) := mul_nat (by omega) (by omega)
      have e2 : arI .add .i64 ((M * r : Nat) : Int) (q : Int) = ((M * r + q : Nat) : Int) := add_nat (by omega) (by omega)
      have e3 : arI .add .i64 ((M * r + q : Nat) : Int) 1 = ((M * r + q + 1 : Nat) : Int) := add_one (by omega)
      have e4 : arI .add .i64 ((M * r : Nat) : Int) (M : Int) = ((M * r + M : Nat) : Int) := add_nat (by omega) (by omega)
      have e5 : arI .add .i64 ((M * r + M : Nat) : Int) (q : Int) = ((M * r + M + q : Nat) : Int) := add_nat (by omega) (by omega)
      have e6 : arI .add .i64 ((M * r + M + q : Nat) : Int) 1 = ((M * r + M + q + 1 : Nat) : Int) := add_one (by omega)
      conv => whnf
      repeat (first | (refine br.yes ?_; conv => whnf) | (refine br.no ?_; conv => whnf))
      rw [e1, e2]
      conv => whnf
      repeat (first | (refine br.yes ?_; conv => whnf) | (refine br.no ?_; conv => whnf))
      refine ⟨side_in ⟨by omega, by omega⟩, ?_⟩
      conv => whnf
      repeat (first | (refine br.yes ?_; conv => whnf) | (refine br.no ?_; conv => whnf))
      refine ⟨side_in (at_lt (by omega)), ?_⟩
      rw [nth_at]
      conv => whnf
      repeat (first | (refine br.yes ?_; conv => whnf) | (refine br.no ?_; conv => whnf))
      rw [e1, e2, e3]
      refine ⟨side_in ⟨by omega, by omega⟩, ?_⟩
      conv => whnf
      repeat (first | (refine br.yes ?_; conv => whnf) | (refine br.no ?_; conv => whnf))
      refine ⟨side_in (at_lt (by omega)), ?_⟩
      rw [nth_at]
      conv => whnf
      repeat (first | (refine br.yes ?_; conv => whnf) | (refine br.no ?_; conv => whnf))
      rw [e1, e4, e5, e6]
      refine ⟨side_in ⟨by omega, by omega⟩, ?_⟩
      conv => whnf
      repeat (first | (refine br.yes ?_; conv => whnf) | (refine br.no ?_; conv => whnf))
      refine ⟨side_in (at_lt (by omega)), ?_⟩
      rw [nth_at]
      conv => whnf
      repeat (first | (refine br.yes ?_; conv => whnf) | (refine br.no ?_; conv => whnf))
      rw [e1, e4, e5]
      refine ⟨side_in ⟨by omega, by omega⟩, ?_⟩
      conv => whnf
      repeat (first | (refine br.yes ?_; conv => whnf) | (refine br.no ?_; conv => whnf))
      refine ⟨side_in (at_lt (by omega)), ?_⟩
      rw [nth_at]
      conv => whnf
      repeat (first | (refine br.yes ?_; conv => whnf) | (refine br.no ?_; conv => whnf))
      refine c41 ?_
      conv => whnf
      repeat (first | (refine br.yes ?_; conv => whnf) | (refine br.no ?_; conv => whnf))
      refine c41 ?_
      conv => whnf
      repeat (first | (refine br.yes ?_; conv => whnf) | (refine br.no ?_; conv => whnf))
      refine c41 ?_
      conv => whnf
      repeat (first | (refine br.yes ?_; conv => whnf) | (refine br.no ?_; conv => whnf))
      refine c41 ?_
      conv => whnf
      repeat (first | (refine br.yes ?_; conv => whnf) | (refine br.no ?_; conv => whnf))
      refine ⟨side_in (by decide), ?_⟩
      conv => whnf
      repeat (first | (refine br.yes ?_; conv => whnf) | (refine br.no ?_; conv => whnf))
      have hl := resTo_length x1 M r q
      have hl2 : r * (M - 1) ≤ 8 * 8 := Nat.mul_le_mul (by omega) (by omega)
      refine ⟨side_in ⟨by decide, rfl, rfl, by omega, rfl⟩, fun cap' => ?_⟩
      conv => whnf
      repeat (first | (refine br.yes ?_; conv => whnf) | (refine br.no ?_; conv => whnf))
      have f1 : addN (resTo x1 M r q).length 1 = (resTo x1 M r (q + 1)).length := by rw [resTo_next, addN_eq]; simp
      rw [add_one (by omega), f1]
      have f2 := resTo_next x1 M r q
      refine hR2 (by omega) _ _ _ [⟨o0, .ai n0 x0, r0⟩, ⟨o1, .ai n1 x1, r1⟩, ⟨true, .ai (resTo x1 M r (q + 1)).length (resTo x1 M r q ++ [resAt x1 M r q]), cap' * 1⟩] ?hw3 ?tr3 ⟨cap', by rw [f2], rfl⟩
      case hw3 =>
        repeat (first | exact weak_nil | refine weak_same ?_ | refine weak_junk ?_)
      case tr3 =>
        exact .inr ⟨3, by simp, rfl, rfl, rfl⟩
    · have hq2 : q = M - 1 := by rw [add_one (by omega)] at h4; have := ge_of_lss h4; omega
      subst hq2
      conv => whnf
      repeat (first | (refine br.yes ?_; conv => whnf) | (refine br.no ?_; conv => whnf))
      rw [add_one (by omega), ← resTo_row]
      refine hR (by omega) _ _ _ _ ?hw6 (.inl rfl) ⟨cap, rfl, rfl⟩
      case hw6 =>
        repeat (first | exact weak_nil | refine weak_same ?_ | refine weak_junk ?_)
  · have hr2 : r = M - 1 := by rw [add_one (by omega)] at h3; have := ge_of_lss h3; omega
    subst hr2
    conv => whnf
    repeat (first | (refine br.yes ?_; conv => whnf) | (refine br.no ?_; conv => whnf))
    exact hK cap
set_option maxRecDepth 20000 in
set_option maxHeartbeats 1600000 in
theorem c31_4 {n0 r0 : Nat} {o0 : Bool} {x0 : List Int} {n1 r1 : Nat} {o1 : Bool} {x1 : List Int} {n2 r2 : Nat} {o2 : Bool} {x2 : List Int} {n3 r3 : Nat} {o3 : Bool} {x3 : List Int} {N : Int} {c : Nat} (hx : x3.length = n3) (hn : n3 ≤ 1048576) (hok : rcode N x3 = 0)
    (hK : ∀ cap : Nat, K (.tup [.sl 4 [] 1 0 (resids N x3).length cap, AV.int 0]) [⟨o0, .ai n0 x0, r0⟩, ⟨o1, .ai n1 x1, r1⟩, ⟨o2, .ai n2 x2, r2⟩, ⟨o3, .ai n3 x3, r3⟩, ⟨true, .ai (resids N x3).length (resids N x3), cap * 1⟩]) : CallLeaf Try.prog w0 31 [AV.int N, .sl 3 [] 1 0 n3 c] [⟨o0, .ai n0 x0, r0⟩, ⟨o1, .ai n1 x1, r1⟩, ⟨o2, .ai n2 x2, r2⟩, ⟨o3, .ai n3 x3, r3⟩] K := by
  obtain ⟨M, rfl, hM8, hM0, hsq⟩ := map_square (rcode_map hok)
  refine fn_go hmix h31 ?_
  conv => whnf
  repeat (first | (refine br.yes ?_; conv => whnf) | (refine br.no ?_; conv => whnf))
  refine c56 (i := 3) rfl hx (by omega) ?_
  rw [hok]
  conv => whnf
  repeat (first | (refine br.yes ?_; conv => whnf) | (refine br.no ?_; conv => whnf))
  refine br_false (neq_self _) ?_
  conv => whnf
  repeat (first | (refine br.yes ?_; conv => whnf) | (refine br.no ?_; conv => whnf))
  rw [sub_one (by omega) (by omega)]
  refine loop_inv (M - 1) (fun r ts m => ∃ cap, m = [⟨o0, .ai n0 x0, r0⟩, ⟨o1, .ai n1 x1, r1⟩, ⟨o2, .ai n2 x2, r2⟩, ⟨o3, .ai n3 x3, r3⟩, ⟨true, .ai (resTo x3 M r 0).length (resTo x3 M r 0), cap * 1⟩] ∧ ts = [AV.int (M : Int), .sl 3 [] 1 0 n3 c, .junk, .junk, nilS 1, AV.int 0, AV.int 0, .sl 4 [] 1 0 (resTo x3 M r 0).length cap, .junk, .junk, .junk, .junk, .junk, .junk, .junk, .junk, .junk, .junk, .junk, .junk, .junk, .junk, AV.int (M - 1 : Nat), AV.int r, .junk, .junk, .junk, .junk, .junk, .junk, .junk, .junk, .junk, .junk, .junk, .junk, .junk, .junk, .junk, .junk, .junk, .junk, .junk, .junk, .junk, .junk, .junk, .junk, .junk, .junk, .junk, .junk, .junk, .junk, .junk, .junk, .junk, .junk, .junk, .junk, .junk, .junk, .junk, .junk, .junk, .junk, .junk, .junk, .junk, .junk, .junk, .junk, .junk, .junk, .junk, .junk, .junk, .junk, .junk, .junk, .junk, .junk, .junk, .junk, .junk, .junk, .junk, .junk, .junk, .junk, .junk]) _ _ ?hw (.inl rfl) ⟨0, rfl, rfl⟩ ?_
  case hw =>
    repeat (first | exact weak_nil | refine weak_same ?_ | refine weak_junk ?_)
  rintro r hr ts m ⟨cap, rfl, rfl⟩ R hR
  conv => whnf
  repeat (first | (refine br.yes ?_; conv => whnf) | (refine br.no ?_; conv => whnf))
  refine br_intro (fun h3 => ?_) (fun h3 => ?_)
  · have hr1 : r + 1 < M := by have := lt_of_lss h3; omega
    conv => whnf
    repeat (first | (refine br.yes ?_; conv => whnf) | (refine br.no ?_; conv => whnf))
    rw [sub_one (by omega) (by omega)]
    refine loop_inv (M - 1) (fun q ts m => ∃ cap, m = [⟨o0, .ai n0 x0, r0⟩, ⟨o1, .ai n1 x1, r1⟩, ⟨o2, .ai n2 x2, r2⟩, ⟨o3, .ai n3 x3, r3⟩, ⟨true, .ai (resTo x3 M r q).length (resTo x3 M r q), cap * 1⟩] ∧ ts = [AV.int (M : Int), .sl 3 [] 1 0 n3 c, .junk, .junk, nilS 1, AV.int 0, AV.int 0, .sl 4 [] 1 0 (resTo x3 M r q).length cap, AV.int r, .junk, .junk, .junk, .junk, .junk, .junk, .junk, .junk, .junk, .junk, .junk, .junk, .junk, AV.int (M - 1 : Nat), AV.int r, .junk, .junk, .junk, AV.int (M - 1 : Nat), AV.int q, .junk, .junk, .junk, .junk, .junk, .junk, .junk, .junk, .junk, .junk, .junk, .junk, .junk, .junk, .junk, .junk, .junk, .junk, .junk, .junk, .junk, .junk, .junk, .junk, .junk, .junk, .junk, .junk, .junk, .junk, .junk, .junk, .junk, .junk, .junk, .junk, .junk, .junk, .junk, .junk, .junk, .junk, .junk, .junk, .junk, .junk, .junk, .junk, .junk, .junk, .junk, .junk, .junk, .junk, .junk, .junk, .junk, .junk, .junk, .junk, .junk, .junk]) _ _ ?hw2 (.inl rfl) ⟨cap, rfl, rfl⟩ ?_
    case hw2 =>
      repeat (first | exact weak_nil | refine weak_same ?_ | refine weak_junk ?_)
    rintro q hq ts m ⟨cap, rfl, rfl⟩ R2 hR2
    conv => whnf
    repeat (first | (refine br.yes ?_; conv => whnf) | (refine br.no ?_; conv => whnf))
    refine br_intro (fun h4 => ?_) (fun h4 => ?_)
    · have hq1 : q + 1 < M := by have := lt_of_lss h4; omega
      have hb := res_bound hr1 hq1
      have hMr : M * r ≤ 64 := Nat.le_trans (Nat.mul_le_mul hM8 (show r ≤ 8 by omega)) (by decide)
      have e1 : arI .mul .i64 (M : Int) (r : Int) = ((M * r : Nat) : Int) := mul_nat (by omega) (by omega)
      have e2 : arI .add .i64 ((M * r : Nat) : Int) (q : Int) = ((M * r + q : Nat) : Int) := add_nat (by omega) (by omega)
      have e3 : arI .add .i64 ((M * r + q : Nat) : Int) 1 = ((M * r + q + 1 : Nat) : Int) := add_one (by omega)
      have e4 : arI .add .i64 ((M * r : Nat) : Int) (M : Int) = ((M * r + M : Nat) : Int) := add_nat (by omega) (by omega)
      have e5 : arI .add .i64 ((M * r + M : Nat) : Int) (q : Int) = ((M * r + M + q : Nat) : Int) := add_nat (by omega) (by omega)
      have e6 : arI .add .i64 ((M * r + M + q : Nat) : Int) 1 = ((M * r + M + q + 1 : Nat) : Int) := add_one (by omega)
      conv => whnf
      repeat (first | (refine br.yes ?_; conv => whnf) | (refine br.no ?_; conv => whnf))
      rw [e1, e2]
      conv => whnf
      repeat (first | (refine br.yes ?_; conv => whnf) | (refine br.no ?_; conv => whnf))
      refine ⟨side_in ⟨by omega, by omega⟩, ?_⟩
      conv => whnf
      repeat (first | (refine br.yes ?_; conv => whnf) | (refine br.no ?_; conv => whnf))
      refine ⟨side_in (at_lt (by omega)), ?_⟩
      rw [nth_at]
      conv => whnf
      repeat (first | (refine br.yes ?_; conv => whnf) | (refine br.no ?_; conv => whnf))
      rw [e1, e2, e3]
      refine ⟨side_in ⟨by omega, by omega⟩, ?_⟩
      conv => whnf
      repeat (first | (refine br.yes ?_; conv => whnf) | (refine br.no ?_; conv => whnf))
      refine ⟨side_in (at_lt (by omega)), ?_⟩
      rw [nth_at]
      conv => whnf
      repeat (first | (refine br.yes ?_; conv => whnf) | (refine br.no ?_; conv => whnf))
      rw [e1, e4, e5, e6]
      refine ⟨side_in ⟨by omega, by omega⟩, ?_⟩
      conv => whnf
      repeat (first | (refine br.yes ?_; conv => whnf) | (refine br.no ?_; conv => whnf))
      refine ⟨side_in (at_lt (by omega)), ?_⟩
      rw [nth_at]
      conv => whnf
      repeat (first | (refine br.yes ?_; conv => whnf) | (refine br.no ?_; conv => whnf))
      rw [e1, e4, e5]
      refine ⟨side_in ⟨by omega, by omega⟩, ?_⟩
      conv => whnf
      repeat (first | (refine br.yes ?_; conv => whnf) | (refine br.no ?_; conv => whnf))
      refine ⟨side_in (at_lt (by omega)), ?_⟩
      rw [nth_at]
      conv => whnf
      repeat (first | (refine br.yes ?_; conv => whnf) | (refine br.no ?_; conv => whnf))
      refine c43 ?_
      conv => whnf
      repeat (first | (refine br.yes ?_; conv => whnf) | (refine br.no ?_; conv => whnf))
      refine c43 ?_
      conv => whnf
      repeat (first | (refine br.yes ?_; conv => whnf) | (refine br.no ?_; conv => whnf))
      refine c43 ?_
      conv => whnf
      repeat (first | (refine br.yes ?_; conv => whnf) | (refine br.no ?_; conv => whnf))
      refine c43 ?_
      conv => whnf
      repeat (first | (refine br.yes ?_; conv => whnf) | (refine br.no ?_; conv => whnf))
      refine ⟨side_in (by decide), ?_⟩
      conv => whnf
      repeat (first | (refine br.yes ?_; conv => whnf) | (refine br.no ?_; conv => whnf))
      have hl := resTo_length x3 M r q
      have hl2 : r * (M - 1) ≤ 8 * 8 := Nat.mul_le_mul (by omega) (by omega)
      refine ⟨side_in ⟨by decide, rfl, rfl, by omega, rfl⟩, fun cap' => ?_⟩
      conv => whnf
      repeat (first | (refine br.yes ?_; conv => whnf) | (refine br.no ?_; conv => whnf))
      have f1 : addN (resTo x3 M r q).length 1 = (resTo x3 M r (q + 1)).length := by rw [resTo_next, addN_eq]; simp
      rw [add_one (by omega), f1]
      have f2 := resTo_next x3 M r q
      refine hR2 (by omega) _ _ _ [⟨o0, .ai n0 x0, r0⟩, ⟨o1, .ai n1 x1, r1⟩, ⟨o2, .ai n2 x2, r2⟩, ⟨o3, .ai n3 x3, r3⟩, ⟨true, .ai (resTo x3 M r (q + 1)).length (resTo x3 M r q ++ [resAt x3 M r q]), cap' * 1⟩] ?hw3 ?tr3 ⟨cap', by rw [f2], rfl⟩
      case hw3 =>
        repeat (first | exact weak_nil | refine weak_same ?_ | refine weak_junk ?_)
      case tr3 =>
        exact .inr ⟨5, by simp, rfl, rfl, rfl⟩
    · have hq2 : q = M - 1 := by have := ge_of_lss h4; omega
      subst hq2
      conv => whnf
      repeat (first | (refine br.yes ?_; conv => whnf) | (refine br.no ?_; conv => whnf))
      rw [add_one (by omega), ← resTo_row]
      refine hR (by omega) _ _ _ _ ?hw6 (.inl rfl) ⟨cap, rfl, rfl⟩
      case hw6 =>
        repeat (first | exact weak_nil | refine weak_same ?_ | refine weak_junk ?_)
  · have hr2 : r = M - 1 := by have := ge_of_lss h3; omega
    subst hr2
    conv => whnf
    repeat (first | (refine br.yes ?_; conv => whnf) | (refine br.no ?_; conv => whnf))
    exact hK cap
set_option maxRecDepth 20000 in
set_option maxHeartbeats 1600000 in
theorem c31_7 {n0 r0 : Nat} {o0 : Bool} {x0 : List Int} {n1 r1 : Nat} {o1 : Bool} {x1 : List Int} {n2 r2 : Nat} {o2 : Bool} {x2 : List Int} {n3 r3 : Nat} {o3 : Bool} {x3 : List Int} {n4 r4 : Nat} {o4 : Bool} {x4 : List Int} {n5 r5 : Nat} {o5 : Bool} {x5 : List Int} {n6 r6 : Nat} {o6 : Bool} {x6 : List Int} {N : Int} {c : Nat} (hx : x6.length = n6) (hn : n6 ≤ 1048576) (hok : rcode N x6 = 0)
    (hK : ∀ cap : Nat, K (.tup [.sl 7 [] 1 0 (resids N x6).length cap, AV.int 0]) [⟨o0, .ai n0 x0, r0⟩, ⟨o1, .ai n1 x1, r1⟩, ⟨o2, .ai n2 x2, r2⟩, ⟨o3, .ai n3 x3, r3⟩, ⟨o4, .ai n4 x4, r4⟩, ⟨o5, .ai n5 x5, r5⟩, ⟨o6, .ai n6 x6, r6⟩, ⟨true, .ai (resids N x6).length (resids N x6), cap * 1⟩]) : CallLeaf Try.prog w0 31 [AV.int N, .sl 6 [] 1 0 n6 c] [⟨o0, .ai n0 x0, r0⟩, ⟨o1, .ai n1 x1, r1⟩, ⟨o2, .ai n2 x2, r2⟩, ⟨o3, .ai n3 x3, r3⟩, ⟨o4, .ai n4 x4, r4⟩, ⟨o5, .ai n5 x5, r5⟩, ⟨o6, .ai n6 x6, r6⟩] K := by
  obtain ⟨M, rfl, hM8, hM0, hsq⟩ := map_square (rcode_map hok)
  refine fn_go hmix h31 ?_
  conv => whnf
  repeat (first | (refine br.yes ?_; conv => whnf) | (refine br.no ?_; conv => whnf))
  refine c56 (i := 6) rfl hx (by omega) ?_
  rw [hok]
  conv => whnf
  repeat (first | (refine br.yes ?_; conv => whnf) | (refine br.no ?_; conv => whnf))
  refine br_false (neq_self _) ?_
  conv => whnf
  repeat (first | (refine br.yes ?_; conv => whnf) | (refine br.no ?_; conv => whnf))
  rw [sub_one (by omega) (by omega)]
  refine loop_inv (M - 1) (fun r ts m => ∃ cap, m = [⟨o0, .ai n0 x0, r0⟩, ⟨o1, .ai n1 x1, r1⟩, ⟨o2, .ai n2 x2, r2⟩, ⟨o3, .ai n3 x3, r3⟩, ⟨o4, .ai n4 x4, r4⟩, ⟨o5, .ai n5 x5, r5⟩, ⟨o6, .ai n6 x6, r6⟩, ⟨true, .ai (resTo x6 M r 0).length (resTo x6 M r 0), cap * 1⟩] ∧ ts = [AV.int (M : Int), .sl 6 [] 1 0 n6 c, .junk, .junk, nilS 1, AV.int 0, AV.int 0, .sl 7 [] 1 0 (resTo x6 M r 0).length cap, .junk, .junk, .junk, .junk, .junk, .junk, .junk, .junk, .junk, .junk, .junk, .junk, .junk, .junk, AV.int (M - 1 : Nat), AV.int r, .junk, .junk, .junk, .junk, .junk, .junk, .junk, .junk, .junk, .junk, .junk, .junk, .junk, .junk, .junk, .junk, .junk, .junk, .junk, .junk, .junk, .junk, .junk, .junk, .junk, .junk, .junk, .junk, .junk, .junk, .junk, .junk, .junk, .junk, .junk, .junk, .junk, .junk, .junk, .junk, .junk, .junk, .junk, .junk, .junk, .junk, .junk, .junk, .junk, .junk, .junk, .junk, .junk, .junk, .junk, .junk, .junk, .junk, .junk, .junk, .junk, .junk, .junk, .junk, .junk, .junk, .junk]) _ _ ?hw (.inl rfl) ⟨0, rfl, rfl⟩ ?_
  case hw =>
    repeat (first | exact weak_nil | refine weak_same ?_ | refine weak_junk ?_)
  rintro r hr ts m ⟨cap, rfl, rfl⟩ R hR
  conv => whnf
  repeat (first | (refine br.yes ?_; conv => whnf) | (refine br.no ?_; conv => whnf))
  refine br_intro (fun h3 => ?_) (fun h3 => ?_)
  · have hr1 : r + 1 < M := by have := lt_of_lss h3; omega
    conv => whnf
    repeat (first | (refine br.yes ?_; conv => whnf) | (refine br.no ?_; conv => whnf))
    rw [sub_one (by omega) (by omega)]
    refine loop_inv (M - 1) (fun q ts m => ∃ cap, m = [⟨o0, .ai n0 x0, r0⟩, ⟨o1, .ai n1 x1, r1⟩, ⟨o2, .ai n2 x2, r2⟩, ⟨o3, .ai n3 x3, r3⟩, ⟨o4, .ai n4 x4, r4⟩, ⟨o5, .ai n5 x5, r5⟩, ⟨o6, .ai n6 x6, r6⟩, ⟨true, .ai (resTo x6 M r q).length (resTo x6 M r q), cap * 1⟩] ∧ ts = [AV.int (M : Int), .sl 6 [] 1 0 n6 c, .junk, .junk, nilS 1, AV.int 0, AV.int 0, .sl 7 [] 1 0 (resTo x6 M r q).length cap, AV.int r, .junk, .junk, .junk, .junk, .junk, .junk, .junk, .junk, .junk, .junk, .junk, .junk, .junk, AV.int (M - 1 : Nat), AV.int r, .junk, .junk, .junk, AV.int (M - 1 : Nat), AV.int q, .junk, .junk, .junk, .junk, .junk, .junk, .junk, .junk, .junk, .junk, .junk, .junk, .junk, .junk, .junk, .junk, .junk, .junk, .junk, .junk, .junk, .junk, .junk, .junk, .junk, .junk, .junk, .junk, .junk, .junk, .junk, .junk, .junk, .junk, .junk, .junk, .junk, .junk, .junk, .junk, .junk, .junk, .junk, .junk, .junk, .junk, .junk, .junk, .junk, .junk, .junk, .junk, .junk, .junk, .junk, .junk, .junk, .junk, .junk, .junk, .junk, .junk]) _ _ ?hw2 (.inl rfl) ⟨cap, rfl, rfl⟩ ?_
    case hw2 =>
      repeat (first | exact weak_nil | refine weak_same ?_ | refine weak_junk ?_)
    rintro q hq ts m ⟨cap, rfl, rfl⟩ R2 hR2
    conv => whnf
    repeat (first | (refine br.yes ?_; conv => whnf) | (refine br.no ?_; conv => whnf))
    refine br_intro (fun h4 => ?_) (fun h4 => ?_)
    · have hq1 : q + 1 < M := by have := lt_of_lss h4; omega
      have hb := res_bound hr1 hq1
      have hMr : M * r ≤ 64 := Nat.le_trans (Nat.mul_le_mul hM8 (show r ≤ 8 by omega)) (by decide)
      have e1 : arI .mul .i64 (M : Int) (r : Int) = ((M * r : Nat) : Int) := mul_nat (by omega) (by omega)
      have e2 : arI .add .i64 ((M * r : Nat) : Int) (q : Int) = ((M * r + q : Nat) : Int) := add_nat (by omega) (by omega)
      have e3 : arI .add .i64 ((M * r + q : Nat) : Int) 1 = ((M * r + q + 1 : Nat) : Int) := add_one (by omega)
      have e4 : arI .add .i64 ((M * r : Nat) : Int) (M : Int) = ((M * r + M : Nat) : Int) := add_nat (by omega) (by omega)
      have e5 : arI .add .i64 ((M * r + M : Nat) : Int) (q : Int) = ((M * r + M + q : Nat) : Int) := add_nat (by omega) (by omega)
      have e6 : arI .add .i64 ((M * r + M + q : Nat) : Int) 1 = ((M * r + M + q + 1 : Nat) : Int) := add_one (by omega)
      conv => whnf
      repeat (first | (refine br.yes ?_; conv => whnf) | (refine br.no ?_; conv => whnf))
      rw [e1, e2]
      conv => whnf
      repeat (first | (refine br.yes ?_; conv => whnf) | (refine br.no ?_; conv => whnf))
      refine ⟨side_in ⟨by omega, by omega⟩, ?_⟩
      conv => whnf
      repeat (first | (refine br.yes ?_; conv => whnf) | (refine br.no ?_; conv => whnf))
      refine ⟨side_in (at_lt (by omega)), ?_⟩
      rw [nth_at]
      conv => whnf
      repeat (first | (refine br.yes ?_; conv => whnf) | (refine br.no ?_; conv => whnf))
      rw [e1, e2, e3]
      refine ⟨side_in ⟨by omega, by omega⟩, ?_⟩
      conv => whnf
      repeat (first | (refine br.yes ?_; conv => whnf) | (refine br.no ?_; conv => whnf))
      refine ⟨side_in (at_lt (by omega)), ?_⟩
      rw [nth_at]
      conv => whnf
      repeat (first | (refine br.yes ?_; conv => whnf) | (refine br.no ?_; conv => whnf))
      rw [e1, e4, e5, e6]
      refine ⟨side_in ⟨by omega, by omega⟩, ?_⟩
      conv => whnf
      repeat (first | (refine br.yes ?_; conv => whnf) | (refine br.no ?_; conv => whnf))
      refine ⟨side_in (at_lt (by omega)), ?_⟩
      rw [nth_at]
      conv => whnf
      repeat (first | (refine br.yes ?_; conv => whnf) | (refine br.no ?_; conv => whnf))
      rw [e1, e4, e5]
      refine ⟨side_in ⟨by omega, by omega⟩, ?_⟩
      conv => whnf
      repeat (first | (refine br.yes ?_; conv => whnf) | (refine br.no ?_; conv => whnf))
      refine ⟨side_in (at_lt (by omega)), ?_⟩
      rw [nth_at]
      conv => whnf
      repeat (first | (refine br.yes ?_; conv => whnf) | (refine br.no ?_; conv => whnf))
      refine c43 ?_
      conv => whnf
      repeat (first | (refine br.yes ?_; conv => whnf) | (refine br.no ?_; conv => whnf))
      refine c43 ?_
      conv => whnf
      repeat (first | (refine br.yes ?_; conv => whnf) | (refine br.no ?_; conv => whnf))
      refine c43 ?_
      conv => whnf
      repeat (first | (refine br.yes ?_; conv => whnf) | (refine br.no ?_; conv => whnf))
      refine c43 ?_
      conv => whnf
      repeat (first | (refine br.yes ?_; conv => whnf) | (refine br.no ?_; conv => whnf))
      refine ⟨side_in (by decide), ?_⟩
      conv => whnf
      repeat (first | (refine br.yes ?_; conv => whnf) | (refine br.no ?_; conv => whnf))
      have hl := resTo_length x6 M r q
      have hl2 : r * (M - 1) ≤ 8 * 8 := Nat.mul_le_mul (by omega) (by omega)
      refine ⟨side_in ⟨by decide, rfl, rfl, by omega, rfl⟩, fun cap' => ?_⟩
      conv => whnf
      repeat (first | (refine br.yes ?_; conv => whnf) | (refine br.no ?_; conv => whnf))
      have f1 : addN (resTo x6 M r q).length 1 = (resTo x6 M r (q + 1)).length := by rw [resTo_next, addN_eq]; simp
      rw [add_one (by omega), f1]
      have f2 := resTo_next x6 M r q
      refine hR2 (by omega) _ _ _ [⟨o0, .ai n0 x0, r0⟩, ⟨o1, .ai n1 x1, r1⟩, ⟨o2, .ai n2 x2, r2⟩, ⟨o3, .ai n3 x3, r3⟩, ⟨o4, .ai n4 x4, r4⟩, ⟨o5, .ai n5 x5, r5⟩, ⟨o6, .ai n6 x6, r6⟩, ⟨true, .ai (resTo x6 M r (q + 1)).length (resTo x6 M r q ++ [resAt x6 M r q]), cap' * 1⟩] ?hw3 ?tr3 ⟨cap', by rw [f2], rfl⟩
      case hw3 =>
        repeat (first | exact weak_nil | refine weak_same ?_ | refine weak_junk ?_)
      case tr3 =>
        exact .inr ⟨8, by simp, rfl, rfl, rfl⟩
    · have hq2 : q = M - 1 := by have := ge_of_lss h4; omega
      subst hq2
      conv => whnf
      repeat (first | (refine br.yes ?_; conv => whnf) | (refine br.no ?_; conv => whnf))
      rw [add_one (by omega), ← resTo_row]
      refine hR (by omega) _ _ _ _ ?hw6 (.inl rfl) ⟨cap, rfl, rfl⟩
      case hw6 =>
        repeat (first | exact weak_nil | refine weak_same ?_ | refine weak_junk ?_)
  · have hr2 : r = M - 1 := by have := ge_of_lss h3; omega
    subst hr2
    conv => whnf
    repeat (first | (refine br.yes ?_; conv => whnf) | (refine br.no ?_; conv => whnf))
    exact hK cap

end
end Go.Proofs.Ytfkbgfpidolhhaa
