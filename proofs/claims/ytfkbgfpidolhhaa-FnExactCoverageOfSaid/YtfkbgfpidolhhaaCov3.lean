/- Contracts of functions, by a walk each. -/
import Derived.Test.YtfkbgfpidolhhaaCov2
namespace Go.Proofs.Ytfkbgfpidolhhaa
open Go Go.Fw
section
variable {w0 : World} {m : MS} {K : AV → MS → Prop}
theorem c_copyP {i n c r : Nat} {o : Bool} {xs : List (Int × Int)} (hi : getE m i = some ⟨o, .ap n xs, r⟩) (hx : xs.length = n) (hn : n ≤ 1048576)
    (hK : ∀ r, K (.sl m.length [] 2 0 n n) (m ++ [⟨true, .ap n xs, r⟩])) : CallLeaf Try.prog w0 34 [.sl i [] 2 0 n c] m K := call_view1 (args0 := [.sl 0 [] 2 0 n c]) hi rfl rfl rfl fun w0 => by
  refine fn_go hmix h34 ?_
  conv => whnf
  repeat (first | (refine br.yes ?_; conv => whnf) | (refine br.no ?_; conv => whnf))
  refine ⟨side_in ⟨rfl, by omega, by omega⟩, ?_⟩
  conv => whnf
  repeat (first | (refine br.yes ?_; conv => whnf) | (refine br.no ?_; conv => whnf))
  rw [toN_nat, mulN_p]
  refine loop_inv n (fun k ts m' => ∃ ys : List (Int × Int), ys.length = n ∧ (∀ p, p < k → ys.getD p (0, 0) = xs.getD p (0, 0)) ∧ m' = [⟨false, .ap n xs, 0⟩, ⟨true, .ap n ys, n * 2⟩] ∧ ts = [.sl 0 [] 2 0 n c, .junk, nilS 1, .sl 1 [] 2 0 n n, AV.int k, .junk, .junk, .junk, .junk, .junk, .junk, .junk, .junk, .junk, .junk, .junk, .junk, .junk, .junk, .junk, .junk, .junk, .junk]) _ _ ?hw trim_no ⟨List.replicate n (0, 0), by simp, by intro p hp; omega, rfl, rfl⟩ ?_
  case hw =>
    repeat (first | exact weak_nil | refine weak_same ?_ | refine weak_junk ?_)
  rintro k hk ts m' ⟨ys, hy, hpre, rfl, rfl⟩ R hR
  conv => whnf
  repeat (first | (refine br.yes ?_; conv => whnf) | (refine br.no ?_; conv => whnf))
  refine br_intro (fun h1 => ?_) (fun h1 => ?_)
  · conv => whnf
    repeat (first | (refine br.yes ?_; conv => whnf) | (refine br.no ?_; conv => whnf))
    have hk1 := lt_of_lss h1
    refine ⟨side_in ⟨by omega, by omega⟩, ?_⟩
    conv => whnf
    repeat (first | (refine br.yes ?_; conv => whnf) | (refine br.no ?_; conv => whnf))
    refine ⟨side_in (at_lt hk1), ?_⟩
    rw [nth_at]
    conv => whnf
    repeat (first | (refine br.yes ?_; conv => whnf) | (refine br.no ?_; conv => whnf))
    refine c_toPlace ?_
    conv => whnf
    repeat (first | (refine br.yes ?_; conv => whnf) | (refine br.no ?_; conv => whnf))
    refine ⟨side_in ⟨by omega, by omega⟩, ?_⟩
    conv => whnf
    repeat (first | (refine br.yes ?_; conv => whnf) | (refine br.no ?_; conv => whnf))
    refine ⟨side_in (at_lt hk1), ?_⟩
    conv => whnf
    repeat (first | (refine br.yes ?_; conv => whnf) | (refine br.no ?_; conv => whnf))
    rw [add_one (by omega), upd_at]
    refine hR hk1 _ _ _ _ ?hw2 trim_no ⟨ys.set k (xs.getD k (0, 0)), by simp [hy], fun p hp => ?_, rfl, rfl⟩
    case hw2 =>
      repeat (first | exact weak_nil | refine weak_same ?_ | refine weak_junk ?_)
    by_cases hpk : k = p
    · subst hpk; exact getD_set_self (by omega)
    · rw [getD_set_other hpk]; exact hpre p (by omega)
  · conv => whnf
    repeat (first | (refine br.yes ?_; conv => whnf) | (refine br.no ?_; conv => whnf))
    have hk2 := ge_of_lss h1
    have e : ys = xs := ext_getD (d := (0, 0)) (by omega) (fun p hp => hpre p (by omega))
    subst e
    exact ⟨_, rfl, rfl, fun e he => by simp at he; subst he; exact .inl rfl, rfl, hK _⟩
theorem spec_no {n k : Int} {i l c r : Nat} {o : Bool} {xs : List (Int × Int)} (hi : getE m i = some ⟨o, .ap l xs, r⟩) (hx : xs.length = l) (hl : l ≤ 1048576) (h : covOk n k xs = false) (hK : K (.tup [nilS 1, AV.int 2]) m) : CallLeaf Try.prog w0 33 [AV.int n, AV.int k, .sl i [] 2 0 l c] m K :=
  call_view0 (args0 := [AV.int n, AV.int k, .sl 0 [] 2 0 l c]) hi rfl rfl rfl fun w0 => rspec_Cov hx hl (fun _ m => ⟨rfl, hK⟩) (fun N _ h2 => by rw [h] at h2; cases h2)
theorem impl_no {n k : Int} {i l c r : Nat} {o : Bool} {xs : List (Int × Int)} (hi : getE m i = some ⟨o, .ap l xs, r⟩) (hx : xs.length = l) (hl : l ≤ 1048576) (h : covOk n k xs = false) (hK : K (.tup [nilS 1, AV.int 2]) m) : CallLeaf Try.prog w0 35 [AV.int n, AV.int k, .sl i [] 2 0 l c] m K :=
  call_view0 (args0 := [AV.int n, AV.int k, .sl 0 [] 2 0 l c]) hi rfl rfl rfl fun w0 => rimpl_Cov hx hl (fun _ m => ⟨rfl, hK⟩) (fun N _ h2 => by rw [h] at h2; cases h2)
theorem spec_ok {N : Nat} {k : Int} {i l c r : Nat} {o : Bool} {xs : List (Int × Int)} (hi : getE m i = some ⟨o, .ap l xs, r⟩) (hx : xs.length = l) (hl : l ≤ 1048576) (h : covOk N k xs = true) (hK : ∀ r, K (.tup [.sl m.length [] 1 0 (N * N) (N * N), AV.int 0]) (m ++ [⟨true, .ai (N * N) (covL N k xs), r⟩])) : CallLeaf Try.prog w0 33 [AV.int N, AV.int k, .sl i [] 2 0 l c] m K :=
  call_view1 (args0 := [AV.int N, AV.int k, .sl 0 [] 2 0 l c]) hi rfl rfl rfl fun w0 => rspec_Cov hx hl (fun h2 => by rw [h] at h2; cases h2) (fun M hM _ => by
    have e : M = N := by omega
    subst e
    exact ⟨_, rfl, rfl, fun e he => by simp at he; subst he; exact .inl rfl, rfl, hK _⟩)
theorem impl_ok {N : Nat} {k : Int} {i l c r : Nat} {o : Bool} {xs : List (Int × Int)} (hi : getE m i = some ⟨o, .ap l xs, r⟩) (hx : xs.length = l) (hl : l ≤ 1048576) (h : covOk N k xs = true) (hK : ∀ r, K (.tup [.sl m.length [] 1 0 (N * N) (N * N), AV.int 0]) (m ++ [⟨true, .ai (N * N) (covL N k xs), r⟩])) : CallLeaf Try.prog w0 35 [AV.int N, AV.int k, .sl i [] 2 0 l c] m K :=
  call_view1 (args0 := [AV.int N, AV.int k, .sl 0 [] 2 0 l c]) hi rfl rfl rfl fun w0 => rimpl_Cov hx hl (fun h2 => by rw [h] at h2; cases h2) (fun M hM _ => by
    have e : M = N := by omega
    subst e
    exact ⟨_, rfl, rfl, fun e he => by simp at he; subst he; exact .inl rfl, rfl, hK _⟩)
theorem c_szP {i n c : Nat} (hn : n ≤ 1048576) (hK : ∀ z : Int, 0 ≤ z → K (AV.int z) m) : CallLeaf Try.prog w0 32 [.sl i [] 2 0 n c, AV.int 1048576] m K := by
  refine fn_go hmix h32 ?_
  conv => whnf
  repeat (first | (refine br.yes ?_; conv => whnf) | (refine br.no ?_; conv => whnf))
  have e : arI .sub .i64 1048576 (n : Int) = 1048576 - (n : Int) := by rw [arI_sub, wrap_fits (by omega) (by omega)]
  rw [e]
  refine br_false (by rw [cmI_lss]; simp; omega) ?_
  conv => whnf
  repeat (first | (refine br.yes ?_; conv => whnf) | (refine br.no ?_; conv => whnf))
  exact hK _ (by omega)
theorem c_szP2 {i n c : Nat} (hn : ¬ n ≤ 1048576) (hm : n ≤ 9223372036854775807) (hK : K (AV.int (-1)) m) : CallLeaf Try.prog w0 32 [.sl i [] 2 0 n c, AV.int 1048576] m K := by
  refine fn_go hmix h32 ?_
  conv => whnf
  repeat (first | (refine br.yes ?_; conv => whnf) | (refine br.no ?_; conv => whnf))
  have e : arI .sub .i64 1048576 (n : Int) = 1048576 - (n : Int) := by rw [arI_sub, wrap_fits (by omega) (by omega)]
  rw [e]
  refine br_true (by rw [cmI_lss]; simp; omega) ?_
  conv => whnf
  repeat (first | (refine br.yes ?_; conv => whnf) | (refine br.no ?_; conv => whnf))
  exact hK
set_option maxRecDepth 20000 in
set_option maxHeartbeats 1600000 in
theorem law_Cov_no {n k : Int} {l c : Nat} {xs : List (Int × Int)} (hx : xs.length = l) (hl : l ≤ 1048576) (h : covOk n k xs = false) (hK : ∀ m, K (AV.bool true) m) : CallLeaf Try.prog w0 10 [AV.int n, AV.int k, .sl 0 [] 2 0 l c] [⟨false, .ap l xs, 0⟩] K := by
  refine fn_go hmix h10 ?_
  conv => whnf
  repeat (first | (refine br.yes ?_; conv => whnf) | (refine br.no ?_; conv => whnf))
  refine c_szP hl (fun z hz => ?_)
  conv => whnf
  repeat (first | (refine br.yes ?_; conv => whnf) | (refine br.no ?_; conv => whnf))
  refine br_false (by rw [cmI_lss]; simp; omega) ?_
  conv => whnf
  repeat (first | (refine br.yes ?_; conv => whnf) | (refine br.no ?_; conv => whnf))
  refine c_copyP (i := 0) rfl hx hl (fun r1 => ?_)
  conv => whnf
  repeat (first | (refine br.yes ?_; conv => whnf) | (refine br.no ?_; conv => whnf))
  refine spec_no (i := 1) rfl hx hl h ?_
  conv => whnf
  repeat (first | (refine br.yes ?_; conv => whnf) | (refine br.no ?_; conv => whnf))
  refine c_copyP (i := 0) rfl hx hl (fun r2 => ?_)
  conv => whnf
  repeat (first | (refine br.yes ?_; conv => whnf) | (refine br.no ?_; conv => whnf))
  refine impl_no (i := 2) rfl hx hl h ?_
  conv => whnf
  repeat (first | (refine br.yes ?_; conv => whnf) | (refine br.no ?_; conv => whnf))
  refine c20n ?_
  conv => whnf
  repeat (first | (refine br.yes ?_; conv => whnf) | (refine br.no ?_; conv => whnf))
  refine br_false (by rw [notB_eq]; rfl) ?_
  conv => whnf
  repeat (first | (refine br.yes ?_; conv => whnf) | (refine br.no ?_; conv => whnf))
  refine br_false (neq_self _) ?_
  conv => whnf
  repeat (first | (refine br.yes ?_; conv => whnf) | (refine br.no ?_; conv => whnf))
  refine c_copyP (i := 0) rfl hx hl (fun r3 => ?_)
  conv => whnf
  repeat (first | (refine br.yes ?_; conv => whnf) | (refine br.no ?_; conv => whnf))
  refine c23 (i := 2) (j := 3) rfl rfl hx hx (by omega) ?_
  conv => whnf
  repeat (first | (refine br.yes ?_; conv => whnf) | (refine br.no ?_; conv => whnf))
  refine br_false (by rw [notB_eq]; simp) ?_
  conv => whnf
  repeat (first | (refine br.yes ?_; conv => whnf) | (refine br.no ?_; conv => whnf))
  refine c24 (i := 2) (k := 1) rfl hx hl (by decide) (fun ys hy hmy => ?_)
  conv => whnf
  repeat (first | (refine br.yes ?_; conv => whnf) | (refine br.no ?_; conv => whnf))
  refine br_false (by rw [cmI_lss]; simp; omega) ?_
  conv => whnf
  repeat (first | (refine br.yes ?_; conv => whnf) | (refine br.no ?_; conv => whnf))
  refine c20n ?_
  conv => whnf
  repeat (first | (refine br.yes ?_; conv => whnf) | (refine br.no ?_; conv => whnf))
  refine br_false (by rw [notB_eq]; rfl) ?_
  conv => whnf
  repeat (first | (refine br.yes ?_; conv => whnf) | (refine br.no ?_; conv => whnf))
  refine br_false (neq_self _) ?_
  conv => whnf
  repeat (first | (refine br.yes ?_; conv => whnf) | (refine br.no ?_; conv => whnf))
  refine c28n ?_
  conv => whnf
  repeat (first | (refine br.yes ?_; conv => whnf) | (refine br.no ?_; conv => whnf))
  refine c29n ?_
  conv => whnf
  repeat (first | (refine br.yes ?_; conv => whnf) | (refine br.no ?_; conv => whnf))
  refine br_false (by rw [cmI_lss]; rfl) ?_
  conv => whnf
  repeat (first | (refine br.yes ?_; conv => whnf) | (refine br.no ?_; conv => whnf))
  refine br_false (neq_self _) ?_
  conv => whnf
  repeat (first | (refine br.yes ?_; conv => whnf) | (refine br.no ?_; conv => whnf))
  refine c_copyP (i := 0) rfl hx hl (fun r4 => ?_)
  conv => whnf
  repeat (first | (refine br.yes ?_; conv => whnf) | (refine br.no ?_; conv => whnf))
  refine impl_no (i := 4) rfl hx hl h ?_
  conv => whnf
  repeat (first | (refine br.yes ?_; conv => whnf) | (refine br.no ?_; conv => whnf))
  refine c20n ?_
  conv => whnf
  repeat (first | (refine br.yes ?_; conv => whnf) | (refine br.no ?_; conv => whnf))
  refine br_false (by rw [notB_eq]; rfl) ?_
  conv => whnf
  repeat (first | (refine br.yes ?_; conv => whnf) | (refine br.no ?_; conv => whnf))
  refine br_false (neq_self _) ?_
  conv => whnf
  repeat (first | (refine br.yes ?_; conv => whnf) | (refine br.no ?_; conv => whnf))
  refine c29n ?_
  conv => whnf
  repeat (first | (refine br.yes ?_; conv => whnf) | (refine br.no ?_; conv => whnf))
  refine br_false (by rw [cmI_lss]; rfl) ?_
  conv => whnf
  repeat (first | (refine br.yes ?_; conv => whnf) | (refine br.no ?_; conv => whnf))
  refine br_false (neq_self _) ?_
  conv => whnf
  repeat (first | (refine br.yes ?_; conv => whnf) | (refine br.no ?_; conv => whnf))
  exact hK _
set_option maxRecDepth 20000 in
set_option maxHeartbeats 1600000 in
theorem law_Cov_ok {N : Nat} {k : Int} {l c : Nat} {xs : List (Int × Int)} (hN : N ≤ 8) (hx : xs.length = l) (hl : l ≤ 1048576) (h : covOk N k xs = true) (hK : ∀ m, K (AV.bool true) m) : CallLeaf Try.prog w0 10 [AV.int N, AV.int k, .sl 0 [] 2 0 l c] [⟨false, .ap l xs, 0⟩] K := by
  have hG := covL_length (N := N) (k := k) (xs := xs)
  have hNN := sq_le hN
  refine fn_go hmix h10 ?_
  conv => whnf
  repeat (first | (refine br.yes ?_; conv => whnf) | (refine br.no ?_; conv => whnf))
  refine c_szP hl (fun z hz => ?_)
  conv => whnf
  repeat (first | (refine br.yes ?_; conv => whnf) | (refine br.no ?_; conv => whnf))
  refine br_false (by rw [cmI_lss]; simp; omega) ?_
  conv => whnf
  repeat (first | (refine br.yes ?_; conv => whnf) | (refine br.no ?_; conv => whnf))
  refine c_copyP (i := 0) rfl hx hl (fun r1 => ?_)
  conv => whnf
  repeat (first | (refine br.yes ?_; conv => whnf) | (refine br.no ?_; conv => whnf))
  refine spec_ok (i := 1) rfl hx hl h (fun r2 => ?_)
  conv => whnf
  repeat (first | (refine br.yes ?_; conv => whnf) | (refine br.no ?_; conv => whnf))
  refine c_copyP (i := 0) rfl hx hl (fun r3 => ?_)
  conv => whnf
  repeat (first | (refine br.yes ?_; conv => whnf) | (refine br.no ?_; conv => whnf))
  refine impl_ok (i := 3) rfl hx hl h (fun r4 => ?_)
  conv => whnf
  repeat (first | (refine br.yes ?_; conv => whnf) | (refine br.no ?_; conv => whnf))
  refine c20 (i := 4) (j := 2) rfl rfl hG hG (by omega) ?_
  conv => whnf
  repeat (first | (refine br.yes ?_; conv => whnf) | (refine br.no ?_; conv => whnf))
  refine br_false (by rw [notB_eq]; simp) ?_
  conv => whnf
  repeat (first | (refine br.yes ?_; conv => whnf) | (refine br.no ?_; conv => whnf))
  refine br_false (neq_self _) ?_
  conv => whnf
  repeat (first | (refine br.yes ?_; conv => whnf) | (refine br.no ?_; conv => whnf))
  refine c_copyP (i := 0) rfl hx hl (fun r5 => ?_)
  conv => whnf
  repeat (first | (refine br.yes ?_; conv => whnf) | (refine br.no ?_; conv => whnf))
  refine c23 (i := 3) (j := 5) rfl rfl hx hx (by omega) ?_
  conv => whnf
  repeat (first | (refine br.yes ?_; conv => whnf) | (refine br.no ?_; conv => whnf))
  refine br_false (by rw [notB_eq]; simp) ?_
  conv => whnf
  repeat (first | (refine br.yes ?_; conv => whnf) | (refine br.no ?_; conv => whnf))
  refine c24 (i := 3) (k := 1) rfl hx hl (by decide) (fun ys hy hmy => ?_)
  conv => whnf
  repeat (first | (refine br.yes ?_; conv => whnf) | (refine br.no ?_; conv => whnf))
  refine br_false (by rw [cmI_lss]; simp; omega) ?_
  conv => whnf
  repeat (first | (refine br.yes ?_; conv => whnf) | (refine br.no ?_; conv => whnf))
  refine c20 (i := 4) (j := 2) rfl rfl hG hG (by omega) ?_
  conv => whnf
  repeat (first | (refine br.yes ?_; conv => whnf) | (refine br.no ?_; conv => whnf))
  refine br_false (by rw [notB_eq]; simp) ?_
  conv => whnf
  repeat (first | (refine br.yes ?_; conv => whnf) | (refine br.no ?_; conv => whnf))
  refine br_false (neq_self _) ?_
  conv => whnf
  repeat (first | (refine br.yes ?_; conv => whnf) | (refine br.no ?_; conv => whnf))
  refine c28 (i := 4) rfl hG (by omega) (by decide) (fun zs hz hmz => ?_)
  conv => whnf
  repeat (first | (refine br.yes ?_; conv => whnf) | (refine br.no ?_; conv => whnf))
  refine c29 (i := 4) rfl hz (by omega) (by decide) hmz ?_
  conv => whnf
  repeat (first | (refine br.yes ?_; conv => whnf) | (refine br.no ?_; conv => whnf))
  refine br_false (by rw [cmI_lss]; simp; omega) ?_
  conv => whnf
  repeat (first | (refine br.yes ?_; conv => whnf) | (refine br.no ?_; conv => whnf))
  refine br_false (neq_self _) ?_
  conv => whnf
  repeat (first | (refine br.yes ?_; conv => whnf) | (refine br.no ?_; conv => whnf))
  refine c_copyP (i := 0) rfl hx hl (fun r6 => ?_)
  conv => whnf
  repeat (first | (refine br.yes ?_; conv => whnf) | (refine br.no ?_; conv => whnf))
  refine impl_ok (i := 6) rfl hx hl h (fun r7 => ?_)
  conv => whnf
  repeat (first | (refine br.yes ?_; conv => whnf) | (refine br.no ?_; conv => whnf))
  refine c20 (i := 7) (j := 2) rfl rfl hG hG (by omega) ?_
  conv => whnf
  repeat (first | (refine br.yes ?_; conv => whnf) | (refine br.no ?_; conv => whnf))
  refine br_false (by rw [notB_eq]; simp) ?_
  conv => whnf
  repeat (first | (refine br.yes ?_; conv => whnf) | (refine br.no ?_; conv => whnf))
  refine br_false (neq_self _) ?_
  conv => whnf
  repeat (first | (refine br.yes ?_; conv => whnf) | (refine br.no ?_; conv => whnf))
  refine c29 (i := 4) rfl hz (by omega) (by decide) hmz ?_
  conv => whnf
  repeat (first | (refine br.yes ?_; conv => whnf) | (refine br.no ?_; conv => whnf))
  refine br_false (by rw [cmI_lss]; simp; omega) ?_
  conv => whnf
  repeat (first | (refine br.yes ?_; conv => whnf) | (refine br.no ?_; conv => whnf))
  refine br_false (neq_self _) ?_
  conv => whnf
  repeat (first | (refine br.yes ?_; conv => whnf) | (refine br.no ?_; conv => whnf))
  exact hK _
theorem law_CoverageOf {n k : Int} {l c : Nat} {xs : List (Int × Int)} (hx : xs.length = l) (hm : l ≤ 9223372036854775807) (hK : ∀ m, K (AV.bool true) m) : CallLeaf Try.prog w0 10 [AV.int n, AV.int k, .sl 0 [] 2 0 l c] [⟨false, .ap l xs, 0⟩] K := by
  by_cases hl : l ≤ 1048576
  · cases h : covOk n k xs with
    | false => exact law_Cov_no hx hl h hK
    | true =>
      have h2 := h
      simp only [covOk, Bool.and_eq_true] at h2
      obtain ⟨N, rfl, hN, _⟩ := side_nat h2.1.1.1
      exact law_Cov_ok hN hx hl h hK
  · refine fn_go hmix h10 ?_
    conv => whnf
    repeat (first | (refine br.yes ?_; conv => whnf) | (refine br.no ?_; conv => whnf))
    refine c_szP2 hl hm ?_
    conv => whnf
    repeat (first | (refine br.yes ?_; conv => whnf) | (refine br.no ?_; conv => whnf))
    refine br_true (by rw [cmI_lss]; rfl) ?_
    conv => whnf
    repeat (first | (refine br.yes ?_; conv => whnf) | (refine br.no ?_; conv => whnf))
    exact hK _
end
end Go.Proofs.Ytfkbgfpidolhhaa
