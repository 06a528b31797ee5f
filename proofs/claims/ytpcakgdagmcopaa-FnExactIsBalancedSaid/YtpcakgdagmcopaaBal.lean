/- Contracts of functions, by a walk each. -/
import Derived.Test.YtpcakgdagmcopaaFwNum3
import Derived.Test.YtpcakgdagmcopaaNW2
namespace Go.Proofs.Ytpcakgdagmcopaa
open Go Go.Fw
section
variable {w0 : World} {m : MS} {K : AV → MS → Prop}
/-! balance of a code -/
/-- A loop's rounds, with what follows them closed. -/
theorem loop_opq {nb : Nat} {body : TS → MS → (DExit → TS → MS → Prop) → Prop} {ts : TS} {m : MS} {K : DExit → TS → MS → Prop} (N : Nat) (I : Nat → TS → MS → Prop) (ts0 : TS) (m0 : MS) (hw : Weak ts ts0) (ht : Trim nb ts0 m m0) (h0 : I 0 ts0 m0)
    (hs : ∀ i, i ≤ N → ∀ ts m, I i ts m → ∀ R : TS → MS → Prop, (i < N → ∀ ts m ts' m', Weak ts ts' → Trim nb ts' m m' → I (i + 1) ts' m' → R ts m) →
      ∀ KK : DExit → TS → MS → Prop, (∀ ts m, R ts m → KK .normal ts m) → (∀ ts m, K .ret ts m → KK .ret ts m) → (∀ j ts m, K (.exit j) ts m → KK (.exit j) ts m) → body ts m KK) : LoopLeaf nb body ts m K :=
  loop_inv N I ts0 m0 hw ht h0 (fun i hi ts m h R hR => hs i hi ts m h R hR _ (fun _ _ h => h) (fun _ _ h => h) (fun _ _ _ h => h))
theorem mul_nat' {a b : Nat} (ha : a ≤ 1048576) (hb : b ≤ 1048576) : arI .add .i64 (a : Int) (b : Int) = ((a + b : Nat) : Int) := add_nat ha hb
def bad1 (x : Nat) : Bool := cmF .neq .f32 x 1065353216 && cmF .neq .f32 x 3212836864
def corF (xs : List Nat) (n k j : Nat) : Nat := arF .mul .f32 (xs.getD j 0) (xs.getD ((j + k) % n) 0)
def cor (xs : List Nat) (n k : Nat) : Nat := sumTo (corF xs n k) n
def corL (xs : List Nat) (n k : Nat) : List Nat := (List.range k).map (cor xs n)
theorem corL_next (xs : List Nat) (n k : Nat) : corL xs n k ++ [cor xs n k] = corL xs n (k + 1) := by unfold corL; rw [List.range_succ]; simp
theorem corL_length (xs : List Nat) (n k : Nat) : (corL xs n k).length = k := by simp [corL]
theorem corL_get {xs : List Nat} {n m k : Nat} (h : k < m) : (corL xs n m).getD k 0 = cor xs n k := by simp [corL, h]
/-- ones and minus ones -/
theorem pm_one {x : Nat} (hw : WfF x) (h : bad1 x = false) : ∃ b, x = oneW b := by
  unfold bad1 at h
  rw [Bool.and_eq_false_iff] at h
  rcases h with h | h
  · exact ⟨false, one_unique (b := false) hw h⟩
  · exact ⟨true, one_unique (b := true) hw h⟩
theorem pm_sum {xs : List Nat} {n k : Nat} (hx : xs.length = n) (hn : n ≤ 64) (h1 : ∀ j, j < n → ∃ b, xs.getD j 0 = oneW b) : ∀ j, j ≤ n → ∃ z, 100 - j ≤ z ∧ z ≤ 100 + j ∧ sumTo (corF xs n k) j = zW z := by
  intro j
  induction j with
  | zero => intro _; exact ⟨100, by omega, by omega, zW_zero.symm⟩
  | succ j ih =>
    intro hj
    obtain ⟨z, hz1, hz2, hz⟩ := ih (by omega)
    obtain ⟨a, ha⟩ := h1 j (by omega)
    obtain ⟨b, hb⟩ := h1 ((j + k) % n) (Nat.mod_lt _ (by omega))
    refine ⟨if (a ^^ b) = true then z - 1 else z + 1, ?_, ?_, ?_⟩
    · split <;> omega
    · split <;> omega
    · simp only [sumTo]
      rw [hz]
      unfold corF
      rw [ha, hb, mul_one', zW_add z (by omega) (by omega)]
theorem pm_fine {xs : List Nat} {n k : Nat} (hx : xs.length = n) (hn : n ≤ 64) (h1 : ∀ j, j < n → ∃ b, xs.getD j 0 = oneW b) {j : Nat} (hj : j ≤ n) : fine (sumTo (corF xs n k) j) = true := by
  obtain ⟨z, hz1, hz2, hz⟩ := pm_sum (k := k) hx hn h1 j hj
  rw [hz]
  exact zW_fine z (by omega)
theorem neq_fine {x : Nat} (h : fine x = true) : cmF .neq .f32 x x = false := by
  obtain ⟨s, m, e, hr⟩ := fine_iff.1 h
  have h1 : FloatKind.f32.format.order x x = some (compare (vOf s m e) (vOf s m e)) := order_v hr hr
  rw [Int.compare_eq_eq.2 rfl] at h1
  unfold cmF
  simp [h1]
/-- all correlations but the first are the same -/
def balB (xs : List Nat) (n : Nat) : Bool := !((List.range (n - 1)).any fun k => cmF .neq .f32 (cor xs n (1 + k)) (cor xs n 1))
theorem balB_t {xs : List Nat} {n : Nat} (h0 : fine (cor xs n 1) = true) (h : ∀ i, 2 ≤ i → i < n → cmF .neq .f32 (cor xs n i) (cor xs n 1) = false) : balB xs n = true := by
  unfold balB
  rw [Bool.not_eq_true', List.any_eq_false]
  intro k hk
  have hk := List.mem_range.1 hk
  by_cases hk0 : k = 0
  · subst hk0; rw [neq_fine h0]; simp
  · rw [h (1 + k) (by omega) (by omega)]; simp
theorem balB_f {xs : List Nat} {n i : Nat} (h2 : 2 ≤ i) (hn : i < n) (h : cmF .neq .f32 (cor xs n i) (cor xs n 1) = true) : balB xs n = false := by
  unfold balB
  rw [Bool.not_eq_false', List.any_eq_true]
  exact ⟨i - 1, List.mem_range.2 (by omega), by rw [show 1 + (i - 1) = i by omega]; exact h⟩
def balR (xs : List Nat) : Bool × Int :=
  if xs.all fine = true then (if inR (xs.length : Int) 1 64 = true then (if xs.any bad1 = true then (false, 0) else (balB xs xs.length, 0)) else (false, 2)) else (false, 1)
theorem balR_1 {xs : List Nat} (h : xs.all fine = false) : balR xs = (false, 1) := by simp only [balR, h, Bool.false_eq_true, if_false]
theorem balR_2 {xs : List Nat} (h : xs.all fine = true) (h2 : inR (xs.length : Int) 1 64 = false) : balR xs = (false, 2) := by simp only [balR, h, h2, Bool.false_eq_true, if_false, if_true]
theorem balR_0 {xs : List Nat} (h : xs.all fine = true) (h2 : inR (xs.length : Int) 1 64 = true) (h3 : xs.any bad1 = true) : balR xs = (false, 0) := by simp only [balR, h, h2, h3, if_true]
theorem balR_ok {xs : List Nat} (h : xs.all fine = true) (h2 : inR (xs.length : Int) 1 64 = true) (h3 : xs.any bad1 = false) : balR xs = (balB xs xs.length, 0) := by simp only [balR, h, h2, h3, if_true, Bool.false_eq_true, if_false]
def bc (R : Bool × Int) : AV := .tup [AV.bool R.1, AV.int R.2]
theorem c_l10Fine {i n c r : Nat} {o : Bool} {xs : List Nat} (hi : getE m i = some ⟨o, .af n xs, r⟩) (hx : xs.length = n) (hn : n ≤ 1048576) (hK : K (AV.bool (xs.all fine)) m) : CallLeaf Try.prog w0 19 [.sl i [] 1 0 n c] m K := by
  refine fn_go hmix h19 ?_
  conv => whnf
  repeat (first | (refine br.yes ?_; conv => whnf) | (refine br.no ?_; conv => whnf))
  refine loop_inv n (fun k ts m' => m' = m ∧ ts = [.sl i [] 1 0 n c, .junk, AV.bool false, AV.int k, .junk, .junk, .junk, .junk, .junk, .junk, .junk, .junk, .junk, .junk, .junk, .junk] ∧ ∀ p, p < k → fine (xs.getD p 0) = true) _ _ ?hw trim_no ⟨rfl, rfl, fun p hp => by omega⟩ ?_
  case hw =>
    repeat (first | exact weak_nil | refine weak_same ?_ | refine weak_junk ?_)
  rintro k hk ts m' ⟨rfl, rfl, hpre⟩ R hR
  conv => whnf
  repeat (first | (refine br.yes ?_; conv => whnf) | (refine br.no ?_; conv => whnf))
  refine br_intro (fun h1 => ?_) (fun h1 => ?_)
  · have hk1 := lt_of_lss h1
    conv => whnf
    repeat (first | (refine br.yes ?_; conv => whnf) | (refine br.no ?_; conv => whnf))
    refine ⟨side_in ⟨by omega, by omega⟩, ?_⟩
    conv => whnf
    repeat (first | (refine br.yes ?_; conv => whnf) | (refine br.no ?_; conv => whnf))
    rw [hi]
    conv => whnf
    repeat (first | (refine br.yes ?_; conv => whnf) | (refine br.no ?_; conv => whnf))
    refine ⟨side_in (at_lt hk1), ?_⟩
    rw [nth_at]
    conv => whnf
    repeat (first | (refine br.yes ?_; conv => whnf) | (refine br.no ?_; conv => whnf))
    refine c_l01Fine ?_
    conv => whnf
    repeat (first | (refine br.yes ?_; conv => whnf) | (refine br.no ?_; conv => whnf))
    refine br_intro (fun h2 => ?_) (fun h2 => ?_)
    · conv => whnf
      repeat (first | (refine br.yes ?_; conv => whnf) | (refine br.no ?_; conv => whnf))
      exact K_bool hK (allN_not (xs := xs) (p := fine) (k := k) (by omega) (by rw [notB_eq] at h2; simpa using h2))
    · conv => whnf
      repeat (first | (refine br.yes ?_; conv => whnf) | (refine br.no ?_; conv => whnf))
      rw [add_one (by omega)]
      refine hR hk1 _ _ _ _ ?hw2 trim_no ⟨rfl, rfl, fun p hp => ?_⟩
      case hw2 =>
        repeat (first | exact weak_nil | refine weak_same ?_ | refine weak_junk ?_)
      rcases Nat.lt_or_ge p k with hlt | hge
      · exact hpre p hlt
      · have : p = k := by omega
        subst this; rw [notB_eq] at h2; simpa using h2
  · have hk2 := ge_of_lss h1
    conv => whnf
    repeat (first | (refine br.yes ?_; conv => whnf) | (refine br.no ?_; conv => whnf))
    exact K_bool hK (allN_from (fun p hp => hpre p (by omega)))
set_option maxRecDepth 20000 in
set_option maxHeartbeats 1600000 in
theorem c_l10Correlate {n c : Nat} {xs : List Nat} (hn : 0 < n ∧ n ≤ 64) (hg : ∀ k j, k < n → j ≤ n → fine (sumTo (corF xs n k) j) = true)
    (hK : ∀ cap : Nat, K (.tup [.sl 1 [] 1 0 n cap, AV.int 0]) [⟨false, .af n xs, 0⟩, ⟨true, .af n (corL xs n n), cap * 1⟩]) : CallLeaf Try.prog w0 21 [.sl 0 [] 1 0 n c, .sl 0 [] 1 0 n c] [⟨false, .af n xs, 0⟩] K := by
  refine fn_go hmix h21 ?_
  conv => whnf
  repeat (first | (refine br.yes ?_; conv => whnf) | (refine br.no ?_; conv => whnf))
  refine loop_opq n (fun k ts m => ∃ cap, m = [⟨false, .af n xs, 0⟩, ⟨true, .af k (corL xs n k), cap * 1⟩] ∧ ts = [.sl 0 [] 1 0 n c, .sl 0 [] 1 0 n c, .junk, .junk, nilS 1, AV.int 0, .sl 1 [] 1 0 k cap, AV.int k, .junk, .junk, .junk, .junk, .junk, .junk, .junk, .junk, .junk, .junk, .junk, .junk, .junk, .junk, .junk, .junk, .junk, .junk, .junk, .junk, .junk, .junk, .junk, .junk, .junk, .junk, .junk, .junk, .junk, .junk, .junk, .junk, .junk, .junk, .junk, .junk, .junk, .junk, .junk]) _ _ ?hw (.inl rfl) ⟨0, rfl, rfl⟩ ?_
  case hw =>
    repeat (first | exact weak_nil | refine weak_same ?_ | refine weak_junk ?_)
  rintro k hk ts m' ⟨cap, rfl, rfl⟩ R hR K0 n0 r0 e0
  conv => whnf
  repeat (first | (refine br.yes ?_; conv => whnf) | (refine br.no ?_; conv => whnf))
  refine br_intro (fun h1 => ?_) (fun h1 => ?_)
  · have hk1 := lt_of_lss h1
    conv => whnf
    repeat (first | (refine br.yes ?_; conv => whnf) | (refine br.no ?_; conv => whnf))
    refine loop_opq n (fun j ts m => m = [⟨false, .af n xs, 0⟩, ⟨true, .af k (corL xs n k), cap * 1⟩] ∧ ts = [.sl 0 [] 1 0 n c, .sl 0 [] 1 0 n c, .junk, .junk, nilS 1, AV.int 0, .sl 1 [] 1 0 k cap, AV.int k, .flt .f32 (sumTo (corF xs n k) j), AV.int j, .junk, .junk, .junk, .junk, .junk, .junk, .junk, .junk, .junk, .junk, .junk, .junk, .junk, .junk, .junk, .junk, .junk, .junk, .junk, .junk, .junk, .junk, .junk, .junk, .junk, .junk, .junk, .junk, .junk, .junk, .junk, .junk, .junk, .junk, .junk, .junk, .junk]) _ _ ?hw2 (.inl rfl) ⟨rfl, rfl⟩ ?_
    case hw2 =>
      repeat (first | exact weak_nil | refine weak_same ?_ | refine weak_junk ?_)
    rintro j hj ts m' ⟨rfl, rfl⟩ R2 hR2 K1 n1 r1 e1
    conv => whnf
    repeat (first | (refine br.yes ?_; conv => whnf) | (refine br.no ?_; conv => whnf))
    refine br_intro (fun h2 => ?_) (fun h2 => ?_)
    · have hj1 := lt_of_lss h2
      have hni : (n : Int) ≠ 0 := by omega
      have hml := Nat.mod_lt (j + k) hn.1
      have f1 : arI .add .i64 (j : Int) (k : Int) = ((j + k : Nat) : Int) := add_nat (by omega) (by omega)
      have f2 : arI .rem .i64 ((j + k : Nat) : Int) (n : Int) = (((j + k) % n : Nat) : Int) := rem_nat _ _
      conv => whnf
      repeat (first | (refine br.yes ?_; conv => whnf) | (refine br.no ?_; conv => whnf))
      refine ⟨side_in ⟨by omega, by omega⟩, ?_⟩
      conv => whnf
      repeat (first | (refine br.yes ?_; conv => whnf) | (refine br.no ?_; conv => whnf))
      refine ⟨side_in (at_lt hj1), ?_⟩
      rw [nth_at]
      conv => whnf
      repeat (first | (refine br.yes ?_; conv => whnf) | (refine br.no ?_; conv => whnf))
      refine ⟨side_in hni, ?_⟩
      rw [f1, f2]
      conv => whnf
      repeat (first | (refine br.yes ?_; conv => whnf) | (refine br.no ?_; conv => whnf))
      refine ⟨side_in ⟨by omega, by omega⟩, ?_⟩
      conv => whnf
      repeat (first | (refine br.yes ?_; conv => whnf) | (refine br.no ?_; conv => whnf))
      refine ⟨side_in (at_lt hml), ?_⟩
      rw [nth_at]
      conv => whnf
      repeat (first | (refine br.yes ?_; conv => whnf) | (refine br.no ?_; conv => whnf))
      refine c_l01Fine ?_
      conv => whnf
      repeat (first | (refine br.yes ?_; conv => whnf) | (refine br.no ?_; conv => whnf))
      refine br_false ?_ ?_
      · have := hg k (j + 1) hk1 hj1
        rw [notB_eq]; simpa [sumTo, corF] using this
      conv => whnf
      repeat (first | (refine br.yes ?_; conv => whnf) | (refine br.no ?_; conv => whnf))
      rw [add_one (by omega)]
      refine n1 _ _ (hR2 hj1 _ _ _ _ ?hw3 trim_no ⟨rfl, rfl⟩)
      case hw3 =>
        repeat (first | exact weak_nil | refine weak_same ?_ | refine weak_junk ?_)
    · have hj2 : j = n := by have := ge_of_lss h2; omega
      subst hj2
      conv => whnf
      repeat (first | (refine br.yes ?_; conv => whnf) | (refine br.no ?_; conv => whnf))
      refine e1 _ _ _ ?_
      conv => whnf
      repeat (first | (refine br.yes ?_; conv => whnf) | (refine br.no ?_; conv => whnf))
      refine ⟨side_in ⟨by decide, rfl, rfl, by omega, rfl⟩, fun cap' => ?_⟩
      conv => whnf
      repeat (first | (refine br.yes ?_; conv => whnf) | (refine br.no ?_; conv => whnf))
      have g1 : addN k 1 = k + 1 := by rw [addN_eq]
      rw [add_one (by omega), g1]
      refine n0 _ _ (hR hk1 _ _ _ [⟨false, .af j xs, 0⟩, ⟨true, .af (k + 1) (corL xs j k ++ [cor xs j k]), cap' * 1⟩] ?hw5 ?tr ⟨cap', by rw [corL_next], rfl⟩)
      case hw5 =>
        repeat (first | exact weak_nil | refine weak_same ?_ | refine weak_junk ?_)
      case tr =>
        exact .inr ⟨2, by simp, rfl, rfl, rfl⟩
  · have hk2 : k = n := by have := ge_of_lss h1; omega
    subst hk2
    conv => whnf
    repeat (first | (refine br.yes ?_; conv => whnf) | (refine br.no ?_; conv => whnf))
    refine e0 _ _ _ ?_
    conv => whnf
    repeat (first | (refine br.yes ?_; conv => whnf) | (refine br.no ?_; conv => whnf))
    exact hK cap
set_option maxRecDepth 20000 in
set_option maxHeartbeats 1600000 in
theorem c_specBal {n c : Nat} {xs : List Nat} (hx : xs.length = n) (hn : n ≤ 1048576) (hw : ∀ x ∈ xs, WfF x) (hK : ∀ m, K (bc (balR xs)) m) : CallLeaf Try.prog w0 7 [.sl 0 [] 1 0 n c] [⟨false, .af n xs, 0⟩] K := by
  refine fn_go hmix h7 ?_
  conv => whnf
  repeat (first | (refine br.yes ?_; conv => whnf) | (refine br.no ?_; conv => whnf))
  refine c_l10Fine (i := 0) rfl hx hn ?_
  conv => whnf
  repeat (first | (refine br.yes ?_; conv => whnf) | (refine br.no ?_; conv => whnf))
  refine br_intro (fun h1 => ?_) (fun h1 => ?_)
  · rw [balR_1 (by rw [notB_eq] at h1; simpa using h1)] at hK
    conv => whnf
    repeat (first | (refine br.yes ?_; conv => whnf) | (refine br.no ?_; conv => whnf))
    exact hK _
  have q1 : xs.all fine = true := by rw [notB_eq] at h1; simpa using h1
  conv => whnf
  repeat (first | (refine br.yes ?_; conv => whnf) | (refine br.no ?_; conv => whnf))
  refine c_l01In ?_
  conv => whnf
  repeat (first | (refine br.yes ?_; conv => whnf) | (refine br.no ?_; conv => whnf))
  refine br_intro (fun h2 => ?_) (fun h2 => ?_)
  · rw [balR_2 q1 (by rw [notB_eq] at h2; rw [hx]; simpa using h2)] at hK
    conv => whnf
    repeat (first | (refine br.yes ?_; conv => whnf) | (refine br.no ?_; conv => whnf))
    exact hK _
  have q2 : inR (xs.length : Int) 1 64 = true := by rw [notB_eq] at h2; rw [hx]; simpa using h2
  have hn64 : 0 < n ∧ n ≤ 64 := by
    rw [hx] at q2
    simp only [inR, Bool.and_eq_true, decide_eq_true_eq] at q2
    omega
  conv => whnf
  repeat (first | (refine br.yes ?_; conv => whnf) | (refine br.no ?_; conv => whnf))
  refine loop_opq n (fun k ts m => m = [⟨false, .af n xs, 0⟩] ∧ ts = [.sl 0 [] 1 0 n c, .junk, AV.bool false, AV.int 0, AV.int k, .junk, .junk, .junk, .junk, .junk, .junk, .junk, .junk, .junk, .junk, .junk, .junk, .junk, .junk, .junk, .junk, .junk, .junk, .junk, .junk, .junk, .junk, .junk, .junk, .junk, .junk, .junk, .junk, .junk, .junk, .junk, .junk, .junk, .junk, .junk, .junk, .junk, .junk, .junk, .junk, .junk, .junk, .junk, .junk, .junk, .junk, .junk, .junk, .junk, .junk, .junk, .junk] ∧ ∀ p, p < k → bad1 (xs.getD p 0) = false) _ _ ?hw trim_no ⟨rfl, rfl, fun p hp => by omega⟩ ?_
  case hw =>
    repeat (first | exact weak_nil | refine weak_same ?_ | refine weak_junk ?_)
  rintro k hk ts m' ⟨rfl, rfl, hpre⟩ R hR K0 n0 r0 e0
  conv => whnf
  repeat (first | (refine br.yes ?_; conv => whnf) | (refine br.no ?_; conv => whnf))
  refine br_intro (fun h3 => ?_) (fun h3 => ?_)
  · have hk1 := lt_of_lss h3
    have hbad : bad1 (xs.getD k 0) = true → ∀ m, K (bc (false, 0)) m := fun hb => by
      rw [balR_0 q1 q2 (anyN_yes (xs := xs) (p := bad1) (k := k) (by omega) hb)] at hK
      exact hK
    have hgood : bad1 (xs.getD k 0) = false → ∀ p, p < k + 1 → bad1 (xs.getD p 0) = false := fun hb p hp => by
      rcases Nat.lt_or_ge p k with hlt | hge
      · exact hpre p hlt
      · have : p = k := by omega
        subst this; exact hb
    conv => whnf
    repeat (first | (refine br.yes ?_; conv => whnf) | (refine br.no ?_; conv => whnf))
    refine ⟨side_in ⟨by omega, by omega⟩, ?_⟩
    conv => whnf
    repeat (first | (refine br.yes ?_; conv => whnf) | (refine br.no ?_; conv => whnf))
    refine ⟨side_in (at_lt hk1), ?_⟩
    rw [nth_at]
    conv => whnf
    repeat (first | (refine br.yes ?_; conv => whnf) | (refine br.no ?_; conv => whnf))
    refine br_intro (fun h4 => ?_) (fun h4 => ?_)
    · conv => whnf
      repeat (first | (refine br.yes ?_; conv => whnf) | (refine br.no ?_; conv => whnf))
      refine ⟨side_in ⟨by omega, by omega⟩, ?_⟩
      conv => whnf
      repeat (first | (refine br.yes ?_; conv => whnf) | (refine br.no ?_; conv => whnf))
      refine ⟨side_in (at_lt hk1), ?_⟩
      rw [nth_at]
      conv => whnf
      repeat (first | (refine br.yes ?_; conv => whnf) | (refine br.no ?_; conv => whnf))
      refine br_intro (fun h5 => ?_) (fun h5 => ?_)
      · conv => whnf
        repeat (first | (refine br.yes ?_; conv => whnf) | (refine br.no ?_; conv => whnf))
        refine r0 _ _ ?_
        conv => whnf
        repeat (first | (refine br.yes ?_; conv => whnf) | (refine br.no ?_; conv => whnf))
        exact hbad (by unfold bad1; rw [h4, h5]; rfl) _
      · conv => whnf
        repeat (first | (refine br.yes ?_; conv => whnf) | (refine br.no ?_; conv => whnf))
        rw [add_one (by omega)]
        refine n0 _ _ (hR hk1 _ _ _ _ ?hw2 trim_no ⟨rfl, rfl, hgood (by unfold bad1; rw [h5]; simp)⟩)
        case hw2 =>
          repeat (first | exact weak_nil | refine weak_same ?_ | refine weak_junk ?_)
    · conv => whnf
      repeat (first | (refine br.yes ?_; conv => whnf) | (refine br.no ?_; conv => whnf))
      rw [add_one (by omega)]
      refine n0 _ _ (hR hk1 _ _ _ _ ?hw3 trim_no ⟨rfl, rfl, hgood (by unfold bad1; rw [h4]; rfl)⟩)
      case hw3 =>
        repeat (first | exact weak_nil | refine weak_same ?_ | refine weak_junk ?_)
  have hkn : k = n := by have := ge_of_lss h3; omega
  subst hkn
  have q3 : xs.any bad1 = false := anyN_from (fun p hp => hpre p (by omega))
  have hone : ∀ j, j < k → ∃ b, xs.getD j 0 = oneW b := fun j hj => pm_one (hw _ (by
    have hjl : j < xs.length := by omega
    have : xs.getD j 0 = xs[j] := by simp [hjl]
    rw [this]; exact List.getElem_mem hjl)) (hpre j hj)
  have hfine : ∀ q j, q < k → j ≤ k → fine (sumTo (corF xs k q) j) = true := fun q j _ hj => pm_fine hx hn64.2 hone hj
  rw [balR_ok q1 q2 q3, hx] at hK
  conv => whnf
  repeat (first | (refine br.yes ?_; conv => whnf) | (refine br.no ?_; conv => whnf))
  refine e0 _ _ _ ?_
  conv => whnf
  repeat (first | (refine br.yes ?_; conv => whnf) | (refine br.no ?_; conv => whnf))
  refine c_l10Correlate hn64 hfine (fun cap => ?_)
  conv => whnf
  repeat (first | (refine br.yes ?_; conv => whnf) | (refine br.no ?_; conv => whnf))
  refine loop_opq (k - 2) (fun j ts m => m = [⟨false, .af k xs, 0⟩, ⟨true, .af k (corL xs k k), cap * 1⟩] ∧ ts = [.sl 0 [] 1 0 k c, .junk, AV.bool false, AV.int 0, .junk, .sl 1 [] 1 0 k cap, AV.int 0, AV.int (j + 2 : Nat), .junk, .junk, .junk, .junk, .junk, .junk, .junk, .junk, .junk, .junk, .junk, .junk, .junk, .junk, .junk, .junk, .junk, .junk, .junk, .junk, .junk, .junk, .junk, .junk, .junk, .junk, .junk, .junk, .junk, .junk, .junk, .junk, .junk, .junk, .junk, .junk, .junk, .junk, .junk, .junk, .junk, .junk, .junk, .junk, .junk, .junk, .junk, .junk, .junk] ∧ ∀ i, 2 ≤ i → i < j + 2 → cmF .neq .f32 (cor xs k i) (cor xs k 1) = false) _ _ ?hw6 trim_no ⟨rfl, rfl, fun i h1 h2 => by omega⟩ ?_
  case hw6 =>
    repeat (first | exact weak_nil | refine weak_same ?_ | refine weak_junk ?_)
  rintro j hj ts m' ⟨rfl, rfl, hpre2⟩ R2 hR2 K1 n1 r1 e1
  conv => whnf
  repeat (first | (refine br.yes ?_; conv => whnf) | (refine br.no ?_; conv => whnf))
  refine br_intro (fun h4 => ?_) (fun h4 => ?_)
  · have hj1 : j + 2 < k := lt_of_lss h4
    have h1k : (1 : Nat) < k := by omega
    conv => whnf
    repeat (first | (refine br.yes ?_; conv => whnf) | (refine br.no ?_; conv => whnf))
    refine ⟨side_in ⟨by omega, by omega⟩, ?_⟩
    conv => whnf
    repeat (first | (refine br.yes ?_; conv => whnf) | (refine br.no ?_; conv => whnf))
    refine ⟨side_in (at_lt hj1), ?_⟩
    rw [nth_at, corL_get hj1]
    conv => whnf
    repeat (first | (refine br.yes ?_; conv => whnf) | (refine br.no ?_; conv => whnf))
    refine ⟨side_in ⟨by decide, by omega⟩, ?_⟩
    conv => whnf
    repeat (first | (refine br.yes ?_; conv => whnf) | (refine br.no ?_; conv => whnf))
    refine ⟨side_in (at_lt h1k), ?_⟩
    have e1k : nth (corL xs k k) (addN 0 (toN 1)) 0 = cor xs k 1 := by
      have := nth_at (corL xs k k) 1 0
      rw [corL_get h1k] at this
      exact this
    rw [e1k]
    conv => whnf
    repeat (first | (refine br.yes ?_; conv => whnf) | (refine br.no ?_; conv => whnf))
    refine br_intro (fun h5 => ?_) (fun h5 => ?_)
    · rw [balB_f (by omega) hj1 h5] at hK
      conv => whnf
      repeat (first | (refine br.yes ?_; conv => whnf) | (refine br.no ?_; conv => whnf))
      refine r1 _ _ ?_
      conv => whnf
      repeat (first | (refine br.yes ?_; conv => whnf) | (refine br.no ?_; conv => whnf))
      exact hK _
    · conv => whnf
      repeat (first | (refine br.yes ?_; conv => whnf) | (refine br.no ?_; conv => whnf))
      rw [add_one (by omega)]
      refine n1 _ _ (hR2 (by omega) _ _ _ _ ?hw7 trim_no ⟨rfl, rfl, fun i h6 h7 => ?_⟩)
      case hw7 =>
        repeat (first | exact weak_nil | refine weak_same ?_ | refine weak_junk ?_)
      rcases Nat.lt_or_ge i (j + 2) with hlt | hge
      · exact hpre2 i h6 hlt
      · have : i = j + 2 := by omega
        subst this; exact h5
  · have hj2 : k ≤ j + 2 := ge_of_lss h4
    have hb : balB xs k = true := balB_t (hfine 1 k |> fun h => by
      rcases Nat.lt_or_ge 1 k with g | g
      · exact h g (Nat.le_refl _)
      · exact pm_fine hx hn64.2 hone (Nat.le_refl _)) (fun i h6 h7 => hpre2 i h6 (by omega))
    rw [hb] at hK
    conv => whnf
    repeat (first | (refine br.yes ?_; conv => whnf) | (refine br.no ?_; conv => whnf))
    refine e1 _ _ _ ?_
    conv => whnf
    repeat (first | (refine br.yes ?_; conv => whnf) | (refine br.no ?_; conv => whnf))
    exact hK _
end
end Go.Proofs.Ytpcakgdagmcopaa
