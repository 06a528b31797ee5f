/- Contracts of functions, by a walk each. -/
import Derived.Test.YtpcakgdagmcopaaBal
namespace Go.Proofs.Ytpcakgdagmcopaa
open Go Go.Fw
section
variable {w0 : World} {m : MS} {K : AV → MS → Prop}
theorem c_idxG {i n lo c r f Nn : Nat} {o : Bool} {xs : List Nat} {caps : List AV} {p : Nat → Bool} (hf : fnHas Try.prog f = true) (hp : 0 < n → ∀ (x : Nat) (K : AV → MS → Prop), K (AV.bool (p x)) m → CallLeaf Try.prog w0 f (.flt .f32 x :: caps) m K)
    (hi : getE m i = some ⟨o, .af Nn xs, r⟩) (hx : lo + n ≤ Nn) (hn : Nn ≤ 1048576)
    (hK : ∀ q : Int, (0 ≤ q ↔ ((List.range n).any fun k => p (xs.getD (lo + k) 0)) = true) → K (AV.int q) m) : CallLeaf Try.prog w0 40 [.sl i [] 1 lo n c, .fn f caps] m K := by
  have hat : ∀ k : Nat, addN lo (toN (k : Int)) = lo + k := fun k => by rw [addN_eq, toN_eq]; simp
  refine fn_go hmix h40 ?_
  conv => whnf
  repeat (first | (refine br.yes ?_; conv => whnf) | (refine br.no ?_; conv => whnf))
  refine loop_inv n (fun k ts m' => m' = m ∧ ts = [.sl i [] 1 lo n c, .fn f caps, .junk, .junk, AV.int 0, .junk, .junk, AV.int n, AV.int k, .junk, .junk, .junk, .junk, .junk, .junk, .junk, .junk, .junk, .junk] ∧ ∀ q, q < k → p (xs.getD (lo + q) 0) = false) _ _ ?hw trim_no ⟨rfl, rfl, by intro p hp; omega⟩ ?_
  case hw =>
    repeat (first | exact weak_nil | refine weak_same ?_ | refine weak_junk ?_)
  rintro k hk ts m' ⟨rfl, rfl, hpre⟩ R hR
  conv => whnf
  repeat (first | (refine br.yes ?_; conv => whnf) | (refine br.no ?_; conv => whnf))
  refine br_intro (fun h3 => ?_) (fun h3 => ?_)
  · conv => whnf
    repeat (first | (refine br.yes ?_; conv => whnf) | (refine br.no ?_; conv => whnf))
    have hk1 := lt_of_lss h3
    refine ⟨side_in ⟨by omega, by omega⟩, ?_⟩
    conv => whnf
    repeat (first | (refine br.yes ?_; conv => whnf) | (refine br.no ?_; conv => whnf))
    rw [hi]
    conv => whnf
    repeat (first | (refine br.yes ?_; conv => whnf) | (refine br.no ?_; conv => whnf))
    refine ⟨side_in (show addN lo (toN (k : Int)) < Nn by rw [hat]; omega), ?_⟩
    rw [nth_eq, hat]
    conv => whnf
    repeat (first | (refine br.yes ?_; conv => whnf) | (refine br.no ?_; conv => whnf))
    refine ⟨side_in hf, ?_⟩
    conv => whnf
    repeat (first | (refine br.yes ?_; conv => whnf) | (refine br.no ?_; conv => whnf))
    refine hp (by omega) _ _ ?_
    conv => whnf
    repeat (first | (refine br.yes ?_; conv => whnf) | (refine br.no ?_; conv => whnf))
    refine br_intro (fun h4 => ?_) (fun h4 => ?_)
    · conv => whnf
      repeat (first | (refine br.yes ?_; conv => whnf) | (refine br.no ?_; conv => whnf))
      refine hK _ ⟨fun _ => ?_, fun _ => by omega⟩
      rw [List.any_eq_true]
      exact ⟨k, List.mem_range.2 hk1, h4⟩
    · conv => whnf
      repeat (first | (refine br.yes ?_; conv => whnf) | (refine br.no ?_; conv => whnf))
      rw [add_one (by omega)]
      refine hR hk1 _ _ _ _ ?hw2 trim_no ⟨rfl, rfl, fun q hq => ?_⟩
      case hw2 =>
        repeat (first | exact weak_nil | refine weak_same ?_ | refine weak_junk ?_)
      rcases Nat.lt_or_ge q k with hlt | hge
      · exact hpre q hlt
      · have : q = k := by omega
        subst this; exact h4
  · conv => whnf
    repeat (first | (refine br.yes ?_; conv => whnf) | (refine br.no ?_; conv => whnf))
    have hk2 := ge_of_lss h3
    refine hK _ ⟨fun h => by omega, fun h => ?_⟩
    obtain ⟨q, hq, hq2⟩ := List.any_eq_true.1 h
    have := hpre q (by have := List.mem_range.1 hq; omega)
    rw [this] at hq2; cases hq2
theorem c_containsG {i n lo c r f Nn : Nat} {o : Bool} {xs : List Nat} {caps : List AV} {p : Nat → Bool} (hf : fnHas Try.prog f = true) (hp : 0 < n → ∀ (x : Nat) (K : AV → MS → Prop), K (AV.bool (p x)) m → CallLeaf Try.prog w0 f (.flt .f32 x :: caps) m K)
    (hi : getE m i = some ⟨o, .af Nn xs, r⟩) (hx : lo + n ≤ Nn) (hn : Nn ≤ 1048576)
    (hK : K (AV.bool ((List.range n).any fun k => p (xs.getD (lo + k) 0))) m) : CallLeaf Try.prog w0 24 [.sl i [] 1 lo n c, .fn f caps] m K := by
  refine fn_go hmix h24 ?_
  conv => whnf
  repeat (first | (refine br.yes ?_; conv => whnf) | (refine br.no ?_; conv => whnf))
  refine c_idxG hf hp hi hx hn (fun q hq => ?_)
  conv => whnf
  repeat (first | (refine br.yes ?_; conv => whnf) | (refine br.no ?_; conv => whnf))
  refine K_bool hK ?_
  rw [cmI_geq]
  cases h : ((List.range n).any fun k => p (xs.getD (lo + k) 0)) with
  | true => simp [hq.2 h]
  | false =>
    have : ¬ 0 ≤ q := fun h' => by rw [hq.1 h'] at h; cases h
    simp; omega
theorem c_cor1 {n c j k : Nat} {xs : List Nat} {ext : MS} (hn : 0 < n ∧ n ≤ 64) (hj : j < n) (hk : k < n) (hK : K (.flt .f32 (xs.getD ((j + k) % n) 0)) (⟨false, .af n xs, 0⟩ :: ⟨true, .sl 0 [] 1 0 n c, 0⟩ :: ext)) : CallLeaf Try.prog w0 42 [AV.int j, AV.int k, .ptr 1 []] (⟨false, .af n xs, 0⟩ :: ⟨true, .sl 0 [] 1 0 n c, 0⟩ :: ext) K := by
  have hni : (n : Int) ≠ 0 := by omega
  have hml := Nat.mod_lt (j + k) hn.1
  have f1 : arI .add .i64 (j : Int) (k : Int) = ((j + k : Nat) : Int) := add_nat (by omega) (by omega)
  have f2 : arI .rem .i64 ((j + k : Nat) : Int) (n : Int) = (((j + k) % n : Nat) : Int) := rem_nat _ _
  refine fn_go hmix h42 ?_
  conv => whnf
  repeat (first | (refine br.yes ?_; conv => whnf) | (refine br.no ?_; conv => whnf))
  refine ⟨side_in hni, ?_⟩
  rw [f1, f2]
  conv => whnf
  repeat (first | (refine br.yes ?_; conv => whnf) | (refine br.no ?_; conv => whnf))
  refine ⟨side_in ⟨by omega, by omega⟩, ?_⟩
  conv => whnf
  repeat (first | (refine br.yes ?_; conv => whnf) | (refine br.no ?_; conv => whnf))
  refine ⟨side_in (at_lt hml), ?_⟩
  rw [nth_at]
  conv => whnf
  repeat (first | (refine br.yes ?_; conv => whnf) | (refine br.no ?_; conv => whnf))
  exact hK
set_option maxRecDepth 20000 in
set_option maxHeartbeats 1600000 in
theorem c_sumsWith {n c : Nat} {xs : List Nat} (hn : 0 < n ∧ n ≤ 64)
    (hK : ∀ cap : Nat, K (.sl 2 [] 1 0 n cap) [⟨false, .af n xs, 0⟩, ⟨true, .sl 0 [] 1 0 n c, 0⟩, ⟨true, .af n (corL xs n n), cap * 1⟩]) : CallLeaf Try.prog w0 41 [.sl 0 [] 1 0 n c, .fn 42 [.ptr 1 []]] [⟨false, .af n xs, 0⟩, ⟨true, .sl 0 [] 1 0 n c, 0⟩] K := by
  refine fn_go hmix h41 ?_
  conv => whnf
  repeat (first | (refine br.yes ?_; conv => whnf) | (refine br.no ?_; conv => whnf))
  refine loop_opq n (fun k ts m => ∃ cap, m = [⟨false, .af n xs, 0⟩, ⟨true, .sl 0 [] 1 0 n c, 0⟩, ⟨true, .af k (corL xs n k), cap * 1⟩] ∧ ts = [.sl 0 [] 1 0 n c, .fn 42 [.ptr 1 [] ], .junk, .junk, nilS 1, .sl 2 [] 1 0 k cap, .junk, .junk, .junk, .junk, .junk, .junk, AV.int n, AV.int k, .junk, .junk, .junk, .junk, .junk, .junk, .junk, .junk, .junk, .junk, .junk, .junk, .junk, .junk, .junk, .junk, .junk, .junk, .junk, .junk, .junk, .junk, .junk, .junk]) _ _ ?hw (.inl rfl) ⟨0, rfl, rfl⟩ ?_
  case hw =>
    repeat (first | exact weak_nil | refine weak_same ?_ | refine weak_junk ?_)
  rintro k hk ts m' ⟨cap, rfl, rfl⟩ R hR K0 n0 r0 e0
  conv => whnf
  repeat (first | (refine br.yes ?_; conv => whnf) | (refine br.no ?_; conv => whnf))
  refine br_intro (fun h1 => ?_) (fun h1 => ?_)
  · have hk1 := lt_of_lss h1
    conv => whnf
    repeat (first | (refine br.yes ?_; conv => whnf) | (refine br.no ?_; conv => whnf))
    refine loop_opq n (fun j ts m => m = [⟨false, .af n xs, 0⟩, ⟨true, .sl 0 [] 1 0 n c, 0⟩, ⟨true, .af k (corL xs n k), cap * 1⟩] ∧ ts = [.sl 0 [] 1 0 n c, .fn 42 [.ptr 1 [] ], .junk, .junk, nilS 1, .sl 2 [] 1 0 k cap, AV.int k, .flt .f32 (sumTo (corF xs n k) j), .junk, .junk, .junk, .junk, AV.int n, AV.int k, .junk, .junk, .sl 0 [] 1 0 n c, AV.int n, AV.int j, .junk, .junk, .junk, .junk, .junk, .junk, .junk, .junk, .junk, .junk, .junk, .junk, .junk, .junk, .junk, .junk, .junk, .junk, .junk]) _ _ ?hw2 (.inl rfl) ⟨rfl, rfl⟩ ?_
    case hw2 =>
      repeat (first | exact weak_nil | refine weak_same ?_ | refine weak_junk ?_)
    rintro j hj ts m' ⟨rfl, rfl⟩ R2 hR2 K1 n1 r1 e1
    conv => whnf
    repeat (first | (refine br.yes ?_; conv => whnf) | (refine br.no ?_; conv => whnf))
    refine br_intro (fun h2 => ?_) (fun h2 => ?_)
    · have hj1 := lt_of_lss h2
      conv => whnf
      repeat (first | (refine br.yes ?_; conv => whnf) | (refine br.no ?_; conv => whnf))
      refine ⟨side_in ⟨by omega, by omega⟩, ?_⟩
      conv => whnf
      repeat (first | (refine br.yes ?_; conv => whnf) | (refine br.no ?_; conv => whnf))
      refine ⟨side_in (at_lt hj1), ?_⟩
      rw [nth_at]
      conv => whnf
      repeat (first | (refine br.yes ?_; conv => whnf) | (refine br.no ?_; conv => whnf))
      refine ⟨side_in (by kernel_rfl), ?_⟩
      conv => whnf
      repeat (first | (refine br.yes ?_; conv => whnf) | (refine br.no ?_; conv => whnf))
      refine c_cor1 hn hj1 hk1 ?_
      conv => whnf
      repeat (first | (refine br.yes ?_; conv => whnf) | (refine br.no ?_; conv => whnf))
      rw [add_one (by omega)]
      refine n1 _ _ (hR2 hj1 _ _ _ _ ?hw3 trim_no ⟨rfl, rfl⟩)
      case hw3 =>
        repeat (first | exact weak_nil | refine weak_same ?_ | refine weak_junk ?_)
    · have hj2 : j = n := by have := ge_of_lss h2; omega
      subst hj2
      conv => whnf
      repeat (first | (refine br.yes ?_; conv => whnf) | (refine br.no ?_; conv => whnf))
      refine e1 _ _ _ ?_
      conv => whnf
      repeat (first | (refine br.yes ?_; conv => whnf) | (refine br.no ?_; conv => whnf))
      refine ⟨side_in ⟨by decide, rfl, rfl, by omega, rfl⟩, fun cap' => ?_⟩
      conv => whnf
      repeat (first | (refine br.yes ?_; conv => whnf) | (refine br.no ?_; conv => whnf))
      have g1 : addN k 1 = k + 1 := by rw [addN_eq]
      rw [add_one (by omega), g1]
      refine n0 _ _ (hR hk1 _ _ _ [⟨false, .af j xs, 0⟩, ⟨true, .sl 0 [] 1 0 j c, 0⟩, ⟨true, .af (k + 1) (corL xs j k ++ [cor xs j k]), cap' * 1⟩] ?hw5 ?tr ⟨cap', by rw [corL_next], rfl⟩)
      case hw5 =>
        repeat (first | exact weak_nil | refine weak_same ?_ | refine weak_junk ?_)
      case tr =>
        exact .inr ⟨3, by simp, rfl, rfl, rfl⟩
  · have hk2 : k = n := by have := ge_of_lss h1; omega
    subst hk2
    conv => whnf
    repeat (first | (refine br.yes ?_; conv => whnf) | (refine br.no ?_; conv => whnf))
    refine e0 _ _ _ ?_
    conv => whnf
    repeat (first | (refine br.yes ?_; conv => whnf) | (refine br.no ?_; conv => whnf))
    exact hK cap
theorem c_listCode {i n c r : Nat} {o : Bool} {xs : List Nat} (hi : getE m i = some ⟨o, .af n xs, r⟩) (hx : xs.length = n) (hn : n ≤ 1048576) (h1 : xs.all fine = false → K (AV.int 1) m) (h2 : xs.all fine = true → inR (xs.length : Int) 1 64 = false → K (AV.int 2) m)
    (h3 : xs.all fine = true → inR (xs.length : Int) 1 64 = true → K (AV.int 0) m) : CallLeaf Try.prog w0 22 [.sl i [] 1 0 n c, .fn 23 []] m K := by
  have hl : ∀ (K : AV → MS → Prop), K (AV.bool (inR (n : Int) 1 64)) m → CallLeaf Try.prog w0 23 [AV.int n] m K := fun K hK => by
    refine fn_go hmix h23 ?_
    conv => whnf
    repeat (first | (refine br.yes ?_; conv => whnf) | (refine br.no ?_; conv => whnf))
    refine c_within ?_
    conv => whnf
    repeat (first | (refine br.yes ?_; conv => whnf) | (refine br.no ?_; conv => whnf))
    exact hK
  refine fn_go hmix h22 ?_
  conv => whnf
  repeat (first | (refine br.yes ?_; conv => whnf) | (refine br.no ?_; conv => whnf))
  refine c_areNumbers hi hx hn ?_
  conv => whnf
  repeat (first | (refine br.yes ?_; conv => whnf) | (refine br.no ?_; conv => whnf))
  refine br_intro (fun g1 => ?_) (fun g1 => ?_)
  · conv => whnf
    repeat (first | (refine br.yes ?_; conv => whnf) | (refine br.no ?_; conv => whnf))
    exact h1 (by rw [notB_eq] at g1; simpa using g1)
  have q1 : xs.all fine = true := by rw [notB_eq] at g1; simpa using g1
  conv => whnf
  repeat (first | (refine br.yes ?_; conv => whnf) | (refine br.no ?_; conv => whnf))
  refine ⟨side_in (by kernel_rfl), ?_⟩
  conv => whnf
  repeat (first | (refine br.yes ?_; conv => whnf) | (refine br.no ?_; conv => whnf))
  refine hl _ ?_
  conv => whnf
  repeat (first | (refine br.yes ?_; conv => whnf) | (refine br.no ?_; conv => whnf))
  refine br_intro (fun g2 => ?_) (fun g2 => ?_)
  · conv => whnf
    repeat (first | (refine br.yes ?_; conv => whnf) | (refine br.no ?_; conv => whnf))
    exact h2 q1 (by rw [notB_eq] at g2; rw [hx]; simpa using g2)
  · conv => whnf
    repeat (first | (refine br.yes ?_; conv => whnf) | (refine br.no ?_; conv => whnf))
    exact h3 q1 (by rw [notB_eq] at g2; rw [hx]; simpa using g2)
set_option maxRecDepth 20000 in
set_option maxHeartbeats 1600000 in
theorem c_implBal {n c : Nat} {xs : List Nat} (hx : xs.length = n) (hn : n ≤ 1048576) (hK : ∀ m, K (bc (balR xs)) m) : CallLeaf Try.prog w0 9 [.sl 0 [] 1 0 n c] [⟨false, .af n xs, 0⟩] K := by
  refine fn_go hmix h9 ?_
  conv => whnf
  repeat (first | (refine br.yes ?_; conv => whnf) | (refine br.no ?_; conv => whnf))
  refine c_listCode (i := 0) rfl hx hn (fun q1 => ?_) (fun q1 q2 => ?_) (fun q1 q2 => ?_)
  · rw [balR_1 q1] at hK
    conv => whnf
    repeat (first | (refine br.yes ?_; conv => whnf) | (refine br.no ?_; conv => whnf))
    refine br_true (by rw [cmI_neq]; rfl) ?_
    conv => whnf
    repeat (first | (refine br.yes ?_; conv => whnf) | (refine br.no ?_; conv => whnf))
    exact hK _
  · rw [balR_2 q1 q2] at hK
    conv => whnf
    repeat (first | (refine br.yes ?_; conv => whnf) | (refine br.no ?_; conv => whnf))
    refine br_true (by rw [cmI_neq]; rfl) ?_
    conv => whnf
    repeat (first | (refine br.yes ?_; conv => whnf) | (refine br.no ?_; conv => whnf))
    exact hK _
  have hn64 : 0 < n ∧ n ≤ 64 := by
    have q2' := q2
    rw [hx] at q2'
    simp only [inR, Bool.and_eq_true, decide_eq_true_eq] at q2'
    omega
  have hg : ∀ (m : MS) (x : Nat) (K : AV → MS → Prop), K (AV.bool (bad1 x)) m → CallLeaf Try.prog w0 25 [.flt .f32 x] m K := fun m x K hK => by
    refine fn_go hmix h25 ?_
    conv => whnf
    repeat (first | (refine br.yes ?_; conv => whnf) | (refine br.no ?_; conv => whnf))
    refine br_intro (fun g1 => ?_) (fun g1 => ?_)
    · conv => whnf
      repeat (first | (refine br.yes ?_; conv => whnf) | (refine br.no ?_; conv => whnf))
      exact K_bool hK (by unfold bad1; rw [g1]; rfl)
    · conv => whnf
      repeat (first | (refine br.yes ?_; conv => whnf) | (refine br.no ?_; conv => whnf))
      exact K_bool hK (by unfold bad1; rw [g1]; rfl)
  conv => whnf
  repeat (first | (refine br.yes ?_; conv => whnf) | (refine br.no ?_; conv => whnf))
  refine br_false (neq_self _) ?_
  conv => whnf
  repeat (first | (refine br.yes ?_; conv => whnf) | (refine br.no ?_; conv => whnf))
  refine c_containsF (i := 0) (by kernel_rfl) (hg _) rfl hx hn ?_
  conv => whnf
  repeat (first | (refine br.yes ?_; conv => whnf) | (refine br.no ?_; conv => whnf))
  refine br_intro (fun q3 => ?_) (fun q3 => ?_)
  · rw [balR_0 q1 q2 q3] at hK
    conv => whnf
    repeat (first | (refine br.yes ?_; conv => whnf) | (refine br.no ?_; conv => whnf))
    exact hK _
  rw [balR_ok q1 q2 q3, hx] at hK
  conv => whnf
  repeat (first | (refine br.yes ?_; conv => whnf) | (refine br.no ?_; conv => whnf))
  have hcor : ∀ K : AV → MS → Prop, (∀ cap : Nat, K (.sl 2 [] 1 0 n cap) [⟨false, .af n xs, 0⟩, ⟨true, .sl 0 [] 1 0 n c, 0⟩, ⟨true, .af n (corL xs n n), cap * 1⟩]) → CallLeaf Try.prog w0 26 [.sl 0 [] 1 0 n c, .sl 0 [] 1 0 n c] [⟨false, .af n xs, 0⟩] K := fun K hK => by
    refine fn_go hmix h26 ?_
    conv => whnf
    repeat (first | (refine br.yes ?_; conv => whnf) | (refine br.no ?_; conv => whnf))
    refine c_sumsWith hn64 (fun cap => ?_)
    conv => whnf
    repeat (first | (refine br.yes ?_; conv => whnf) | (refine br.no ?_; conv => whnf))
    exact hK cap
  refine hcor _ (fun cap => ?_)
  have e1 : addN 0 (toN 1) = 1 := by rw [addN_eq, toN_eq]; rfl
  have e2 : subN n (toN 1) = n - 1 := by rw [subN_eq, toN_eq]; rfl
  conv => whnf
  repeat (first | (refine br.yes ?_; conv => whnf) | (refine br.no ?_; conv => whnf))
  refine ⟨side_in ⟨by decide, by omega⟩, ?_⟩
  rw [e1, e2]
  conv => whnf
  repeat (first | (refine br.yes ?_; conv => whnf) | (refine br.no ?_; conv => whnf))
  have hg2 : 0 < n - 1 → ∀ (x : Nat) (K : AV → MS → Prop), K (AV.bool (cmF .neq .f32 x (cor xs n 1))) [⟨false, .af n xs, 0⟩, ⟨true, .sl 0 [] 1 0 n c, 0⟩, ⟨true, .af n (corL xs n n), cap * 1⟩, ⟨true, .sl 2 [] 1 1 (n - 1) (subN cap (toN 1)), 0⟩] → CallLeaf Try.prog w0 27 [.flt .f32 x, .ptr 3 []] [⟨false, .af n xs, 0⟩, ⟨true, .sl 0 [] 1 0 n c, 0⟩, ⟨true, .af n (corL xs n n), cap * 1⟩, ⟨true, .sl 2 [] 1 1 (n - 1) (subN cap (toN 1)), 0⟩] K := fun h0 x K hK => by
    have e3 : addN 1 (toN 0) = 1 := by rw [addN_eq, toN_eq]; rfl
    refine fn_go hmix h27 ?_
    conv => whnf
    repeat (first | (refine br.yes ?_; conv => whnf) | (refine br.no ?_; conv => whnf))
    refine ⟨side_in ⟨by decide, by omega⟩, ?_⟩
    conv => whnf
    repeat (first | (refine br.yes ?_; conv => whnf) | (refine br.no ?_; conv => whnf))
    refine ⟨side_in (show addN 1 (toN 0) < n by rw [e3]; omega), ?_⟩
    rw [nth_eq, e3, corL_get (show 1 < n by omega)]
    conv => whnf
    repeat (first | (refine br.yes ?_; conv => whnf) | (refine br.no ?_; conv => whnf))
    exact hK
  refine c_containsG (i := 2) (p := fun x => cmF .neq .f32 x (cor xs n 1)) (by kernel_rfl) hg2 rfl (by omega) (by omega) ?_
  conv => whnf
  repeat (first | (refine br.yes ?_; conv => whnf) | (refine br.no ?_; conv => whnf))
  have hb : (!(List.range (n - 1)).any fun k => cmF .neq .f32 ((corL xs n n).getD (1 + k) 0) (cor xs n 1)) = balB xs n := by
    unfold balB
    congr 1
    rw [Bool.eq_iff_iff, List.any_eq_true, List.any_eq_true]
    constructor
    · rintro ⟨k, h1, h2⟩
      have := List.mem_range.1 h1
      rw [corL_get (show 1 + k < n by omega)] at h2
      exact ⟨k, h1, h2⟩
    · rintro ⟨k, h1, h2⟩
      have := List.mem_range.1 h1
      refine ⟨k, h1, ?_⟩
      rw [corL_get (show 1 + k < n by omega)]
      exact h2
  rw [notB_eq, hb]
  exact hK _
set_option maxRecDepth 20000 in
set_option maxHeartbeats 1600000 in
theorem law_IsBalanced {n c : Nat} {xs : List Nat} (hx : xs.length = n) (hw : ∀ x ∈ xs, WfF x) (hK : ∀ m, K (AV.bool true) m) : CallLeaf Try.prog w0 3 [.sl 0 [] 1 0 n c] [⟨false, .af n xs, 0⟩] K := by
  by_cases hn : n ≤ 1048576
  · have hspec : ∀ (i c r : Nat) (o : Bool) (m : MS) (K : AV → MS → Prop), getE m i = some ⟨o, .af n xs, r⟩ → K (bc (balR xs)) m → CallLeaf Try.prog w0 7 [.sl i [] 1 0 n c] m K := fun i c r o m K hi hK =>
      call_view0 (args0 := [.sl 0 [] 1 0 n c]) hi rfl rfl rfl fun w0 => c_specBal hx hn hw (fun m => ⟨rfl, hK⟩)
    have himpl : ∀ (i c r : Nat) (o : Bool) (m : MS) (K : AV → MS → Prop), getE m i = some ⟨o, .af n xs, r⟩ → K (bc (balR xs)) m → CallLeaf Try.prog w0 9 [.sl i [] 1 0 n c] m K := fun i c r o m K hi hK =>
      call_view0 (args0 := [.sl 0 [] 1 0 n c]) hi rfl rfl rfl fun w0 => c_implBal hx hn (fun m => ⟨rfl, hK⟩)
    refine fn_go hmix h3 ?_
    conv => whnf
    repeat (first | (refine br.yes ?_; conv => whnf) | (refine br.no ?_; conv => whnf))
    obtain ⟨R, hR⟩ : ∃ R, R = balR xs := ⟨_, rfl⟩
    rw [← hR] at hspec himpl
    refine br_false (by rw [cmI_gtr]; simp; omega) ?_
    conv => whnf
    repeat (first | (refine br.yes ?_; conv => whnf) | (refine br.no ?_; conv => whnf))
    refine c_toFs (i := 0) rfl hx hn ?_
    conv => whnf
    repeat (first | (refine br.yes ?_; conv => whnf) | (refine br.no ?_; conv => whnf))
    refine hspec 1 _ _ _ _ _ rfl ?_
    unfold bc
    conv => whnf
    repeat (first | (refine br.yes ?_; conv => whnf) | (refine br.no ?_; conv => whnf))
    refine c_toFs (i := 0) rfl hx hn ?_
    conv => whnf
    repeat (first | (refine br.yes ?_; conv => whnf) | (refine br.no ?_; conv => whnf))
    refine himpl 2 _ _ _ _ _ rfl ?_
    unfold bc
    conv => whnf
    repeat (first | (refine br.yes ?_; conv => whnf) | (refine br.no ?_; conv => whnf))
    refine br_false (by rw [notB_eq, eqB_eq]; simp) ?_
    conv => whnf
    repeat (first | (refine br.yes ?_; conv => whnf) | (refine br.no ?_; conv => whnf))
    refine br_false (neq_self _) ?_
    conv => whnf
    repeat (first | (refine br.yes ?_; conv => whnf) | (refine br.no ?_; conv => whnf))
    refine c_toFs (i := 0) rfl hx hn ?_
    conv => whnf
    repeat (first | (refine br.yes ?_; conv => whnf) | (refine br.no ?_; conv => whnf))
    refine c_eqFloatsS (i := 2) (j := 3) rfl rfl hn ?_
    conv => whnf
    repeat (first | (refine br.yes ?_; conv => whnf) | (refine br.no ?_; conv => whnf))
    refine br_false (by rw [notB_eq]; rfl) ?_
    conv => whnf
    repeat (first | (refine br.yes ?_; conv => whnf) | (refine br.no ?_; conv => whnf))
    exact hK _
  · refine fn_go hmix h3 ?_
    conv => whnf
    repeat (first | (refine br.yes ?_; conv => whnf) | (refine br.no ?_; conv => whnf))
    refine br_true (by rw [cmI_gtr]; simp; omega) ?_
    conv => whnf
    repeat (first | (refine br.yes ?_; conv => whnf) | (refine br.no ?_; conv => whnf))
    exact hK _
end
end Go.Proofs.Ytpcakgdagmcopaa
