/- Contracts of functions, by a walk each. -/
import Derived.Test.YtpcakgdagmcopaaFwView
import Derived.Test.YtpcakgdagmcopaaFlS
namespace Go.Proofs.Ytpcakgdagmcopaa
open Go Go.Fw
section
variable {w0 : World} {m : MS} {K : AV → MS → Prop}
/-! weights made to a norm -/
def fine (x : Nat) : Bool := cmF .eql .f32 (arF .sub .f32 x x) 0
theorem c_l01Fine {x : Nat} (hK : K (AV.bool (fine x)) m) : CallLeaf Try.prog w0 37 [.flt .f32 x] m K := by
  refine fn_go hmix h37 ?_
  conv => whnf
  repeat (first | (refine br.yes ?_; conv => whnf) | (refine br.no ?_; conv => whnf))
  exact hK
theorem c_isNumber {x : Nat} (hK : K (AV.bool (fine x)) m) : CallLeaf Try.prog w0 61 [.flt .f32 x] m K := by
  refine fn_go hmix h61 ?_
  conv => whnf
  repeat (first | (refine br.yes ?_; conv => whnf) | (refine br.no ?_; conv => whnf))
  exact hK
theorem allN_from {xs : List Nat} {p : Nat → Bool} (h : ∀ k, k < xs.length → p (xs.getD k 0) = true) : xs.all p = true := by
  rw [List.all_eq_true]
  intro x hx
  obtain ⟨k, hk, rfl⟩ := List.getElem_of_mem hx
  have := h k hk
  simpa [hk] using this
theorem allN_not {xs : List Nat} {p : Nat → Bool} {k : Nat} (hk : k < xs.length) (h : p (xs.getD k 0) = false) : xs.all p = false := by
  rw [List.all_eq_false]
  exact ⟨xs[k], List.getElem_mem hk, by simpa [hk] using h⟩
theorem anyN_from {xs : List Nat} {p : Nat → Bool} (h : ∀ k, k < xs.length → p (xs.getD k 0) = false) : xs.any p = false := by
  rw [List.any_eq_false]
  intro x hx
  obtain ⟨k, hk, rfl⟩ := List.getElem_of_mem hx
  have := h k hk
  simpa [hk] using this
theorem anyN_yes {xs : List Nat} {p : Nat → Bool} {k : Nat} (hk : k < xs.length) (h : p (xs.getD k 0) = true) : xs.any p = true := by
  rw [List.any_eq_true]
  exact ⟨xs[k], List.getElem_mem hk, by simpa [hk] using h⟩
theorem c_idxF {i n c r f : Nat} {o : Bool} {xs : List Nat} {caps : List AV} {p : Nat → Bool} (hf : fnHas Try.prog f = true) (hp : ∀ (x : Nat) (K : AV → MS → Prop), K (AV.bool (p x)) m → CallLeaf Try.prog w0 f (.flt .f32 x :: caps) m K)
    (hi : getE m i = some ⟨o, .af n xs, r⟩) (hx : xs.length = n) (hn : n ≤ 1048576)
    (hK : ∀ q : Int, (0 ≤ q ↔ xs.any p = true) → K (AV.int q) m) : CallLeaf Try.prog w0 40 [.sl i [] 1 0 n c, .fn f caps] m K := by
  refine fn_go hmix h40 ?_
  conv => whnf
  repeat (first | (refine br.yes ?_; conv => whnf) | (refine br.no ?_; conv => whnf))
  refine loop_inv n (fun k ts m' => m' = m ∧ ts = [.sl i [] 1 0 n c, .fn f caps, .junk, .junk, AV.int 0, .junk, .junk, AV.int n, AV.int k, .junk, .junk, .junk, .junk, .junk, .junk, .junk, .junk, .junk, .junk] ∧ ∀ q, q < k → p (xs.getD q 0) = false) _ _ ?hw trim_no ⟨rfl, rfl, by intro p hp; omega⟩ ?_
  case hw =>
    repeat (first | exact weak_nil | refine weak_same ?_ | refine weak_junk ?_)
  rintro k hk ts m' ⟨rfl, rfl, hpre⟩ R hR
  conv => whnf
  repeat (first | (refine br.yes ?_; conv => whnf) | (refine br.no ?_; conv => whnf))
  refine br_intro (fun h3 => ?_) (fun h3 => ?_)
  · conv => whnf
    repeat (first | (refine br.yes ?_; conv => whnf) | (refine br.no ?_; conv => whnf))
    have hk1 := lt_of_lss h3
    refine ⟨side_in ⟨by omega, by omega⟩, ?_⟩
    conv => whnf
    repeat (first | (refine br.yes ?_; conv => whnf) | (refine br.no ?_; conv => whnf))
    rw [hi]
    conv => whnf
    repeat (first | (refine br.yes ?_; conv => whnf) | (refine br.no ?_; conv => whnf))
    refine ⟨side_in (at_lt hk1), ?_⟩
    rw [nth_at]
    conv => whnf
    repeat (first | (refine br.yes ?_; conv => whnf) | (refine br.no ?_; conv => whnf))
    refine ⟨side_in hf, ?_⟩
    conv => whnf
    repeat (first | (refine br.yes ?_; conv => whnf) | (refine br.no ?_; conv => whnf))
    refine hp _ _ ?_
    conv => whnf
    repeat (first | (refine br.yes ?_; conv => whnf) | (refine br.no ?_; conv => whnf))
    refine br_intro (fun h4 => ?_) (fun h4 => ?_)
    · conv => whnf
      repeat (first | (refine br.yes ?_; conv => whnf) | (refine br.no ?_; conv => whnf))
      exact hK _ ⟨fun _ => anyN_yes (by omega) h4, fun _ => by omega⟩
    · conv => whnf
      repeat (first | (refine br.yes ?_; conv => whnf) | (refine br.no ?_; conv => whnf))
      rw [add_one (by omega)]
      refine hR hk1 _ _ _ _ ?hw2 trim_no ⟨rfl, rfl, fun q hq => ?_⟩
      case hw2 =>
        repeat (first | exact weak_nil | refine weak_same ?_ | refine weak_junk ?_)
      rcases Nat.lt_or_ge q k with hlt | hge
      · exact hpre q hlt
      · have : q = k := by omega
        subst this; exact h4
  · conv => whnf
    repeat (first | (refine br.yes ?_; conv => whnf) | (refine br.no ?_; conv => whnf))
    have hk2 := ge_of_lss h3
    refine hK _ ⟨fun h => by omega, fun h => ?_⟩
    rw [anyN_from (fun q hq => hpre q (by omega))] at h
    cases h
theorem c_containsF {i n c r f : Nat} {o : Bool} {xs : List Nat} {caps : List AV} {p : Nat → Bool} (hf : fnHas Try.prog f = true) (hp : ∀ (x : Nat) (K : AV → MS → Prop), K (AV.bool (p x)) m → CallLeaf Try.prog w0 f (.flt .f32 x :: caps) m K)
    (hi : getE m i = some ⟨o, .af n xs, r⟩) (hx : xs.length = n) (hn : n ≤ 1048576)
    (hK : K (AV.bool (xs.any p)) m) : CallLeaf Try.prog w0 24 [.sl i [] 1 0 n c, .fn f caps] m K := by
  refine fn_go hmix h24 ?_
  conv => whnf
  repeat (first | (refine br.yes ?_; conv => whnf) | (refine br.no ?_; conv => whnf))
  refine c_idxF hf hp hi hx hn (fun q hq => ?_)
  conv => whnf
  repeat (first | (refine br.yes ?_; conv => whnf) | (refine br.no ?_; conv => whnf))
  refine K_bool hK ?_
  rw [cmI_geq]
  cases h : xs.any p with
  | true => simp [hq.2 h]
  | false =>
    have : ¬ 0 ≤ q := fun h' => by rw [hq.1 h'] at h; cases h
    simp; omega
def negF (x : Nat) : Bool := cmF .lss .f32 x 0
theorem c_areNumbers {i n c r : Nat} {o : Bool} {xs : List Nat} (hi : getE m i = some ⟨o, .af n xs, r⟩) (hx : xs.length = n) (hn : n ≤ 1048576) (hK : K (AV.bool (xs.all fine)) m) : CallLeaf Try.prog w0 38 [.sl i [] 1 0 n c] m K := by
  have hg : ∀ (x : Nat) (K : AV → MS → Prop), K (AV.bool (!fine x)) m → CallLeaf Try.prog w0 62 [.flt .f32 x] m K := fun x K hK => by
    refine fn_go hmix h62 ?_
    conv => whnf
    repeat (first | (refine br.yes ?_; conv => whnf) | (refine br.no ?_; conv => whnf))
    refine c_isNumber ?_
    conv => whnf
    repeat (first | (refine br.yes ?_; conv => whnf) | (refine br.no ?_; conv => whnf))
    exact K_bool hK (notB_eq _).symm
  refine fn_go hmix h38 ?_
  conv => whnf
  repeat (first | (refine br.yes ?_; conv => whnf) | (refine br.no ?_; conv => whnf))
  refine c_containsF (by kernel_rfl) hg hi hx hn ?_
  conv => whnf
  repeat (first | (refine br.yes ?_; conv => whnf) | (refine br.no ?_; conv => whnf))
  refine K_bool hK ?_
  rw [notB_eq, ← List.not_all_eq_any_not]
  simp
theorem c_isLess {i n c r : Nat} {o : Bool} {xs : List Nat} (hi : getE m i = some ⟨o, .af n xs, r⟩) (hx : xs.length = n) (hn : n ≤ 1048576) (hK : K (AV.bool (xs.any negF)) m) : CallLeaf Try.prog w0 60 [.sl i [] 1 0 n c] m K := by
  have hg : ∀ (x : Nat) (K : AV → MS → Prop), K (AV.bool (negF x)) m → CallLeaf Try.prog w0 70 [.flt .f32 x] m K := fun x K hK => by
    refine fn_go hmix h70 ?_
    conv => whnf
    repeat (first | (refine br.yes ?_; conv => whnf) | (refine br.no ?_; conv => whnf))
    exact hK
  refine fn_go hmix h60 ?_
  conv => whnf
  repeat (first | (refine br.yes ?_; conv => whnf) | (refine br.no ?_; conv => whnf))
  refine c_containsF (by kernel_rfl) hg hi hx hn ?_
  conv => whnf
  repeat (first | (refine br.yes ?_; conv => whnf) | (refine br.no ?_; conv => whnf))
  exact hK
/-- a sum from the left, of so many -/
def sumTo (F : Nat → Nat) : Nat → Nat
  | 0 => 0
  | k + 1 => arF .add .f32 (sumTo F k) (F k)
theorem c_sumOf {i n c r : Nat} {o : Bool} {xs : List Nat} (hi : getE m i = some ⟨o, .af n xs, r⟩) (hx : xs.length = n) (hn : n ≤ 1048576) (hK : K (.flt .f32 (sumTo (fun k => xs.getD k 0) n)) m) : CallLeaf Try.prog w0 59 [.sl i [] 1 0 n c] m K := by
  refine fn_go hmix h59 ?_
  conv => whnf
  repeat (first | (refine br.yes ?_; conv => whnf) | (refine br.no ?_; conv => whnf))
  refine loop_inv n (fun k ts m' => m' = m ∧ ts = [.junk, .junk, .flt .f32 0, .flt .f32 (sumTo (fun k => xs.getD k 0) k), .junk, .junk, .sl i [] 1 0 n c, AV.int n, AV.int k, .junk, .junk, .junk, .junk, .junk, .junk, .junk, .junk]) _ _ ?hw trim_no ⟨rfl, rfl⟩ ?_
  case hw =>
    repeat (first | exact weak_nil | refine weak_same ?_ | refine weak_junk ?_)
  rintro k hk ts m' ⟨rfl, rfl⟩ R hR
  conv => whnf
  repeat (first | (refine br.yes ?_; conv => whnf) | (refine br.no ?_; conv => whnf))
  refine br_intro (fun h3 => ?_) (fun h3 => ?_)
  · have hk1 := lt_of_lss h3
    conv => whnf
    repeat (first | (refine br.yes ?_; conv => whnf) | (refine br.no ?_; conv => whnf))
    refine ⟨side_in ⟨by omega, by omega⟩, ?_⟩
    conv => whnf
    repeat (first | (refine br.yes ?_; conv => whnf) | (refine br.no ?_; conv => whnf))
    rw [hi]
    conv => whnf
    repeat (first | (refine br.yes ?_; conv => whnf) | (refine br.no ?_; conv => whnf))
    refine ⟨side_in (at_lt hk1), ?_⟩
    rw [nth_at]
    conv => whnf
    repeat (first | (refine br.yes ?_; conv => whnf) | (refine br.no ?_; conv => whnf))
    rw [add_one (by omega)]
    refine hR hk1 _ _ _ _ ?hw2 trim_no ⟨rfl, rfl⟩
    case hw2 =>
      repeat (first | exact weak_nil | refine weak_same ?_ | refine weak_junk ?_)
  · have hk2 : k = n := by have := ge_of_lss h3; omega
    subst hk2
    conv => whnf
    repeat (first | (refine br.yes ?_; conv => whnf) | (refine br.no ?_; conv => whnf))
    exact hK
def nSum (xs : List Nat) : Nat := sumTo (fun k => xs.getD k 0) xs.length
def nwCode (xs : List Nat) : Int :=
  if xs.all fine = true then
    (if (decide (1 ≤ xs.length) && decide (xs.length ≤ 16) && !xs.any negF) = true then
      (if cmF .eql .f32 (nSum xs) 0 = true then 5 else if fine (nSum xs) = true then 0 else 3) else 2) else 1
def nwList (xs : List Nat) : List Nat := xs.map fun x => arF .quo .f32 x (nSum xs)
theorem nw_1 {xs : List Nat} (h : xs.all fine = false) : nwCode xs = 1 := by simp only [nwCode, h, Bool.false_eq_true, if_false]
theorem nw_2 {xs : List Nat} (h : xs.all fine = true) (h2 : (decide (1 ≤ xs.length) && decide (xs.length ≤ 16) && !xs.any negF) = false) : nwCode xs = 2 := by simp only [nwCode, h, h2, Bool.false_eq_true, if_false, if_true]
theorem nw_5 {xs : List Nat} (h : xs.all fine = true) (h2 : (decide (1 ≤ xs.length) && decide (xs.length ≤ 16) && !xs.any negF) = true) (h3 : cmF .eql .f32 (nSum xs) 0 = true) : nwCode xs = 5 := by simp only [nwCode, h, h2, h3, if_true]
theorem nw_3 {xs : List Nat} (h : xs.all fine = true) (h2 : (decide (1 ≤ xs.length) && decide (xs.length ≤ 16) && !xs.any negF) = true) (h3 : fine (nSum xs) = false) : nwCode xs = 3 := by
  have h4 : cmF .eql .f32 (nSum xs) 0 = false := by
    cases hc : cmF .eql .f32 (nSum xs) 0 with
    | false => rfl
    | true =>
      have := fine_iff.2 (zl_num (show zl (nSum xs) from hc))
      unfold fine at h3
      rw [this] at h3; cases h3
  simp only [nwCode, h, h2, h3, h4, if_true, Bool.false_eq_true, if_false]
theorem nw_0 {xs : List Nat} (h : xs.all fine = true) (h2 : (decide (1 ≤ xs.length) && decide (xs.length ≤ 16) && !xs.any negF) = true) (h3 : fine (nSum xs) = true) (h4 : cmF .eql .f32 (nSum xs) 0 = false) : nwCode xs = 0 := by simp only [nwCode, h, h2, h3, h4, if_true, Bool.false_eq_true, if_false]
theorem nw_len {xs : List Nat} (h : nwCode xs = 0) : xs.length ≤ 16 := by
  unfold nwCode at h
  split at h
  · split at h
    · rename_i h2
      simp only [Bool.and_eq_true, decide_eq_true_eq] at h2
      exact h2.1.2
    · omega
  · omega
def divTo (xs : List Nat) (S k : Nat) : List Nat := (xs.take k).map fun x => arF .quo .f32 x S
theorem divTo_next {xs : List Nat} {S k : Nat} (h : k < xs.length) : divTo xs S k ++ [arF .quo .f32 (xs.getD k 0) S] = divTo xs S (k + 1) := by
  unfold divTo
  rw [List.take_add_one, List.map_append]
  simp [h]
theorem divTo_all {xs : List Nat} : divTo xs (nSum xs) xs.length = nwList xs := by unfold divTo nwList; rw [List.take_length]

set_option maxRecDepth 20000 in
set_option maxHeartbeats 3200000 in
theorem rspec_NormWeights {n c : Nat} {xs : List Nat} (hx : xs.length = n) (hn : n ≤ 1048576) (k1 : nwCode xs ≠ 0 → K (.tup [nilS 1, AV.int (nwCode xs)]) [⟨false, .af n xs, 0⟩])
    (k2 : nwCode xs = 0 → ∀ cap : Nat, K (.tup [.sl 1 [] 1 0 n cap, AV.int 0]) [⟨false, .af n xs, 0⟩, ⟨true, .af n (nwList xs), cap * 1⟩]) : CallLeaf Try.prog w0 35 [.sl 0 [] 1 0 n c] [⟨false, .af n xs, 0⟩] K := by
  have hS : sumTo (fun k => xs.getD k 0) n = nSum xs := by unfold nSum; rw [hx]
  refine fn_go hmix h35 ?_
  conv => whnf
  repeat (first | (refine br.yes ?_; conv => whnf) | (refine br.no ?_; conv => whnf))
  refine loop_inv n (fun k ts m => m = [⟨false, .af n xs, 0⟩] ∧ ts = [.sl 0 [] 1 0 n c, .junk, nilS 1, AV.int 0, AV.int k, .junk, .junk, .junk, .junk, .junk, .junk, .junk, .junk, .junk, .junk, .junk, .junk, .junk, .junk, .junk, .junk, .junk, .junk, .junk, .junk, .junk, .junk, .junk, .junk, .junk, .junk, .junk, .junk, .junk, .junk, .junk, .junk, .junk, .junk, .junk, .junk, .junk, .junk, .junk, .junk, .junk, .junk, .junk, .junk, .junk, .junk, .junk, .junk, .junk, .junk, .junk, .junk, .junk, .junk, .junk, .junk, .junk, .junk, .junk, .junk, .junk, .junk, .junk, .junk, .junk] ∧ ∀ p, p < k → fine (xs.getD p 0) = true) _ _ ?hw trim_no ⟨rfl, rfl, fun p hp => by omega⟩ ?_
  case hw =>
    repeat (first | exact weak_nil | refine weak_same ?_ | refine weak_junk ?_)
  rintro k hk ts m' ⟨rfl, rfl, hpre⟩ R hR
  conv => whnf
  repeat (first | (refine br.yes ?_; conv => whnf) | (refine br.no ?_; conv => whnf))
  refine br_intro (fun h1 => ?_) (fun h1 => ?_)
  · have hk1 := lt_of_lss h1
    conv => whnf
    repeat (first | (refine br.yes ?_; conv => whnf) | (refine br.no ?_; conv => whnf))
    refine ⟨side_in ⟨by omega, by omega⟩, ?_⟩
    conv => whnf
    repeat (first | (refine br.yes ?_; conv => whnf) | (refine br.no ?_; conv => whnf))
    refine ⟨side_in (at_lt hk1), ?_⟩
    rw [nth_at]
    conv => whnf
    repeat (first | (refine br.yes ?_; conv => whnf) | (refine br.no ?_; conv => whnf))
    refine c_l01Fine ?_
    conv => whnf
    repeat (first | (refine br.yes ?_; conv => whnf) | (refine br.no ?_; conv => whnf))
    refine br_intro (fun h2 => ?_) (fun h2 => ?_)
    · have e := nw_1 (allN_not (xs := xs) (p := fine) (k := k) (by omega) (by rw [notB_eq] at h2; simpa using h2))
      have k1 := k1 (by rw [e]; decide)
      rw [e] at k1
      conv => whnf
      repeat (first | (refine br.yes ?_; conv => whnf) | (refine br.no ?_; conv => whnf))
      exact k1
    · conv => whnf
      repeat (first | (refine br.yes ?_; conv => whnf) | (refine br.no ?_; conv => whnf))
      rw [add_one (by omega)]
      refine hR hk1 _ _ _ _ ?hw2 trim_no ⟨rfl, rfl, fun p hp => ?_⟩
      case hw2 =>
        repeat (first | exact weak_nil | refine weak_same ?_ | refine weak_junk ?_)
      rcases Nat.lt_or_ge p k with hlt | hge
      · exact hpre p hlt
      · have : p = k := by omega
        subst this; rw [notB_eq] at h2; simpa using h2
  have q1 : xs.all fine = true := allN_from (fun p hp => hpre p (by have := ge_of_lss h1; omega))
  conv => whnf
  repeat (first | (refine br.yes ?_; conv => whnf) | (refine br.no ?_; conv => whnf))
  refine br_intro (fun h2 => ?_) (fun h2 => ?_)
  · have e := nw_2 q1 (by rw [cmI_lss] at h2; simp at h2; simp [hx]; intro hh; omega)
    have k1 := k1 (by rw [e]; decide)
    rw [e] at k1
    conv => whnf
    repeat (first | (refine br.yes ?_; conv => whnf) | (refine br.no ?_; conv => whnf))
    exact k1
  conv => whnf
  repeat (first | (refine br.yes ?_; conv => whnf) | (refine br.no ?_; conv => whnf))
  refine br_intro (fun h3 => ?_) (fun h3 => ?_)
  · have e := nw_2 q1 (by rw [cmI_gtr] at h3; simp at h3; simp [hx]; intro _ hh; omega)
    have k1 := k1 (by rw [e]; decide)
    rw [e] at k1
    conv => whnf
    repeat (first | (refine br.yes ?_; conv => whnf) | (refine br.no ?_; conv => whnf))
    exact k1
  conv => whnf
  repeat (first | (refine br.yes ?_; conv => whnf) | (refine br.no ?_; conv => whnf))
  refine loop_inv n (fun k ts m => m = [⟨false, .af n xs, 0⟩] ∧ ts = [.sl 0 [] 1 0 n c, .junk, nilS 1, AV.int 0, .junk, .flt .f32 (sumTo (fun k => xs.getD k 0) k), AV.int k, .junk, .junk, .junk, .junk, .junk, .junk, .junk, .junk, .junk, .junk, .junk, .junk, .junk, .junk, .junk, .junk, .junk, .junk, .junk, .junk, .junk, .junk, .junk, .junk, .junk, .junk, .junk, .junk, .junk, .junk, .junk, .junk, .junk, .junk, .junk, .junk, .junk, .junk, .junk, .junk, .junk, .junk, .junk, .junk, .junk, .junk, .junk, .junk, .junk, .junk, .junk, .junk, .junk, .junk, .junk, .junk, .junk, .junk, .junk, .junk, .junk, .junk, .junk] ∧ ∀ p, p < k → negF (xs.getD p 0) = false) _ _ ?hw3 trim_no ⟨rfl, rfl, fun p hp => by omega⟩ ?_
  case hw3 =>
    repeat (first | exact weak_nil | refine weak_same ?_ | refine weak_junk ?_)
  rintro k hk ts m' ⟨rfl, rfl, hpre⟩ R hR
  conv => whnf
  repeat (first | (refine br.yes ?_; conv => whnf) | (refine br.no ?_; conv => whnf))
  refine br_intro (fun h4 => ?_) (fun h4 => ?_)
  · have hk1 := lt_of_lss h4
    conv => whnf
    repeat (first | (refine br.yes ?_; conv => whnf) | (refine br.no ?_; conv => whnf))
    refine ⟨side_in ⟨by omega, by omega⟩, ?_⟩
    conv => whnf
    repeat (first | (refine br.yes ?_; conv => whnf) | (refine br.no ?_; conv => whnf))
    refine ⟨side_in (at_lt hk1), ?_⟩
    rw [nth_at]
    conv => whnf
    repeat (first | (refine br.yes ?_; conv => whnf) | (refine br.no ?_; conv => whnf))
    refine br_intro (fun h5 => ?_) (fun h5 => ?_)
    · have e := nw_2 q1 (by have := anyN_yes (xs := xs) (p := negF) (k := k) (by omega) h5; simp [this])
      have k1 := k1 (by rw [e]; decide)
      rw [e] at k1
      conv => whnf
      repeat (first | (refine br.yes ?_; conv => whnf) | (refine br.no ?_; conv => whnf))
      exact k1
    · conv => whnf
      repeat (first | (refine br.yes ?_; conv => whnf) | (refine br.no ?_; conv => whnf))
      refine ⟨side_in ⟨by omega, by omega⟩, ?_⟩
      conv => whnf
      repeat (first | (refine br.yes ?_; conv => whnf) | (refine br.no ?_; conv => whnf))
      refine ⟨side_in (at_lt hk1), ?_⟩
      rw [nth_at]
      conv => whnf
      repeat (first | (refine br.yes ?_; conv => whnf) | (refine br.no ?_; conv => whnf))
      rw [add_one (by omega)]
      refine hR hk1 _ _ _ _ ?hw4 trim_no ⟨rfl, rfl, fun p hp => ?_⟩
      case hw4 =>
        repeat (first | exact weak_nil | refine weak_same ?_ | refine weak_junk ?_)
      rcases Nat.lt_or_ge p k with hlt | hge
      · exact hpre p hlt
      · have : p = k := by omega
        subst this; exact h5
  have hkn : k = n := by have := ge_of_lss h4; omega
  subst hkn
  have q2 : (decide (1 ≤ xs.length) && decide (xs.length ≤ 16) && !xs.any negF) = true := by
    rw [anyN_from (p := negF) (fun p hp => hpre p (by omega))]
    rw [cmI_lss] at h2; rw [cmI_gtr] at h3
    simp at h2 h3
    simp [hx]; omega
  rw [hS]
  conv => whnf
  repeat (first | (refine br.yes ?_; conv => whnf) | (refine br.no ?_; conv => whnf))
  refine c_l01Fine ?_
  conv => whnf
  repeat (first | (refine br.yes ?_; conv => whnf) | (refine br.no ?_; conv => whnf))
  refine br_intro (fun h5 => ?_) (fun h5 => ?_)
  · have e := nw_3 q1 q2 (by rw [notB_eq] at h5; simpa using h5)
    have k1 := k1 (by rw [e]; decide)
    rw [e] at k1
    conv => whnf
    repeat (first | (refine br.yes ?_; conv => whnf) | (refine br.no ?_; conv => whnf))
    exact k1
  have q3 : fine (nSum xs) = true := by rw [notB_eq] at h5; simpa using h5
  conv => whnf
  repeat (first | (refine br.yes ?_; conv => whnf) | (refine br.no ?_; conv => whnf))
  refine br_intro (fun h6 => ?_) (fun h6 => ?_)
  · have e := nw_5 q1 q2 h6
    have k1 := k1 (by rw [e]; decide)
    rw [e] at k1
    conv => whnf
    repeat (first | (refine br.yes ?_; conv => whnf) | (refine br.no ?_; conv => whnf))
    exact k1
  have q4 := h6
  conv => whnf
  repeat (first | (refine br.yes ?_; conv => whnf) | (refine br.no ?_; conv => whnf))
  have hl := nw_len (nw_0 q1 q2 q3 q4)
  refine loop_inv k (fun j ts m => ∃ cap, m = [⟨false, .af k xs, 0⟩, ⟨true, .af j (divTo xs (nSum xs) j), cap * 1⟩] ∧ ts = [.sl 0 [] 1 0 k c, .junk, nilS 1, AV.int 0, .junk, .flt .f32 (nSum xs), .junk, .sl 1 [] 1 0 j cap, AV.int j, .junk, .junk, .junk, .junk, .junk, .junk, .junk, .junk, .junk, .junk, .junk, .junk, .junk, .junk, .junk, .junk, .junk, .junk, .junk, .junk, .junk, .junk, .junk, .junk, .junk, .junk, .junk, .junk, .junk, .junk, .junk, .junk, .junk, .junk, .junk, .junk, .junk, .junk, .junk, .junk, .junk, .junk, .junk, .junk, .junk, .junk, .junk, .junk, .junk, .junk, .junk, .junk, .junk, .junk, .junk, .junk, .junk, .junk, .junk, .junk, .junk]) _ _ ?hwz (.inl rfl) ⟨0, rfl, rfl⟩ ?_
  case hwz =>
    repeat (first | exact weak_nil | refine weak_same ?_ | refine weak_junk ?_)
  rintro j hj ts m' ⟨cap, rfl, rfl⟩ R hR
  conv => whnf
  repeat (first | (refine br.yes ?_; conv => whnf) | (refine br.no ?_; conv => whnf))
  refine br_intro (fun h1 => ?_) (fun h1 => ?_)
  · have hj1 := lt_of_lss h1
    conv => whnf
    repeat (first | (refine br.yes ?_; conv => whnf) | (refine br.no ?_; conv => whnf))
    refine ⟨side_in ⟨by omega, by omega⟩, ?_⟩
    conv => whnf
    repeat (first | (refine br.yes ?_; conv => whnf) | (refine br.no ?_; conv => whnf))
    refine ⟨side_in (at_lt hj1), ?_⟩
    rw [nth_at]
    conv => whnf
    repeat (first | (refine br.yes ?_; conv => whnf) | (refine br.no ?_; conv => whnf))
    refine ⟨side_in ⟨by decide, rfl, rfl, by omega, rfl⟩, fun cap' => ?_⟩
    conv => whnf
    repeat (first | (refine br.yes ?_; conv => whnf) | (refine br.no ?_; conv => whnf))
    have e1 : addN j 1 = j + 1 := by rw [addN_eq]
    rw [add_one (by omega), e1]
    refine hR hj1 _ _ _ [⟨false, .af k xs, 0⟩, ⟨true, .af (j + 1) (divTo xs (nSum xs) j ++ [arF .quo .f32 (xs.getD j 0) (nSum xs)]), cap' * 1⟩] ?hwy ?tr ⟨cap', by rw [divTo_next (by omega)], rfl⟩
    case hwy =>
      repeat (first | exact weak_nil | refine weak_same ?_ | refine weak_junk ?_)
    case tr =>
      exact .inr ⟨2, by simp, rfl, rfl, rfl⟩
  · have hj2 : j = k := by have := ge_of_lss h1; omega
    subst hj2
    have e2 : divTo xs (nSum xs) j = nwList xs := by rw [← hx]; exact divTo_all
    conv => whnf
    repeat (first | (refine br.yes ?_; conv => whnf) | (refine br.no ?_; conv => whnf))
    rw [e2]
    exact k2 (nw_0 q1 q2 q3 q4) cap

set_option maxRecDepth 20000 in
set_option maxHeartbeats 3200000 in
theorem rimpl_NormWeights {n c : Nat} {xs : List Nat} (hx : xs.length = n) (hn : n ≤ 1048576) (k1 : nwCode xs ≠ 0 → K (.tup [nilS 1, AV.int (nwCode xs)]) [⟨false, .af n xs, 0⟩])
    (k2 : nwCode xs = 0 → ∀ cap : Nat, K (.tup [.sl 1 [] 1 0 n cap, AV.int 0]) [⟨false, .af n xs, 0⟩, ⟨true, .af n (nwList xs), cap * 1⟩]) : CallLeaf Try.prog w0 36 [.sl 0 [] 1 0 n c] [⟨false, .af n xs, 0⟩] K := by
  have hS : sumTo (fun k => xs.getD k 0) n = nSum xs := by unfold nSum; rw [hx]
  refine fn_go hmix h36 ?_
  conv => whnf
  repeat (first | (refine br.yes ?_; conv => whnf) | (refine br.no ?_; conv => whnf))
  refine c_sumOf (i := 0) rfl hx hn ?_
  rw [hS]
  conv => whnf
  repeat (first | (refine br.yes ?_; conv => whnf) | (refine br.no ?_; conv => whnf))
  refine c_areNumbers (i := 0) rfl hx hn ?_
  conv => whnf
  repeat (first | (refine br.yes ?_; conv => whnf) | (refine br.no ?_; conv => whnf))
  refine br_intro (fun h1 => ?_) (fun h1 => ?_)
  · have e := nw_1 (xs := xs) (by rw [notB_eq] at h1; simpa using h1)
    have k1 := k1 (by rw [e]; decide)
    rw [e] at k1
    conv => whnf
    repeat (first | (refine br.yes ?_; conv => whnf) | (refine br.no ?_; conv => whnf))
    exact k1
  have q1 : xs.all fine = true := by rw [notB_eq] at h1; simpa using h1
  conv => whnf
  repeat (first | (refine br.yes ?_; conv => whnf) | (refine br.no ?_; conv => whnf))
  refine c_within ?_
  conv => whnf
  repeat (first | (refine br.yes ?_; conv => whnf) | (refine br.no ?_; conv => whnf))
  refine br_intro (fun h2 => ?_) (fun h2 => ?_)
  · have e := nw_2 q1 (by
      rw [notB_eq] at h2
      simp only [Bool.not_eq_true', inR] at h2
      rw [Bool.and_eq_false_iff, decide_eq_false_iff_not, decide_eq_false_iff_not] at h2
      rcases h2 with h2 | h2
      · simp [show ¬ 1 ≤ xs.length by omega]
      · simp [show ¬ xs.length ≤ 16 by omega])
    have k1 := k1 (by rw [e]; decide)
    rw [e] at k1
    conv => whnf
    repeat (first | (refine br.yes ?_; conv => whnf) | (refine br.no ?_; conv => whnf))
    exact k1
  conv => whnf
  repeat (first | (refine br.yes ?_; conv => whnf) | (refine br.no ?_; conv => whnf))
  refine c_isLess (i := 0) rfl hx hn ?_
  conv => whnf
  repeat (first | (refine br.yes ?_; conv => whnf) | (refine br.no ?_; conv => whnf))
  refine br_intro (fun h3 => ?_) (fun h3 => ?_)
  · have e := nw_2 q1 (by simp [h3])
    have k1 := k1 (by rw [e]; decide)
    rw [e] at k1
    conv => whnf
    repeat (first | (refine br.yes ?_; conv => whnf) | (refine br.no ?_; conv => whnf))
    exact k1
  have q2 : (decide (1 ≤ xs.length) && decide (xs.length ≤ 16) && !xs.any negF) = true := by
    rw [notB_eq] at h2
    simp only [Bool.not_eq_false', inR, Bool.and_eq_true, decide_eq_true_eq] at h2
    simp [h3]; omega
  conv => whnf
  repeat (first | (refine br.yes ?_; conv => whnf) | (refine br.no ?_; conv => whnf))
  refine br_intro (fun h4 => ?_) (fun h4 => ?_)
  · have e := nw_5 q1 q2 h4
    have k1 := k1 (by rw [e]; decide)
    rw [e] at k1
    conv => whnf
    repeat (first | (refine br.yes ?_; conv => whnf) | (refine br.no ?_; conv => whnf))
    exact k1
  have q4 := h4
  conv => whnf
  repeat (first | (refine br.yes ?_; conv => whnf) | (refine br.no ?_; conv => whnf))
  refine c_isNumber ?_
  conv => whnf
  repeat (first | (refine br.yes ?_; conv => whnf) | (refine br.no ?_; conv => whnf))
  refine br_intro (fun h5 => ?_) (fun h5 => ?_)
  · have e := nw_3 q1 q2 (by rw [notB_eq] at h5; simpa using h5)
    have k1 := k1 (by rw [e]; decide)
    rw [e] at k1
    conv => whnf
    repeat (first | (refine br.yes ?_; conv => whnf) | (refine br.no ?_; conv => whnf))
    exact k1
  have q3 : fine (nSum xs) = true := by rw [notB_eq] at h5; simpa using h5
  conv => whnf
  repeat (first | (refine br.yes ?_; conv => whnf) | (refine br.no ?_; conv => whnf))
  have hl := nw_len (nw_0 q1 q2 q3 q4)
  refine loop_inv n (fun k ts m => ∃ cap, m = [⟨false, .af n xs, 0⟩, ⟨true, .af k (divTo xs (nSum xs) k), cap * 1⟩] ∧ ts = [.sl 0 [] 1 0 n c, .junk, nilS 1, AV.int 0, .flt .f32 (nSum xs), .sl 1 [] 1 0 k cap, .junk, .junk, .junk, .junk, .junk, .junk, .junk, .junk, .junk, .junk, .junk, .junk, .junk, .junk, .junk, .junk, .junk, .junk, .junk, .junk, .junk, .junk, .junk, .junk, .junk, .sl 0 [] 1 0 n c, AV.int n, AV.int k, .junk, .junk, .junk, .junk, .junk, .junk, .junk, .junk, .junk, .junk, .junk]) _ _ ?hwz (.inl rfl) ⟨0, rfl, rfl⟩ ?_
  case hwz =>
    repeat (first | exact weak_nil | refine weak_same ?_ | refine weak_junk ?_)
  rintro k hk ts m' ⟨cap, rfl, rfl⟩ R hR
  conv => whnf
  repeat (first | (refine br.yes ?_; conv => whnf) | (refine br.no ?_; conv => whnf))
  refine br_intro (fun h1 => ?_) (fun h1 => ?_)
  · have hk1 := lt_of_lss h1
    conv => whnf
    repeat (first | (refine br.yes ?_; conv => whnf) | (refine br.no ?_; conv => whnf))
    refine ⟨side_in ⟨by omega, by omega⟩, ?_⟩
    conv => whnf
    repeat (first | (refine br.yes ?_; conv => whnf) | (refine br.no ?_; conv => whnf))
    refine ⟨side_in (at_lt hk1), ?_⟩
    rw [nth_at]
    conv => whnf
    repeat (first | (refine br.yes ?_; conv => whnf) | (refine br.no ?_; conv => whnf))
    refine ⟨side_in ⟨by decide, rfl, rfl, by omega, rfl⟩, fun cap' => ?_⟩
    conv => whnf
    repeat (first | (refine br.yes ?_; conv => whnf) | (refine br.no ?_; conv => whnf))
    have e1 : addN k 1 = k + 1 := by rw [addN_eq]
    rw [add_one (by omega), e1]
    refine hR hk1 _ _ _ [⟨false, .af n xs, 0⟩, ⟨true, .af (k + 1) (divTo xs (nSum xs) k ++ [arF .quo .f32 (xs.getD k 0) (nSum xs)]), cap' * 1⟩] ?hwy ?tr ⟨cap', by rw [divTo_next (by omega)], rfl⟩
    case hwy =>
      repeat (first | exact weak_nil | refine weak_same ?_ | refine weak_junk ?_)
    case tr =>
      exact .inr ⟨2, by simp, rfl, rfl, rfl⟩
  · have hk2 : k = n := by have := ge_of_lss h1; omega
    subst hk2
    have e2 : divTo xs (nSum xs) k = nwList xs := by rw [← hx]; exact divTo_all
    conv => whnf
    repeat (first | (refine br.yes ?_; conv => whnf) | (refine br.no ?_; conv => whnf))
    rw [e2]
    exact k2 (nw_0 q1 q2 q3 q4) cap

end
end Go.Proofs.Ytpcakgdagmcopaa
