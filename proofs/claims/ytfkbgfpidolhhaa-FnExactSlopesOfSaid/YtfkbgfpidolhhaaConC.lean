/- Contracts of functions that walk over slices. -/
import Derived.Test.YtfkbgfpidolhhaaConA
namespace Go.Proofs.Ytfkbgfpidolhhaa
open Go Go.Fw
section
variable {w0 : World} {m : MS} {K : AV → MS → Prop}
theorem c20 {i j n1 n2 c1 c2 r1 r2 : Nat} {o1 o2 : Bool} {xs ys : List Int} (hi : getE m i = some ⟨o1, .ai n1 xs, r1⟩) (hj : getE m j = some ⟨o2, .ai n2 ys, r2⟩) (hx : xs.length = n1) (hy : ys.length = n2) (hn : n1 ≤ 4611686018427387904)
    (hK : K (AV.bool (decide (xs = ys))) m) : CallLeaf Try.prog w0 20 [.sl i [] 1 0 n1 c1, .sl j [] 1 0 n2 c2] m K := by
  refine fn_go hmix h20 ?_
  conv => whnf
  repeat (first | (refine br.yes ?_; conv => whnf) | (refine br.no ?_; conv => whnf))
  refine br_intro (fun h => ?_) (fun h => ?_)
  · conv => whnf
    repeat (first | (refine br.yes ?_; conv => whnf) | (refine br.no ?_; conv => whnf))
    exact K_bool hK (by rw [cmI_neq] at h; simp at h; simp; intro hh; subst hh; omega)
  · conv => whnf
    repeat (first | (refine br.yes ?_; conv => whnf) | (refine br.no ?_; conv => whnf))
    have hnn : n1 = n2 := by rw [cmI_neq] at h; simp at h; omega
    refine loop_inv n1 (fun k ts m' => m' = m ∧ ts = [.sl i [] 1 0 n1 c1, .sl j [] 1 0 n2 c2, .junk, .junk, AV.bool false, AV.int k, .junk, .junk, .junk, .junk, .junk, .junk, .junk, .junk, .junk, .junk, .junk, .junk, .junk, .junk, .junk, .junk, .junk, .junk, .junk, .junk] ∧ ∀ p, p < k → xs.getD p 0 = ys.getD p 0) _ _ ?hw trim_no ⟨rfl, rfl, by intro p hp; omega⟩ ?_
    case hw =>
      repeat (first | exact weak_nil | refine weak_same ?_ | refine weak_junk ?_)
    rintro k hk ts m' ⟨rfl, rfl, hpre⟩ R hR
    conv => whnf
    repeat (first | (refine br.yes ?_; conv => whnf) | (refine br.no ?_; conv => whnf))
    refine br_intro (fun h1 => ?_) (fun h1 => ?_)
    · conv => whnf
      repeat (first | (refine br.yes ?_; conv => whnf) | (refine br.no ?_; conv => whnf))
      have hk1 := lt_of_lss h1
      refine ⟨side_in ⟨by omega, by omega⟩, ?_⟩
      conv => whnf
      repeat (first | (refine br.yes ?_; conv => whnf) | (refine br.no ?_; conv => whnf))
      rw [hi]
      conv => whnf
      repeat (first | (refine br.yes ?_; conv => whnf) | (refine br.no ?_; conv => whnf))
      refine ⟨side_in (at_lt hk1), ?_⟩
      conv => whnf
      repeat (first | (refine br.yes ?_; conv => whnf) | (refine br.no ?_; conv => whnf))
      refine ⟨side_in ⟨by omega, by omega⟩, ?_⟩
      conv => whnf
      repeat (first | (refine br.yes ?_; conv => whnf) | (refine br.no ?_; conv => whnf))
      rw [hj]
      conv => whnf
      repeat (first | (refine br.yes ?_; conv => whnf) | (refine br.no ?_; conv => whnf))
      refine ⟨side_in (at_lt (by omega)), ?_⟩
      conv => whnf
      repeat (first | (refine br.yes ?_; conv => whnf) | (refine br.no ?_; conv => whnf))
      refine br_intro (fun h2 => ?_) (fun h2 => ?_)
      · conv => whnf
        repeat (first | (refine br.yes ?_; conv => whnf) | (refine br.no ?_; conv => whnf))
        refine K_bool hK ?_
        rw [cmI_neq, nth_at, nth_at] at h2
        simp at h2
        simp
        intro hh; subst hh; exact h2 rfl
      · conv => whnf
        repeat (first | (refine br.yes ?_; conv => whnf) | (refine br.no ?_; conv => whnf))
        rw [add_one (by omega)]
        refine hR hk1 _ _ _ _ ?hw2 trim_no ⟨rfl, rfl, fun p hp => ?_⟩
        case hw2 =>
          repeat (first | exact weak_nil | refine weak_same ?_ | refine weak_junk ?_)
        rw [cmI_neq, nth_at, nth_at] at h2
        simp only [decide_not, Bool.not_eq_false', decide_eq_true_eq] at h2
        rcases Nat.lt_or_ge p k with hlt | hge
        · exact hpre p hlt
        · have : p = k := by omega
          subst this; exact h2
    · conv => whnf
      repeat (first | (refine br.yes ?_; conv => whnf) | (refine br.no ?_; conv => whnf))
      have hk2 := ge_of_lss h1
      refine K_bool hK ?_
      have : k = n1 := by omega
      subst this
      simp only [decide_eq_true_eq]
      exact ext_getD (by omega) (fun p hp => hpre p (by omega))
/-- a copy -/
theorem c18 {i n c r : Nat} {o : Bool} {xs : List Int} (hi : getE m i = some ⟨o, .ai n xs, r⟩) (hx : xs.length = n) (hn : n ≤ 1048576)
    (hK : newK m (.ai n xs) n fun i m => K (.sl i [] 1 0 n n) m) : CallLeaf Try.prog w0 18 [.sl i [] 1 0 n c] m K := by
  rw [newK_eq] at hK
  refine fn_go hmix h18 ?_
  conv => whnf
  repeat (first | (refine br.yes ?_; conv => whnf) | (refine br.no ?_; conv => whnf))
  refine ⟨side_in ⟨rfl, by omega, by omega⟩, ?_⟩
  conv => whnf
  repeat (first | (refine br.yes ?_; conv => whnf) | (refine br.no ?_; conv => whnf))
  rw [newK_eq, toN_nat, mulN_i]
  conv => whnf
  repeat (first | (refine br.yes ?_; conv => whnf) | (refine br.no ?_; conv => whnf))
  refine loop_inv n (fun k ts m' => ∃ ys : List Int, ys.length = n ∧ (∀ p, p < k → ys.getD p 0 = xs.getD p 0) ∧ m' = m ++ [⟨true, .ai n ys, n⟩] ∧ ts = [.sl i [] 1 0 n c, .junk, nilS 1, .sl m.length [] 1 0 n n, AV.int k, .junk, .junk, .junk, .junk, .junk, .junk, .junk, .junk, .junk, .junk, .junk, .junk, .junk, .junk, .junk, .junk, .junk]) _ _ ?hw trim_no ⟨List.replicate n 0, by simp, by intro p hp; omega, rfl, rfl⟩ ?_
  case hw =>
    repeat (first | exact weak_nil | refine weak_same ?_ | refine weak_junk ?_)
  rintro k hk ts m' ⟨ys, hy, hpre, rfl, rfl⟩ R hR
  conv => whnf
  repeat (first | (refine br.yes ?_; conv => whnf) | (refine br.no ?_; conv => whnf))
  refine br_intro (fun h1 => ?_) (fun h1 => ?_)
  · conv => whnf
    repeat (first | (refine br.yes ?_; conv => whnf) | (refine br.no ?_; conv => whnf))
    have hk1 := lt_of_lss h1
    refine ⟨side_in ⟨by omega, by omega⟩, ?_⟩
    conv => whnf
    repeat (first | (refine br.yes ?_; conv => whnf) | (refine br.no ?_; conv => whnf))
    rw [getE_left hi]
    conv => whnf
    repeat (first | (refine br.yes ?_; conv => whnf) | (refine br.no ?_; conv => whnf))
    refine ⟨side_in (at_lt hk1), ?_⟩
    conv => whnf
    repeat (first | (refine br.yes ?_; conv => whnf) | (refine br.no ?_; conv => whnf))
    refine ⟨side_in ⟨by omega, by omega⟩, ?_⟩
    conv => whnf
    repeat (first | (refine br.yes ?_; conv => whnf) | (refine br.no ?_; conv => whnf))
    rw [getE_last]
    conv => whnf
    repeat (first | (refine br.yes ?_; conv => whnf) | (refine br.no ?_; conv => whnf))
    refine ⟨side_in (at_lt hk1), ?_⟩
    conv => whnf
    repeat (first | (refine br.yes ?_; conv => whnf) | (refine br.no ?_; conv => whnf))
    rw [setEK_last]
    conv => whnf
    repeat (first | (refine br.yes ?_; conv => whnf) | (refine br.no ?_; conv => whnf))
    rw [add_one (by omega), nth_at, upd_at]
    refine hR hk1 _ _ _ _ ?hw2 trim_no ⟨ys.set k (xs.getD k 0), by simp [hy], fun p hp => ?_, rfl, rfl⟩
    case hw2 =>
      repeat (first | exact weak_nil | refine weak_same ?_ | refine weak_junk ?_)
    by_cases hpk : k = p
    · subst hpk; exact getD_set_self (by omega)
    · rw [getD_set_other hpk]; exact hpre p (by omega)
  · conv => whnf
    repeat (first | (refine br.yes ?_; conv => whnf) | (refine br.no ?_; conv => whnf))
    have hk2 := ge_of_lss h1
    have : ys = xs := ext_getD (by omega) (fun p hp => hpre p (by omega))
    subst this
    exact hK
/-- a map of heights -/
def heights (xs : List Int) : Bool := xs.all fun x => inR x (-100000) 100000
def square (n : Int) (len : Nat) : Bool := decide ((len : Int) = arI .mul .i64 n n)
def isMap (n : Int) (xs : List Int) : Bool := isSide n && square n xs.length && heights xs
theorem all_from {xs : List Int} {p : Int → Bool} (h : ∀ k, k < xs.length → p (xs.getD k 0) = true) : xs.all p = true := by
  rw [List.all_eq_true]
  intro x hx
  obtain ⟨k, hk, rfl⟩ := List.getElem_of_mem hx
  have := h k hk
  simpa [hk] using this
theorem all_not {xs : List Int} {p : Int → Bool} {k : Nat} (hk : k < xs.length) (h : p (xs.getD k 0) = false) : xs.all p = false := by
  rw [List.all_eq_false]
  exact ⟨xs[k], List.getElem_mem hk, by simpa [hk] using h⟩
theorem c49 {N : Int} {i n c r : Nat} {o : Bool} {xs : List Int} (hi : getE m i = some ⟨o, .ai n xs, r⟩) (hx : xs.length = n) (hn : n ≤ 4611686018427387904)
    (hK : K (AV.bool (isMap N xs)) m) : CallLeaf Try.prog w0 49 [AV.int N, .sl i [] 1 0 n c] m K := by
  refine fn_go hmix h49 ?_
  conv => whnf
  repeat (first | (refine br.yes ?_; conv => whnf) | (refine br.no ?_; conv => whnf))
  refine c44 ?_
  conv => whnf
  repeat (first | (refine br.yes ?_; conv => whnf) | (refine br.no ?_; conv => whnf))
  refine br_intro (fun h => ?_) (fun h => ?_)
  · conv => whnf
    repeat (first | (refine br.yes ?_; conv => whnf) | (refine br.no ?_; conv => whnf))
    exact K_bool hK (by rw [notB_eq] at h; simp at h; simp [isMap, h])
  conv => whnf
  repeat (first | (refine br.yes ?_; conv => whnf) | (refine br.no ?_; conv => whnf))
  refine br_intro (fun h2 => ?_) (fun h2 => ?_)
  · conv => whnf
    repeat (first | (refine br.yes ?_; conv => whnf) | (refine br.no ?_; conv => whnf))
    exact K_bool hK (by rw [cmI_neq] at h2; simp at h2; simp [isMap, square, hx, h2])
  conv => whnf
  repeat (first | (refine br.yes ?_; conv => whnf) | (refine br.no ?_; conv => whnf))
  refine loop_inv n (fun k ts m' => m' = m ∧ ts = [AV.int N, .sl i [] 1 0 n c, .junk, .junk, AV.bool false, AV.int k, .junk, .junk, .junk, .junk, .junk, .junk, .junk, .junk, .junk, .junk, .junk, .junk, .junk, .junk, .junk, .junk, .junk, .junk, .junk, .junk, .junk, .junk, .junk] ∧ ∀ p, p < k → inR (xs.getD p 0) (-100000) 100000 = true) _ _ ?hw trim_no ⟨rfl, rfl, by intro p hp; omega⟩ ?_
  case hw =>
    repeat (first | exact weak_nil | refine weak_same ?_ | refine weak_junk ?_)
  rintro k hk ts m' ⟨rfl, rfl, hpre⟩ R hR
  conv => whnf
  repeat (first | (refine br.yes ?_; conv => whnf) | (refine br.no ?_; conv => whnf))
  refine br_intro (fun h3 => ?_) (fun h3 => ?_)
  · conv => whnf
    repeat (first | (refine br.yes ?_; conv => whnf) | (refine br.no ?_; conv => whnf))
    have hk1 := lt_of_lss h3
    refine ⟨side_in ⟨by omega, by omega⟩, ?_⟩
    conv => whnf
    repeat (first | (refine br.yes ?_; conv => whnf) | (refine br.no ?_; conv => whnf))
    rw [hi]
    conv => whnf
    repeat (first | (refine br.yes ?_; conv => whnf) | (refine br.no ?_; conv => whnf))
    refine ⟨side_in (at_lt hk1), ?_⟩
    rw [nth_at]
    conv => whnf
    repeat (first | (refine br.yes ?_; conv => whnf) | (refine br.no ?_; conv => whnf))
    refine c40 ?_
    conv => whnf
    repeat (first | (refine br.yes ?_; conv => whnf) | (refine br.no ?_; conv => whnf))
    refine br_intro (fun h4 => ?_) (fun h4 => ?_)
    · conv => whnf
      repeat (first | (refine br.yes ?_; conv => whnf) | (refine br.no ?_; conv => whnf))
      exact K_bool hK (by rw [notB_eq] at h4; simp at h4; simp [isMap, heights]; intro _ _; exact ⟨xs[k]'(by omega), List.getElem_mem (by omega), by simpa [hx, hk1] using h4⟩)
    · conv => whnf
      repeat (first | (refine br.yes ?_; conv => whnf) | (refine br.no ?_; conv => whnf))
      rw [add_one (by omega)]
      refine hR hk1 _ _ _ _ ?hw2 trim_no ⟨rfl, rfl, fun p hp => ?_⟩
      case hw2 =>
        repeat (first | exact weak_nil | refine weak_same ?_ | refine weak_junk ?_)
      rw [notB_eq] at h4
      simp at h4
      rcases Nat.lt_or_ge p k with hlt | hge
      · exact hpre p hlt
      · have : p = k := by omega
        subst this; simpa using h4
  · conv => whnf
    repeat (first | (refine br.yes ?_; conv => whnf) | (refine br.no ?_; conv => whnf))
    have hk2 := ge_of_lss h3
    refine K_bool hK ?_
    rw [notB_eq] at h
    rw [cmI_neq] at h2
    simp at h h2
    have h5 : heights xs = true := all_from (fun p hp => hpre p (by omega))
    simp [isMap, square, hx, h, h2, h5]
theorem c17 {N : Int} {i n c r : Nat} {o : Bool} {xs : List Int} (hi : getE m i = some ⟨o, .ai n xs, r⟩) (hx : xs.length = n) (hn : n ≤ 4611686018427387904)
    (hK : K (AV.bool (isMap N xs)) m) : CallLeaf Try.prog w0 17 [AV.int N, .sl i [] 1 0 n c] m K := by
  refine fn_go hmix h17 ?_
  conv => whnf
  repeat (first | (refine br.yes ?_; conv => whnf) | (refine br.no ?_; conv => whnf))
  refine c49 hi hx hn ?_
  conv => whnf
  repeat (first | (refine br.yes ?_; conv => whnf) | (refine br.no ?_; conv => whnf))
  exact hK
theorem c51 {x : Int} (hK : K (AV.bool (!inR x (-100000) 100000)) m) : CallLeaf Try.prog w0 51 [AV.int x] m K := by
  refine fn_go hmix h51 ?_
  conv => whnf
  repeat (first | (refine br.yes ?_; conv => whnf) | (refine br.no ?_; conv => whnf))
  refine c42 ?_
  conv => whnf
  repeat (first | (refine br.yes ?_; conv => whnf) | (refine br.no ?_; conv => whnf))
  exact K_bool hK (notB_eq _).symm
theorem c66 {i n c r f : Nat} {o : Bool} {xs : List Int} {caps : List AV} {p : Int → Bool} (hf : fnHas Try.prog f = true) (hp : ∀ (x : Int) (K : AV → MS → Prop), K (AV.bool (p x)) m → CallLeaf Try.prog w0 f (AV.int x :: caps) m K)
    (hi : getE m i = some ⟨o, .ai n xs, r⟩) (hx : xs.length = n) (hn : n ≤ 4611686018427387904)
    (hK : ∀ q : Int, (0 ≤ q ↔ xs.any p = true) → K (AV.int q) m) : CallLeaf Try.prog w0 66 [.sl i [] 1 0 n c, .fn f caps] m K := by
  refine fn_go hmix h66 ?_
  conv => whnf
  repeat (first | (refine br.yes ?_; conv => whnf) | (refine br.no ?_; conv => whnf))
  refine loop_inv n (fun k ts m' => m' = m ∧ ts = [.sl i [] 1 0 n c, .fn f caps, .junk, .junk, AV.int 0, .junk, .junk, AV.int n, AV.int k, .junk, .junk, .junk, .junk, .junk, .junk, .junk, .junk, .junk, .junk] ∧ ∀ q, q < k → p (xs.getD q 0) = false) _ _ ?hw trim_no ⟨rfl, rfl, by intro p hp; omega⟩ ?_
  case hw =>
    repeat (first | exact weak_nil | refine weak_same ?_ | refine weak_junk ?_)
  rintro k hk ts m' ⟨rfl, rfl, hpre⟩ R hR
  conv => whnf
  repeat (first | (refine br.yes ?_; conv => whnf) | (refine br.no ?_; conv => whnf))
  refine br_intro (fun h3 => ?_) (fun h3 => ?_)
  · conv => whnf
    repeat (first | (refine br.yes ?_; conv => whnf) | (refine br.no ?_; conv => whnf))
    have hk1 := lt_of_lss h3
    refine ⟨side_in ⟨by omega, by omega⟩, ?_⟩
    conv => whnf
    repeat (first | (refine br.yes ?_; conv => whnf) | (refine br.no ?_; conv => whnf))
    rw [hi]
    conv => whnf
    repeat (first | (refine br.yes ?_; conv => whnf) | (refine br.no ?_; conv => whnf))
    refine ⟨side_in (at_lt hk1), ?_⟩
    rw [nth_at]
    conv => whnf
    repeat (first | (refine br.yes ?_; conv => whnf) | (refine br.no ?_; conv => whnf))
    refine ⟨side_in hf, ?_⟩
    conv => whnf
    repeat (first | (refine br.yes ?_; conv => whnf) | (refine br.no ?_; conv => whnf))
    refine hp _ _ ?_
    conv => whnf
    repeat (first | (refine br.yes ?_; conv => whnf) | (refine br.no ?_; conv => whnf))
    refine br_intro (fun h4 => ?_) (fun h4 => ?_)
    · conv => whnf
      repeat (first | (refine br.yes ?_; conv => whnf) | (refine br.no ?_; conv => whnf))
      exact hK _ ⟨fun _ => List.any_eq_true.2 ⟨xs[k], List.getElem_mem (by omega), by simpa [hx, hk1] using h4⟩, fun _ => by omega⟩
    · conv => whnf
      repeat (first | (refine br.yes ?_; conv => whnf) | (refine br.no ?_; conv => whnf))
      rw [add_one (by omega)]
      refine hR hk1 _ _ _ _ ?hw2 trim_no ⟨rfl, rfl, fun q hq => ?_⟩
      case hw2 =>
        repeat (first | exact weak_nil | refine weak_same ?_ | refine weak_junk ?_)
      rcases Nat.lt_or_ge q k with hlt | hge
      · exact hpre q hlt
      · have : q = k := by omega
        subst this; exact h4
  · conv => whnf
    repeat (first | (refine br.yes ?_; conv => whnf) | (refine br.no ?_; conv => whnf))
    have hk2 := ge_of_lss h3
    refine hK _ ⟨fun h => by omega, fun h => ?_⟩
    obtain ⟨x, hx1, hx2⟩ := List.any_eq_true.1 h
    obtain ⟨q, hq, rfl⟩ := List.getElem_of_mem hx1
    have := hpre q (by omega)
    simp [hq] at this
    rw [this] at hx2; cases hx2
theorem c50 {i n c r f : Nat} {o : Bool} {xs : List Int} {caps : List AV} {p : Int → Bool} (hf : fnHas Try.prog f = true) (hp : ∀ (x : Int) (K : AV → MS → Prop), K (AV.bool (p x)) m → CallLeaf Try.prog w0 f (AV.int x :: caps) m K)
    (hi : getE m i = some ⟨o, .ai n xs, r⟩) (hx : xs.length = n) (hn : n ≤ 4611686018427387904)
    (hK : K (AV.bool (xs.any p)) m) : CallLeaf Try.prog w0 50 [.sl i [] 1 0 n c, .fn f caps] m K := by
  refine fn_go hmix h50 ?_
  conv => whnf
  repeat (first | (refine br.yes ?_; conv => whnf) | (refine br.no ?_; conv => whnf))
  refine c66 hf hp hi hx hn (fun q hq => ?_)
  conv => whnf
  repeat (first | (refine br.yes ?_; conv => whnf) | (refine br.no ?_; conv => whnf))
  refine K_bool hK ?_
  rw [cmI_geq]
  cases h : xs.any p with
  | true => simp [hq.2 h]
  | false =>
    have : ¬ 0 ≤ q := fun h' => by rw [hq.1 h'] at h; cases h
    simp; omega
theorem c19 {N : Int} {i n c r : Nat} {o : Bool} {xs : List Int} (hi : getE m i = some ⟨o, .ai n xs, r⟩) (hx : xs.length = n) (hn : n ≤ 4611686018427387904)
    (hK : K (AV.bool (isMap N xs)) m) : CallLeaf Try.prog w0 19 [AV.int N, .sl i [] 1 0 n c] m K := by
  have hany : (xs.any fun x => !inR x (-100000) 100000) = !heights xs := by
    unfold heights
    rw [List.not_all_eq_any_not]
  refine fn_go hmix h19 ?_
  conv => whnf
  repeat (first | (refine br.yes ?_; conv => whnf) | (refine br.no ?_; conv => whnf))
  refine c46 ?_
  conv => whnf
  repeat (first | (refine br.yes ?_; conv => whnf) | (refine br.no ?_; conv => whnf))
  refine br_intro (fun h => ?_) (fun h => ?_)
  · conv => whnf
    repeat (first | (refine br.yes ?_; conv => whnf) | (refine br.no ?_; conv => whnf))
    refine br_intro (fun h2 => ?_) (fun h2 => ?_)
    · conv => whnf
      repeat (first | (refine br.yes ?_; conv => whnf) | (refine br.no ?_; conv => whnf))
      refine c50 (by kernel_rfl) (fun x K hK => c51 hK) hi hx hn ?_
      conv => whnf
      repeat (first | (refine br.yes ?_; conv => whnf) | (refine br.no ?_; conv => whnf))
      rw [hany]
      exact K_bool hK (by rw [cmI_eql] at h2; simp at h2; simp [isMap, square, hx, h, h2, notB_eq])
    · conv => whnf
      repeat (first | (refine br.yes ?_; conv => whnf) | (refine br.no ?_; conv => whnf))
      exact K_bool hK (by rw [cmI_eql] at h2; simp at h2; simp [isMap, square, hx, h2])
  · conv => whnf
    repeat (first | (refine br.yes ?_; conv => whnf) | (refine br.no ?_; conv => whnf))
    exact K_bool hK (by simp [isMap, h])
theorem c6 {N : Int} {n c : Nat} {xs : List Int} (hx : xs.length = n)
    (hK : ∀ m, K (AV.bool true) m) : CallLeaf Try.prog w0 6 [AV.int N, .sl 0 [] 1 0 n c] [⟨false, .ai n xs, 0⟩] K := by
  refine fn_go hmix h6 ?_
  conv => whnf
  repeat (first | (refine br.yes ?_; conv => whnf) | (refine br.no ?_; conv => whnf))
  refine br_intro (fun h => ?_) (fun h => ?_)
  · conv => whnf
    repeat (first | (refine br.yes ?_; conv => whnf) | (refine br.no ?_; conv => whnf))
    exact hK _
  conv => whnf
  repeat (first | (refine br.yes ?_; conv => whnf) | (refine br.no ?_; conv => whnf))
  have hn : n ≤ 1048576 := by rw [cmI_gtr] at h; simp at h; omega
  refine c18 (i := 0) rfl hx hn ?_
  conv => whnf
  repeat (first | (refine br.yes ?_; conv => whnf) | (refine br.no ?_; conv => whnf))
  refine c17 rfl hx (by omega) ?_
  conv => whnf
  repeat (first | (refine br.yes ?_; conv => whnf) | (refine br.no ?_; conv => whnf))
  refine c18 (i := 0) rfl hx hn ?_
  conv => whnf
  repeat (first | (refine br.yes ?_; conv => whnf) | (refine br.no ?_; conv => whnf))
  refine c19 rfl hx (by omega) ?_
  conv => whnf
  repeat (first | (refine br.yes ?_; conv => whnf) | (refine br.no ?_; conv => whnf))
  refine br_false (by rw [notB_eq, eqB_eq]; simp) ?_
  conv => whnf
  repeat (first | (refine br.yes ?_; conv => whnf) | (refine br.no ?_; conv => whnf))
  refine c18 (i := 0) rfl hx hn ?_
  conv => whnf
  repeat (first | (refine br.yes ?_; conv => whnf) | (refine br.no ?_; conv => whnf))
  refine c20 rfl rfl hx hx (by omega) ?_
  conv => whnf
  repeat (first | (refine br.yes ?_; conv => whnf) | (refine br.no ?_; conv => whnf))
  refine br_false (by rw [notB_eq]; simp) ?_
  conv => whnf
  repeat (first | (refine br.yes ?_; conv => whnf) | (refine br.no ?_; conv => whnf))
  exact hK _
end
end Go.Proofs.Ytfkbgfpidolhhaa
