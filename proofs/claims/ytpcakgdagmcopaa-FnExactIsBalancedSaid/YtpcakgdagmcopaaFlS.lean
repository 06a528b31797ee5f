/- Contracts of functions, by a walk each. -/
import Derived.Test.YtpcakgdagmcopaaBase
namespace Go.Proofs.Ytpcakgdagmcopaa
open Go Go.Fw
section
variable {w0 : World} {m : MS} {K : AV → MS → Prop}
/-! lists of floats -/
theorem c_eqFloatsS {i j n c1 c2 r1 r2 : Nat} {o1 o2 : Bool} {xs : List Nat} (hi : getE m i = some ⟨o1, .af n xs, r1⟩) (hj : getE m j = some ⟨o2, .af n xs, r2⟩) (hn : n ≤ 1048576)
    (hK : K (AV.bool true) m) : CallLeaf Try.prog w0 10 [.sl i [] 1 0 n c1, .sl j [] 1 0 n c2] m K := by
  refine fn_go hmix h10 ?_
  conv => whnf
  repeat (first | (refine br.yes ?_; conv => whnf) | (refine br.no ?_; conv => whnf))
  refine br_false (neq_self _) ?_
  conv => whnf
  repeat (first | (refine br.yes ?_; conv => whnf) | (refine br.no ?_; conv => whnf))
  refine loop_inv n (fun k ts m' => m' = m ∧ ts = [.sl i [] 1 0 n c1, .sl j [] 1 0 n c2, .junk, .junk, AV.bool false, AV.int k, .junk, .junk, .junk, .junk, .junk, .junk, .junk, .junk, .junk, .junk, .junk, .junk, .junk, .junk, .junk, .junk, .junk, .junk, .junk, .junk, .junk, .junk, .junk]) _ _ ?hw trim_no ⟨rfl, rfl⟩ ?_
  case hw =>
    repeat (first | exact weak_nil | refine weak_same ?_ | refine weak_junk ?_)
  rintro k hk ts m' ⟨rfl, rfl⟩ R hR
  conv => whnf
  repeat (first | (refine br.yes ?_; conv => whnf) | (refine br.no ?_; conv => whnf))
  refine br_intro (fun h1 => ?_) (fun h1 => ?_)
  · have hk1 := lt_of_lss h1
    conv => whnf
    repeat (first | (refine br.yes ?_; conv => whnf) | (refine br.no ?_; conv => whnf))
    refine ⟨side_in ⟨by omega, by omega⟩, ?_⟩
    conv => whnf
    repeat (first | (refine br.yes ?_; conv => whnf) | (refine br.no ?_; conv => whnf))
    rw [hi]
    conv => whnf
    repeat (first | (refine br.yes ?_; conv => whnf) | (refine br.no ?_; conv => whnf))
    refine ⟨side_in (at_lt hk1), ?_⟩
    rw [nth_at]
    conv => whnf
    repeat (first | (refine br.yes ?_; conv => whnf) | (refine br.no ?_; conv => whnf))
    refine ⟨side_in ⟨by omega, by omega⟩, ?_⟩
    conv => whnf
    repeat (first | (refine br.yes ?_; conv => whnf) | (refine br.no ?_; conv => whnf))
    rw [hj]
    conv => whnf
    repeat (first | (refine br.yes ?_; conv => whnf) | (refine br.no ?_; conv => whnf))
    refine ⟨side_in (at_lt hk1), ?_⟩
    rw [nth_at]
    conv => whnf
    repeat (first | (refine br.yes ?_; conv => whnf) | (refine br.no ?_; conv => whnf))
    refine q_keep (AV.bool true) (fun K' h => c_sameFloat h) ?_
    conv => whnf
    repeat (first | (refine br.yes ?_; conv => whnf) | (refine br.no ?_; conv => whnf))
    refine br_false (by rw [notB_eq]; rfl) ?_
    conv => whnf
    repeat (first | (refine br.yes ?_; conv => whnf) | (refine br.no ?_; conv => whnf))
    rw [add_one (by omega)]
    refine hR hk1 _ _ _ _ ?hw2 trim_no ⟨rfl, rfl⟩
    case hw2 =>
      repeat (first | exact weak_nil | refine weak_same ?_ | refine weak_junk ?_)
  · conv => whnf
    repeat (first | (refine br.yes ?_; conv => whnf) | (refine br.no ?_; conv => whnf))
    exact hK
/-- two lists without an element -/
theorem c_eqFloatsS0 {i j c1 c2 : Nat} (hK : K (AV.bool true) m) : CallLeaf Try.prog w0 10 [.sl i [] 1 0 0 c1, .sl j [] 1 0 0 c2] m K := by
  refine fn_go hmix h10 ?_
  conv => whnf
  repeat (first | (refine br.yes ?_; conv => whnf) | (refine br.no ?_; conv => whnf))
  refine br_false (by rw [cmI_neq]; rfl) ?_
  conv => whnf
  repeat (first | (refine br.yes ?_; conv => whnf) | (refine br.no ?_; conv => whnf))
  refine loop_inv 0 (fun k ts m' => m' = m ∧ ts = [.sl i [] 1 0 0 c1, .sl j [] 1 0 0 c2, .junk, .junk, AV.bool false, AV.int 0, .junk, .junk, .junk, .junk, .junk, .junk, .junk, .junk, .junk, .junk, .junk, .junk, .junk, .junk, .junk, .junk, .junk, .junk, .junk, .junk, .junk, .junk, .junk]) _ _ ?hw trim_no ⟨rfl, rfl⟩ ?_
  case hw =>
    repeat (first | exact weak_nil | refine weak_same ?_ | refine weak_junk ?_)
  rintro k hk ts m' ⟨rfl, rfl⟩ R hR
  conv => whnf
  repeat (first | (refine br.yes ?_; conv => whnf) | (refine br.no ?_; conv => whnf))
  refine br_false (by rw [cmI_lss]; rfl) ?_
  conv => whnf
  repeat (first | (refine br.yes ?_; conv => whnf) | (refine br.no ?_; conv => whnf))
  exact hK
def FMarks (k : Nat) (xs : List Nat) : Prop := ∀ p, p < xs.length → xs.getD p 0 = iToF .f32 ((k + p : Nat) : Int)
theorem c_markF {i n c r k : Nat} {xs : List Nat} (hi : getE m i = some ⟨true, .af n xs, r⟩) (hx : xs.length = n) (hn : n ≤ 1048576) (hk0 : k ≤ 1048576)
    (hK : ∀ ys : List Nat, ys.length = n → FMarks k ys → setEK m i ⟨true, .af n ys, r⟩ fun m => K (AV.int (k + n : Nat)) m) : CallLeaf Try.prog w0 13 [.sl i [] 1 0 n c, AV.int k] m K := by
  refine fn_go hmix h13 ?_
  conv => whnf
  repeat (first | (refine br.yes ?_; conv => whnf) | (refine br.no ?_; conv => whnf))
  refine loop_inv n (fun j ts m' => ∃ ys : List Nat, ys.length = n ∧ (∀ p, p < j → ys.getD p 0 = iToF .f32 ((k + p : Nat) : Int)) ∧ m' = setM m i ⟨true, .af n ys, r⟩ ∧ ts = [.sl i [] 1 0 n c, AV.int (k + j : Nat), .junk, .junk, AV.int 0, AV.int j, .junk, .junk, .junk, .junk, .junk, .junk, .junk, .junk, .junk, .junk, .junk, .junk, .junk, .junk]) [.sl i [] 1 0 n c, AV.int k, .junk, .junk, AV.int 0, AV.int 0, .junk, .junk, .junk, .junk, .junk, .junk, .junk, .junk, .junk, .junk, .junk, .junk, .junk, .junk] _ ?hw trim_no ⟨xs, hx, by intro p hp; omega, (setM_self hi).symm, rfl⟩ ?_
  case hw =>
    repeat (first | exact weak_nil | refine weak_same ?_ | refine weak_junk ?_)
  rintro j hj ts M ⟨ys, hy, hpre, hM, rfl⟩ R hR
  have hi1 : getE M i = some ⟨true, .af n ys, r⟩ := by rw [hM]; exact getE_set hi
  conv => whnf
  repeat (first | (refine br.yes ?_; conv => whnf) | (refine br.no ?_; conv => whnf))
  refine br_intro (fun h1 => ?_) (fun h1 => ?_)
  · have hj1 := lt_of_lss h1
    conv => whnf
    repeat (first | (refine br.yes ?_; conv => whnf) | (refine br.no ?_; conv => whnf))
    refine ⟨side_in ⟨by omega, by omega⟩, ?_⟩
    conv => whnf
    repeat (first | (refine br.yes ?_; conv => whnf) | (refine br.no ?_; conv => whnf))
    rw [hi1]
    conv => whnf
    repeat (first | (refine br.yes ?_; conv => whnf) | (refine br.no ?_; conv => whnf))
    refine ⟨side_in (at_lt hj1), ?_⟩
    conv => whnf
    repeat (first | (refine br.yes ?_; conv => whnf) | (refine br.no ?_; conv => whnf))
    rw [setEK_M]
    conv => whnf
    repeat (first | (refine br.yes ?_; conv => whnf) | (refine br.no ?_; conv => whnf))
    have e2 : arI .add .i64 ((k + j : Nat) : Int) 1 = ((k + (j + 1) : Nat) : Int) := add_one (by omega)
    rw [e2, add_one (by omega), upd_at, hM, set_set_ms]
    refine hR hj1 _ _ _ _ ?hw2 trim_no ⟨ys.set j (iToF .f32 ((k + j : Nat) : Int)), by simp [hy], fun p hp => ?_, rfl, rfl⟩
    case hw2 =>
      repeat (first | exact weak_nil | refine weak_same ?_ | refine weak_junk ?_)
    by_cases hpj : j = p
    · subst hpj; rw [getD_set_self (by omega)]
    · rw [getD_set_other hpj]; exact hpre p (by omega)
  · have hj2 : j = n := by have := ge_of_lss h1; omega
    subst hj2
    conv => whnf
    repeat (first | (refine br.yes ?_; conv => whnf) | (refine br.no ?_; conv => whnf))
    rw [hM]
    have hK := hK ys hy (fun p hp => hpre p (by omega))
    rw [setEK_M] at hK
    exact hK
theorem c_markF0 {i c k : Nat} (hK : K (AV.int k) m) : CallLeaf Try.prog w0 13 [.sl i [] 1 0 0 c, AV.int k] m K := by
  refine fn_go hmix h13 ?_
  conv => whnf
  repeat (first | (refine br.yes ?_; conv => whnf) | (refine br.no ?_; conv => whnf))
  refine loop_inv 0 (fun j ts m' => m' = m ∧ ts = [.sl i [] 1 0 0 c, AV.int k, .junk, .junk, AV.int 0, AV.int 0, .junk, .junk, .junk, .junk, .junk, .junk, .junk, .junk, .junk, .junk, .junk, .junk, .junk, .junk]) _ _ ?hw trim_no ⟨rfl, rfl⟩ ?_
  case hw =>
    repeat (first | exact weak_nil | refine weak_same ?_ | refine weak_junk ?_)
  rintro j hj ts m' ⟨rfl, rfl⟩ R hR
  conv => whnf
  repeat (first | (refine br.yes ?_; conv => whnf) | (refine br.no ?_; conv => whnf))
  refine br_false (by rw [cmI_lss]; rfl) ?_
  conv => whnf
  repeat (first | (refine br.yes ?_; conv => whnf) | (refine br.no ?_; conv => whnf))
  exact hK
theorem c_heldF0 {i c k : Nat} (hK : K (AV.int k) m) : CallLeaf Try.prog w0 14 [.sl i [] 1 0 0 c, AV.int k] m K := by
  refine fn_go hmix h14 ?_
  conv => whnf
  repeat (first | (refine br.yes ?_; conv => whnf) | (refine br.no ?_; conv => whnf))
  refine loop_inv 0 (fun j ts m' => m' = m ∧ ts = [.sl i [] 1 0 0 c, AV.int k, .junk, .junk, AV.int 0, AV.int 0, .junk, .junk, .junk, .junk, .junk, .junk, .junk, .junk, .junk, .junk, .junk, .junk, .junk, .junk, .junk, .junk]) _ _ ?hw trim_no ⟨rfl, rfl⟩ ?_
  case hw =>
    repeat (first | exact weak_nil | refine weak_same ?_ | refine weak_junk ?_)
  rintro j hj ts m' ⟨rfl, rfl⟩ R hR
  conv => whnf
  repeat (first | (refine br.yes ?_; conv => whnf) | (refine br.no ?_; conv => whnf))
  refine br_false (by rw [cmI_lss]; rfl) ?_
  conv => whnf
  repeat (first | (refine br.yes ?_; conv => whnf) | (refine br.no ?_; conv => whnf))
  exact hK
theorem mark_fine {k : Nat} (h : k < 200) : cmF .neq .f32 (iToF .f32 (k : Int)) (iToF .f32 (k : Int)) = false := by
  have h2 : ∀ k : Fin 200, cmF .neq .f32 (iToF .f32 ((k : Nat) : Int)) (iToF .f32 ((k : Nat) : Int)) = false := by decide +kernel
  exact h2 ⟨k, h⟩
theorem c_heldF {i n c r k : Nat} {o : Bool} {xs : List Nat} (hi : getE m i = some ⟨o, .af n xs, r⟩) (hx : xs.length = n) (hn : n ≤ 100) (hk0 : k ≤ 100) (hm : FMarks k xs)
    (hK : K (AV.int (k + n : Nat)) m) : CallLeaf Try.prog w0 14 [.sl i [] 1 0 n c, AV.int k] m K := by
  refine fn_go hmix h14 ?_
  conv => whnf
  repeat (first | (refine br.yes ?_; conv => whnf) | (refine br.no ?_; conv => whnf))
  refine loop_inv n (fun j ts m' => m' = m ∧ ts = [.sl i [] 1 0 n c, AV.int (k + j : Nat), .junk, .junk, AV.int 0, AV.int j, .junk, .junk, .junk, .junk, .junk, .junk, .junk, .junk, .junk, .junk, .junk, .junk, .junk, .junk, .junk, .junk]) [.sl i [] 1 0 n c, AV.int k, .junk, .junk, AV.int 0, AV.int 0, .junk, .junk, .junk, .junk, .junk, .junk, .junk, .junk, .junk, .junk, .junk, .junk, .junk, .junk, .junk, .junk] _ ?hw trim_no ⟨rfl, rfl⟩ ?_
  case hw =>
    repeat (first | exact weak_nil | refine weak_same ?_ | refine weak_junk ?_)
  rintro j hj ts m' ⟨rfl, rfl⟩ R hR
  conv => whnf
  repeat (first | (refine br.yes ?_; conv => whnf) | (refine br.no ?_; conv => whnf))
  refine br_intro (fun h1 => ?_) (fun h1 => ?_)
  · have hj1 := lt_of_lss h1
    have hmj := hm j (by omega)
    conv => whnf
    repeat (first | (refine br.yes ?_; conv => whnf) | (refine br.no ?_; conv => whnf))
    refine ⟨side_in ⟨by omega, by omega⟩, ?_⟩
    conv => whnf
    repeat (first | (refine br.yes ?_; conv => whnf) | (refine br.no ?_; conv => whnf))
    rw [hi]
    conv => whnf
    repeat (first | (refine br.yes ?_; conv => whnf) | (refine br.no ?_; conv => whnf))
    refine ⟨side_in (at_lt hj1), ?_⟩
    rw [nth_at, hmj]
    conv => whnf
    repeat (first | (refine br.yes ?_; conv => whnf) | (refine br.no ?_; conv => whnf))
    refine br_false (mark_fine (by omega)) ?_
    conv => whnf
    repeat (first | (refine br.yes ?_; conv => whnf) | (refine br.no ?_; conv => whnf))
    have e2 : arI .add .i64 ((k + j : Nat) : Int) 1 = ((k + (j + 1) : Nat) : Int) := add_one (by omega)
    rw [e2, add_one (by omega)]
    refine hR hj1 _ _ _ _ ?hw2 trim_no ⟨rfl, rfl⟩
    case hw2 =>
      repeat (first | exact weak_nil | refine weak_same ?_ | refine weak_junk ?_)
  · have hj2 : j = n := by have := ge_of_lss h1; omega
    subst hj2
    conv => whnf
    repeat (first | (refine br.yes ?_; conv => whnf) | (refine br.no ?_; conv => whnf))
    exact hK
/-! zeros of a list made positive -/
theorem c_plainF32 {x : Nat} (hK : K (.flt .f32 (plusN x)) m) : CallLeaf Try.prog w0 64 [.flt .f32 x] m K := call_nil rfl fun w0 => by
  refine fn_go hmix h64 ?_
  conv => whnf
  repeat (first | (refine br.yes ?_; conv => whnf) | (refine br.no ?_; conv => whnf))
  refine c_plainNumber ?_
  conv => whnf
  repeat (first | (refine br.yes ?_; conv => whnf) | (refine br.no ?_; conv => whnf))
  exact ⟨rfl, hK⟩
theorem c_plainList {i n c r : Nat} {xs : List Nat} (hi : getE m i = some ⟨true, .af n xs, r⟩) (hx : xs.length = n) (hn : n ≤ 1048576)
    (hK : K (.sl i [] 1 0 n c) (setM m i ⟨true, .af n (xs.map plusN), r⟩)) : CallLeaf Try.prog w0 50 [.sl i [] 1 0 n c] m K := by
  refine fn_go hmix h50 ?_
  conv => whnf
  repeat (first | (refine br.yes ?_; conv => whnf) | (refine br.no ?_; conv => whnf))
  refine loop_inv n (fun k ts m' => m' = setM m i ⟨true, .af n (mapTo plusN xs k), r⟩ ∧ ts = [.sl i [] 1 0 n c, .junk, nilS 1, .junk, .junk, .sl i [] 1 0 n c, AV.int n, AV.int k, .junk, .junk, .junk, .junk, .junk, .junk, .junk, .junk, .junk, .junk, .junk]) _ _ ?hw trim_no ⟨by rw [mapTo_zero, setM_self hi], rfl⟩ ?_
  case hw =>
    repeat (first | exact weak_nil | refine weak_same ?_ | refine weak_junk ?_)
  rintro k hk ts M ⟨hM, rfl⟩ R hR
  have hi1 : getE M i = some ⟨true, .af n (mapTo plusN xs k), r⟩ := by rw [hM]; exact getE_set hi
  conv => whnf
  repeat (first | (refine br.yes ?_; conv => whnf) | (refine br.no ?_; conv => whnf))
  refine br_intro (fun h1 => ?_) (fun h1 => ?_)
  · have hk1 := lt_of_lss h1
    conv => whnf
    repeat (first | (refine br.yes ?_; conv => whnf) | (refine br.no ?_; conv => whnf))
    refine ⟨side_in ⟨by omega, by omega⟩, ?_⟩
    conv => whnf
    repeat (first | (refine br.yes ?_; conv => whnf) | (refine br.no ?_; conv => whnf))
    rw [hi1]
    conv => whnf
    repeat (first | (refine br.yes ?_; conv => whnf) | (refine br.no ?_; conv => whnf))
    refine ⟨side_in (at_lt hk1), ?_⟩
    rw [nth_at, mapTo_get]
    conv => whnf
    repeat (first | (refine br.yes ?_; conv => whnf) | (refine br.no ?_; conv => whnf))
    refine c_plainF32 ?_
    conv => whnf
    repeat (first | (refine br.yes ?_; conv => whnf) | (refine br.no ?_; conv => whnf))
    refine ⟨side_in ⟨by omega, by omega⟩, ?_⟩
    conv => whnf
    repeat (first | (refine br.yes ?_; conv => whnf) | (refine br.no ?_; conv => whnf))
    rw [hi1]
    conv => whnf
    repeat (first | (refine br.yes ?_; conv => whnf) | (refine br.no ?_; conv => whnf))
    refine ⟨side_in (at_lt hk1), ?_⟩
    conv => whnf
    repeat (first | (refine br.yes ?_; conv => whnf) | (refine br.no ?_; conv => whnf))
    rw [setEK_M]
    conv => whnf
    repeat (first | (refine br.yes ?_; conv => whnf) | (refine br.no ?_; conv => whnf))
    rw [add_one (by omega), upd_at, hM, set_set_ms]
    refine hR hk1 _ _ _ _ ?hw2 trim_no ⟨by rw [mapTo_set plusN 0 (by omega)], rfl⟩
    case hw2 =>
      repeat (first | exact weak_nil | refine weak_same ?_ | refine weak_junk ?_)
  · have hk2 : k = n := by have := ge_of_lss h1; omega
    subst hk2
    conv => whnf
    repeat (first | (refine br.yes ?_; conv => whnf) | (refine br.no ?_; conv => whnf))
    rw [hM, mapTo_all _ hx]
    exact hK
theorem c_plainList0 {i c : Nat} (hK : K (.sl i [] 1 0 0 c) m) : CallLeaf Try.prog w0 50 [.sl i [] 1 0 0 c] m K := by
  refine fn_go hmix h50 ?_
  conv => whnf
  repeat (first | (refine br.yes ?_; conv => whnf) | (refine br.no ?_; conv => whnf))
  refine loop_inv 0 (fun k ts m' => m' = m ∧ ts = [.sl i [] 1 0 0 c, .junk, nilS 1, .junk, .junk, .sl i [] 1 0 0 c, AV.int 0, AV.int 0, .junk, .junk, .junk, .junk, .junk, .junk, .junk, .junk, .junk, .junk, .junk]) _ _ ?hw trim_no ⟨rfl, rfl⟩ ?_
  case hw =>
    repeat (first | exact weak_nil | refine weak_same ?_ | refine weak_junk ?_)
  rintro k hk ts m' ⟨rfl, rfl⟩ R hR
  conv => whnf
  repeat (first | (refine br.yes ?_; conv => whnf) | (refine br.no ?_; conv => whnf))
  refine br_false (by rw [cmI_lss]; rfl) ?_
  conv => whnf
  repeat (first | (refine br.yes ?_; conv => whnf) | (refine br.no ?_; conv => whnf))
  exact hK
set_option maxRecDepth 20000 in
theorem c_plainFs {n c r : Nat} {xs : List Nat} (hx : xs.length = n) (hn : n ≤ 1048576)
    (hK : K (.sl 0 [] 1 0 n c) [⟨true, .af n (xs.map plusN), r⟩]) : CallLeaf Try.prog w0 32 [.sl 0 [] 1 0 n c] [⟨true, .af n xs, r⟩] K := call_drop (by
  refine fn_go hmix h32 ?_
  conv => whnf
  repeat (first | (refine br.yes ?_; conv => whnf) | (refine br.no ?_; conv => whnf))
  refine c_plainList (i := 0) rfl hx hn ?_
  unfold setM
  conv => whnf
  repeat (first | (refine br.yes ?_; conv => whnf) | (refine br.no ?_; conv => whnf))
  exact ⟨rfl, rfl, rfl, hK⟩)
set_option maxRecDepth 20000 in
theorem c_plainFs0 (hK : K (nilS 1) m) : CallLeaf Try.prog w0 32 [nilS 1] m K := call_nil rfl fun w0 => by
  refine fn_go hmix h32 ?_
  conv => whnf
  repeat (first | (refine br.yes ?_; conv => whnf) | (refine br.no ?_; conv => whnf))
  refine c_plainList0 ?_
  conv => whnf
  repeat (first | (refine br.yes ?_; conv => whnf) | (refine br.no ?_; conv => whnf))
  exact ⟨rfl, hK⟩
set_option maxRecDepth 20000 in
theorem c_l01PlusNumbers {n c r : Nat} {o : Bool} {xs : List Nat} (hx : xs.length = n) (hn : n ≤ 1048576)
    (hK : ∀ cap : Nat, K (.sl 1 [] 1 0 n cap) [⟨o, .af n xs, r⟩, ⟨true, .af n (xs.map plusN), cap * 1⟩]) : CallLeaf Try.prog w0 30 [.sl 0 [] 1 0 n c] [⟨o, .af n xs, r⟩] K := by
  refine fn_go hmix h30 ?_
  conv => whnf
  repeat (first | (refine br.yes ?_; conv => whnf) | (refine br.no ?_; conv => whnf))
  refine loop_inv n (fun k ts m => ∃ cap, m = [⟨o, .af n xs, r⟩, ⟨true, .af k ((xs.take k).map plusN), cap * 1⟩] ∧ ts = [.sl 0 [] 1 0 n c, .junk, nilS 1, .sl 1 [] 1 0 k cap, AV.int k, .junk, .junk, .junk, .junk, .junk, .junk, .junk, .junk, .junk, .junk, .junk, .junk, .junk, .junk, .junk, .junk]) _ _ ?hw (.inl rfl) ⟨0, rfl, rfl⟩ ?_
  case hw =>
    repeat (first | exact weak_nil | refine weak_same ?_ | refine weak_junk ?_)
  rintro k hk ts m' ⟨cap, rfl, rfl⟩ R hR
  conv => whnf
  repeat (first | (refine br.yes ?_; conv => whnf) | (refine br.no ?_; conv => whnf))
  refine br_intro (fun h1 => ?_) (fun h1 => ?_)
  · have hk1 := lt_of_lss h1
    conv => whnf
    repeat (first | (refine br.yes ?_; conv => whnf) | (refine br.no ?_; conv => whnf))
    refine ⟨side_in ⟨by omega, by omega⟩, ?_⟩
    conv => whnf
    repeat (first | (refine br.yes ?_; conv => whnf) | (refine br.no ?_; conv => whnf))
    refine ⟨side_in (at_lt hk1), ?_⟩
    rw [nth_at]
    conv => whnf
    repeat (first | (refine br.yes ?_; conv => whnf) | (refine br.no ?_; conv => whnf))
    refine c_l01PlusNumber ?_
    conv => whnf
    repeat (first | (refine br.yes ?_; conv => whnf) | (refine br.no ?_; conv => whnf))
    refine ⟨side_in ⟨by decide, rfl, rfl, by omega, rfl⟩, fun cap' => ?_⟩
    conv => whnf
    repeat (first | (refine br.yes ?_; conv => whnf) | (refine br.no ?_; conv => whnf))
    have e1 : addN k 1 = k + 1 := by rw [addN_eq]
    rw [add_one (by omega), e1]
    refine hR hk1 _ _ _ [⟨o, .af n xs, r⟩, ⟨true, .af (k + 1) ((xs.take k).map plusN ++ [plusN (xs.getD k 0)]), cap' * 1⟩] ?hw2 ?tr ⟨cap', ?_, rfl⟩
    case hw2 =>
      repeat (first | exact weak_nil | refine weak_same ?_ | refine weak_junk ?_)
    case tr =>
      exact .inr ⟨2, by simp, rfl, rfl, rfl⟩
    have hkl : k < xs.length := by omega
    have e2 : (xs.take (k + 1)).map plusN = (xs.take k).map plusN ++ [plusN (xs.getD k 0)] := by
      rw [List.take_add_one, List.map_append]
      simp [hkl]
    rw [e2]
  · have hk2 : k = n := by have := ge_of_lss h1; omega
    subst hk2
    conv => whnf
    repeat (first | (refine br.yes ?_; conv => whnf) | (refine br.no ?_; conv => whnf))
    have e3 : xs.take k = xs := List.take_of_length_le (by omega)
    rw [e3]
    exact hK cap
theorem c_l01PlusNumbers0 (hK : ∀ cap : Nat, K (.sl m.length [] 1 0 0 cap) (m ++ [⟨true, .af 0 [], cap * 1⟩])) : CallLeaf Try.prog w0 30 [nilS 1] m K := call_fresh rfl fun w0 => by
  refine fn_go hmix h30 ?_
  conv => whnf
  repeat (first | (refine br.yes ?_; conv => whnf) | (refine br.no ?_; conv => whnf))
  refine loop_inv 0 (fun k ts m => m = [⟨true, .af 0 [], 0 * 1⟩] ∧ ts = [nilS 1, .junk, nilS 1, .sl 0 [] 1 0 0 0, AV.int 0, .junk, .junk, .junk, .junk, .junk, .junk, .junk, .junk, .junk, .junk, .junk, .junk, .junk, .junk, .junk, .junk]) _ _ ?hw (.inl rfl) ⟨rfl, rfl⟩ ?_
  case hw =>
    repeat (first | exact weak_nil | refine weak_same ?_ | refine weak_junk ?_)
  rintro k hk ts m' ⟨rfl, rfl⟩ R hR
  conv => whnf
  repeat (first | (refine br.yes ?_; conv => whnf) | (refine br.no ?_; conv => whnf))
  refine br_false (by rw [cmI_lss]; rfl) ?_
  conv => whnf
  repeat (first | (refine br.yes ?_; conv => whnf) | (refine br.no ?_; conv => whnf))
  exact ⟨rfl, fun e he => by simp at he; subst he; exact .inl rfl, rfl, hK 0⟩
end
end Go.Proofs.Ytpcakgdagmcopaa
