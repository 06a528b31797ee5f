/- Contracts of functions, by a walk each. -/
import Derived.Test.YtfoflddjcijaeaaCom4
namespace Go.Proofs.Ytfoflddjcijaeaa
open Go Go.Fw
section
variable {w0 : World} {m : MS} {K : AV → MS → Prop}
/-! pictures -/
def fine (x : Nat) : Bool := cmF .eql .f32 (arF .sub .f32 x x) 0
def cellOk (s : Int) (k : Nat) (x : Nat) : Bool := fine x && !cmF .lss .f32 x 0 && !(cmI .geq (k : Int) (arI .mul .i64 s s) && cmF .neq .f32 x 0)
def picOk (s : Int) (xs : List Nat) : Bool := isSide s && (List.range 64).all fun k => cellOk s k (xs.getD k 0)
theorem picOk_side {s : Int} {xs : List Nat} (h : isSide s = false) : picOk s xs = false := by simp [picOk, h]
theorem picOk_cell {s : Int} {xs : List Nat} {k : Nat} (hk : k < 64) (h : cellOk s k (xs.getD k 0) = false) : picOk s xs = false := by
  unfold picOk
  rw [Bool.and_eq_false_iff]
  right
  rw [List.all_eq_false]
  exact ⟨k, List.mem_range.2 hk, by rw [h]; simp⟩
theorem picOk_all {s : Int} {xs : List Nat} (h : isSide s = true) (hc : ∀ k, k < 64 → cellOk s k (xs.getD k 0) = true) : picOk s xs = true := by
  unfold picOk
  rw [h, Bool.true_and, List.all_eq_true]
  exact fun k hk => hc k (List.mem_range.1 hk)
theorem cell_1 {s : Int} {k x : Nat} (h : notB (fine x) = true) : cellOk s k x = false := by rw [notB_eq] at h; simp at h; simp [cellOk, h]
theorem cell_2 {s : Int} {k x : Nat} (h : cmF .lss .f32 x 0 = true) : cellOk s k x = false := by simp [cellOk, h]
theorem cell_3 {s : Int} {k x : Nat} (h : cmI .geq (k : Int) (arI .mul .i64 s s) = true) (h2 : cmF .neq .f32 x 0 = true) : cellOk s k x = false := by simp [cellOk, h, h2]
theorem cell_4 {s : Int} {k x : Nat} (h : notB (fine x) = false) (h2 : cmF .lss .f32 x 0 = false) (h3 : cmF .neq .f32 x 0 = false) : cellOk s k x = true := by rw [notB_eq] at h; simp at h; simp [cellOk, h, h2, h3]
theorem cell_5 {s : Int} {k x : Nat} (h : notB (fine x) = false) (h2 : cmF .lss .f32 x 0 = false) (h3 : cmI .geq (k : Int) (arI .mul .i64 s s) = false) : cellOk s k x = true := by rw [notB_eq] at h; simp at h; simp [cellOk, h, h2, h3]
theorem c_l01Fine {x : Nat} (hK : K (AV.bool (fine x)) m) : CallLeaf Try.prog w0 69 [.flt .f32 x] m K := by
  refine fn_go hmix h69 ?_
  conv => whnf
  repeat (first | (refine br.yes ?_; conv => whnf) | (refine br.no ?_; conv => whnf))
  exact hK
theorem c_isNumber {x : Nat} (hK : K (AV.bool (fine x)) m) : CallLeaf Try.prog w0 40 [.flt .f32 x] m K := by
  refine fn_go hmix h40 ?_
  conv => whnf
  repeat (first | (refine br.yes ?_; conv => whnf) | (refine br.no ?_; conv => whnf))
  exact hK
set_option maxRecDepth 20000 in
theorem c_l01Shown {s : Int} {xs : List Nat} (hK : K (AV.bool (picOk s xs)) m) : CallLeaf Try.prog w0 37 [.st [AV.int s, .af 64 xs]] m K := call_nil rfl fun w0 => by
  refine fn_go hmix h37 ?_
  conv => whnf
  repeat (first | (refine br.yes ?_; conv => whnf) | (refine br.no ?_; conv => whnf))
  refine c_l01Side ?_
  conv => whnf
  repeat (first | (refine br.yes ?_; conv => whnf) | (refine br.no ?_; conv => whnf))
  refine br_intro (fun h => ?_) (fun h => ?_)
  · conv => whnf
    repeat (first | (refine br.yes ?_; conv => whnf) | (refine br.no ?_; conv => whnf))
    exact ⟨rfl, K_bool hK (picOk_side (by rw [notB_eq] at h; simpa using h))⟩
  conv => whnf
  repeat (first | (refine br.yes ?_; conv => whnf) | (refine br.no ?_; conv => whnf))
  refine loop_inv 64 (fun k ts m => m = [⟨true, .st [AV.int s, .af 64 xs], 0⟩] ∧ ts = [.junk, .ptr 0 [], AV.bool false, AV.int k, .junk, .junk, .junk, .junk, .junk, .junk, .junk, .junk, .junk, .junk, .junk, .junk, .junk, .junk, .junk, .junk, .junk, .junk, .junk, .junk, .junk, .junk, .junk, .junk, .junk, .junk, .junk, .junk, .junk, .junk, .junk, .junk, .junk, .junk, .junk, .junk, .junk] ∧ ∀ p, p < k → cellOk s p (xs.getD p 0) = true) _ _ ?hw trim_no ⟨rfl, rfl, fun p hp => by omega⟩ ?_
  case hw =>
    repeat (first | exact weak_nil | refine weak_same ?_ | refine weak_junk ?_)
  rintro k hk ts m' ⟨rfl, rfl, hpre⟩ R hR
  conv => whnf
  repeat (first | (refine br.yes ?_; conv => whnf) | (refine br.no ?_; conv => whnf))
  refine br_intro (fun h1 => ?_) (fun h1 => ?_)
  · have hk1 : k < 64 := lt_of_lss (n := 64) h1
    conv => whnf
    repeat (first | (refine br.yes ?_; conv => whnf) | (refine br.no ?_; conv => whnf))
    refine ⟨side_in ⟨by omega, by omega⟩, ?_⟩
    conv => whnf
    repeat (first | (refine br.yes ?_; conv => whnf) | (refine br.no ?_; conv => whnf))
    refine ⟨side_in (by rw [toN_nat]; exact hk1), ?_⟩
    conv => whnf
    repeat (first | (refine br.yes ?_; conv => whnf) | (refine br.no ?_; conv => whnf))
    rw [toN_nat, nth_eq]
    refine c_l01Fine ?_
    conv => whnf
    repeat (first | (refine br.yes ?_; conv => whnf) | (refine br.no ?_; conv => whnf))
    refine br_intro (fun g1 => ?_) (fun g1 => ?_)
    · conv => whnf
      repeat (first | (refine br.yes ?_; conv => whnf) | (refine br.no ?_; conv => whnf))
      exact ⟨rfl, K_bool hK (picOk_cell hk1 (cell_1 g1))⟩
    conv => whnf
    repeat (first | (refine br.yes ?_; conv => whnf) | (refine br.no ?_; conv => whnf))
    refine ⟨side_in ⟨by omega, by omega⟩, ?_⟩
    conv => whnf
    repeat (first | (refine br.yes ?_; conv => whnf) | (refine br.no ?_; conv => whnf))
    refine ⟨side_in (by rw [toN_nat]; exact hk1), ?_⟩
    rw [toN_nat, nth_eq]
    conv => whnf
    repeat (first | (refine br.yes ?_; conv => whnf) | (refine br.no ?_; conv => whnf))
    refine br_intro (fun g2 => ?_) (fun g2 => ?_)
    · conv => whnf
      repeat (first | (refine br.yes ?_; conv => whnf) | (refine br.no ?_; conv => whnf))
      exact ⟨rfl, K_bool hK (picOk_cell hk1 (cell_2 g2))⟩
    conv => whnf
    repeat (first | (refine br.yes ?_; conv => whnf) | (refine br.no ?_; conv => whnf))
    refine br_intro (fun g3 => ?_) (fun g3 => ?_)
    · conv => whnf
      repeat (first | (refine br.yes ?_; conv => whnf) | (refine br.no ?_; conv => whnf))
      refine ⟨side_in ⟨by omega, by omega⟩, ?_⟩
      conv => whnf
      repeat (first | (refine br.yes ?_; conv => whnf) | (refine br.no ?_; conv => whnf))
      refine ⟨side_in (by rw [toN_nat]; exact hk1), ?_⟩
      rw [toN_nat, nth_eq]
      conv => whnf
      repeat (first | (refine br.yes ?_; conv => whnf) | (refine br.no ?_; conv => whnf))
      refine br_intro (fun g4 => ?_) (fun g4 => ?_)
      · conv => whnf
        repeat (first | (refine br.yes ?_; conv => whnf) | (refine br.no ?_; conv => whnf))
        exact ⟨rfl, K_bool hK (picOk_cell hk1 (cell_3 g3 g4))⟩
      · conv => whnf
        repeat (first | (refine br.yes ?_; conv => whnf) | (refine br.no ?_; conv => whnf))
        rw [add_one (by omega)]
        refine hR hk1 _ _ _ _ ?hw2 trim_no ⟨rfl, rfl, fun p hp => ?_⟩
        case hw2 =>
          repeat (first | exact weak_nil | refine weak_same ?_ | refine weak_junk ?_)
        rcases Nat.lt_or_ge p k with hlt | hge
        · exact hpre p hlt
        · have : p = k := by omega
          subst this
          exact cell_4 g1 g2 g4
    · conv => whnf
      repeat (first | (refine br.yes ?_; conv => whnf) | (refine br.no ?_; conv => whnf))
      rw [add_one (by omega)]
      refine hR hk1 _ _ _ _ ?hw3 trim_no ⟨rfl, rfl, fun p hp => ?_⟩
      case hw3 =>
        repeat (first | exact weak_nil | refine weak_same ?_ | refine weak_junk ?_)
      rcases Nat.lt_or_ge p k with hlt | hge
      · exact hpre p hlt
      · have : p = k := by omega
        subst this
        exact cell_5 g1 g2 g3
  · have hk2 : 64 ≤ k := ge_of_lss (n := 64) h1
    conv => whnf
    repeat (first | (refine br.yes ?_; conv => whnf) | (refine br.no ?_; conv => whnf))
    exact ⟨rfl, K_bool hK (picOk_all (by rw [notB_eq] at h; simpa using h) (fun p hp => hpre p (by omega)))⟩
set_option maxRecDepth 20000 in
theorem c_IsPicture {s : Int} {xs : List Nat} (hK : K (AV.bool (picOk s xs)) m) : CallLeaf Try.prog w0 14 [.st [AV.int s, .af 64 xs]] m K := call_nil rfl fun w0 => by
  refine fn_go hmix h14 ?_
  conv => whnf
  repeat (first | (refine br.yes ?_; conv => whnf) | (refine br.no ?_; conv => whnf))
  refine c_isSide ?_
  conv => whnf
  repeat (first | (refine br.yes ?_; conv => whnf) | (refine br.no ?_; conv => whnf))
  refine br_intro (fun h => ?_) (fun h => ?_)
  · conv => whnf
    repeat (first | (refine br.yes ?_; conv => whnf) | (refine br.no ?_; conv => whnf))
    exact ⟨rfl, K_bool hK (picOk_side (by rw [notB_eq] at h; simpa using h))⟩
  conv => whnf
  repeat (first | (refine br.yes ?_; conv => whnf) | (refine br.no ?_; conv => whnf))
  refine loop_inv 64 (fun k ts m => m = [⟨true, .st [AV.int s, .af 64 xs], 0⟩] ∧ ts = [.junk, .ptr 0 [], AV.bool false, .junk, .junk, .junk, .junk, .junk, .junk, .junk, .af 64 xs, AV.int k, .junk, .junk, .junk, .junk, .junk, .junk, .junk, .junk, .junk, .junk, .junk, .junk, .junk, .junk, .junk, .junk, .junk, .junk, .junk, .junk, .junk, .junk, .junk, .junk] ∧ ∀ p, p < k → cellOk s p (xs.getD p 0) = true) _ _ ?hw trim_no ⟨rfl, rfl, fun p hp => by omega⟩ ?_
  case hw =>
    repeat (first | exact weak_nil | refine weak_same ?_ | refine weak_junk ?_)
  rintro k hk ts m' ⟨rfl, rfl, hpre⟩ R hR
  conv => whnf
  repeat (first | (refine br.yes ?_; conv => whnf) | (refine br.no ?_; conv => whnf))
  refine br_intro (fun h1 => ?_) (fun h1 => ?_)
  · have hk1 : k < 64 := lt_of_lss (n := 64) h1
    conv => whnf
    repeat (first | (refine br.yes ?_; conv => whnf) | (refine br.no ?_; conv => whnf))
    refine ⟨side_in ⟨by omega, by omega, by rw [toN_nat]; exact hk1⟩, ?_⟩
    rw [toN_nat, nth_eq]
    conv => whnf
    repeat (first | (refine br.yes ?_; conv => whnf) | (refine br.no ?_; conv => whnf))
    refine c_isNumber ?_
    conv => whnf
    repeat (first | (refine br.yes ?_; conv => whnf) | (refine br.no ?_; conv => whnf))
    refine br_intro (fun g1 => ?_) (fun g1 => ?_)
    · conv => whnf
      repeat (first | (refine br.yes ?_; conv => whnf) | (refine br.no ?_; conv => whnf))
      exact ⟨rfl, K_bool hK (picOk_cell hk1 (cell_1 g1))⟩
    conv => whnf
    repeat (first | (refine br.yes ?_; conv => whnf) | (refine br.no ?_; conv => whnf))
    refine br_intro (fun g2 => ?_) (fun g2 => ?_)
    · conv => whnf
      repeat (first | (refine br.yes ?_; conv => whnf) | (refine br.no ?_; conv => whnf))
      exact ⟨rfl, K_bool hK (picOk_cell hk1 (cell_2 g2))⟩
    conv => whnf
    repeat (first | (refine br.yes ?_; conv => whnf) | (refine br.no ?_; conv => whnf))
    refine br_intro (fun g3 => ?_) (fun g3 => ?_)
    · conv => whnf
      repeat (first | (refine br.yes ?_; conv => whnf) | (refine br.no ?_; conv => whnf))
      refine br_intro (fun g4 => ?_) (fun g4 => ?_)
      · conv => whnf
        repeat (first | (refine br.yes ?_; conv => whnf) | (refine br.no ?_; conv => whnf))
        exact ⟨rfl, K_bool hK (picOk_cell hk1 (cell_3 g3 g4))⟩
      · conv => whnf
        repeat (first | (refine br.yes ?_; conv => whnf) | (refine br.no ?_; conv => whnf))
        rw [add_one (by omega)]
        refine hR hk1 _ _ _ _ ?hw2 trim_no ⟨rfl, rfl, fun p hp => ?_⟩
        case hw2 =>
          repeat (first | exact weak_nil | refine weak_same ?_ | refine weak_junk ?_)
        rcases Nat.lt_or_ge p k with hlt | hge
        · exact hpre p hlt
        · have : p = k := by omega
          subst this
          exact cell_4 g1 g2 g4
    · conv => whnf
      repeat (first | (refine br.yes ?_; conv => whnf) | (refine br.no ?_; conv => whnf))
      rw [add_one (by omega)]
      refine hR hk1 _ _ _ _ ?hw3 trim_no ⟨rfl, rfl, fun p hp => ?_⟩
      case hw3 =>
        repeat (first | exact weak_nil | refine weak_same ?_ | refine weak_junk ?_)
      rcases Nat.lt_or_ge p k with hlt | hge
      · exact hpre p hlt
      · have : p = k := by omega
        subst this
        exact cell_5 g1 g2 g3
  · have hk2 : 64 ≤ k := ge_of_lss (n := 64) h1
    conv => whnf
    repeat (first | (refine br.yes ?_; conv => whnf) | (refine br.no ?_; conv => whnf))
    exact ⟨rfl, K_bool hK (picOk_all (by rw [notB_eq] at h; simpa using h) (fun p hp => hpre p (by omega)))⟩
theorem c_specIsPicture {s : Int} {xs : List Nat} (hK : K (AV.bool (picOk s xs)) m) : CallLeaf Try.prog w0 12 [.st [AV.int s, .af 64 xs]] m K := call_nil rfl fun w0 => by
  refine fn_go hmix h12 ?_
  conv => whnf
  repeat (first | (refine br.yes ?_; conv => whnf) | (refine br.no ?_; conv => whnf))
  refine c_l01Shown ?_
  conv => whnf
  repeat (first | (refine br.yes ?_; conv => whnf) | (refine br.no ?_; conv => whnf))
  exact ⟨rfl, hK⟩
theorem copy_set {xs ys : List Nat} {k : Nat} (hx : xs.length = 64) (hk : k < 64) (hy : ys.length = 64) (hpre : ∀ p, p < k → ys.getD p 0 = xs.getD p 0) : (ys.set k (xs.getD k 0)).length = 64 ∧ ∀ p, p < k + 1 → (ys.set k (xs.getD k 0)).getD p 0 = xs.getD p 0 := by
  refine ⟨by simp [hy], fun p hp => ?_⟩
  by_cases hpk : k = p
  · subst hpk; exact getD_set_self (by omega)
  · rw [getD_set_other hpk]; exact hpre p (by omega)
set_option maxRecDepth 20000 in
theorem c_toFloats {xs : List Nat} (hx : xs.length = 64) (hK : K (.af 64 xs) m) : CallLeaf Try.prog w0 38 [.af 64 xs] m K := call_nil rfl fun w0 => by
  refine fn_go hmix h38 ?_
  conv => whnf
  repeat (first | (refine br.yes ?_; conv => whnf) | (refine br.no ?_; conv => whnf))
  refine loop_inv 64 (fun k ts m => ∃ ys : List Nat, (ys.length = 64 ∧ ∀ p, p < k → ys.getD p 0 = xs.getD p 0) ∧ m = [⟨true, .af 64 xs, 0⟩, ⟨true, .af 64 (List.replicate 64 0), 0⟩, ⟨true, .af 64 ys, 0⟩] ∧ ts = [.junk, .ptr 0 [], .ptr 1 [], .ptr 2 [], AV.int k, .junk, .junk, .junk, .junk, .junk, .junk, .junk, .junk, .junk, .junk]) _ _ ?hw trim_no ⟨List.replicate 64 0, ⟨rfl, fun p hp => by omega⟩, rfl, rfl⟩ ?_
  case hw =>
    repeat (first | exact weak_nil | refine weak_same ?_ | refine weak_junk ?_)
  rintro k hk ts m' ⟨ys, ⟨hy, hpre⟩, rfl, rfl⟩ R hR
  conv => whnf
  repeat (first | (refine br.yes ?_; conv => whnf) | (refine br.no ?_; conv => whnf))
  refine br_intro (fun h1 => ?_) (fun h1 => ?_)
  · have hk1 : k < 64 := lt_of_lss (n := 64) h1
    conv => whnf
    repeat (first | (refine br.yes ?_; conv => whnf) | (refine br.no ?_; conv => whnf))
    refine ⟨side_in ⟨by omega, by omega⟩, ?_⟩
    conv => whnf
    repeat (first | (refine br.yes ?_; conv => whnf) | (refine br.no ?_; conv => whnf))
    refine ⟨side_in (by rw [toN_nat]; exact hk1), ?_⟩
    conv => whnf
    repeat (first | (refine br.yes ?_; conv => whnf) | (refine br.no ?_; conv => whnf))
    refine ⟨side_in ⟨by omega, by omega⟩, ?_⟩
    conv => whnf
    repeat (first | (refine br.yes ?_; conv => whnf) | (refine br.no ?_; conv => whnf))
    refine ⟨side_in (by rw [toN_nat]; exact hk1), ?_⟩
    conv => whnf
    repeat (first | (refine br.yes ?_; conv => whnf) | (refine br.no ?_; conv => whnf))
    rw [toN_nat, nth_eq, upd_eq, add_one (by omega)]
    refine hR hk1 _ _ _ _ ?hw2 trim_no ⟨ys.set k (xs.getD k 0), copy_set hx hk1 hy hpre, rfl, rfl⟩
    case hw2 =>
      repeat (first | exact weak_nil | refine weak_same ?_ | refine weak_junk ?_)
  · have hk2 : 64 ≤ k := ge_of_lss (n := 64) h1
    conv => whnf
    repeat (first | (refine br.yes ?_; conv => whnf) | (refine br.no ?_; conv => whnf))
    have e : ys = xs := ext_getD (d := 0) (by omega) (fun p hp => hpre p (by omega))
    rw [e]
    exact ⟨rfl, hK⟩
theorem c_toPicture {s : Int} {xs : List Nat} (hx : xs.length = 64) (hK : K (.st [AV.int s, .af 64 xs]) m) : CallLeaf Try.prog w0 13 [.st [AV.int s, .af 64 xs]] m K := call_nil rfl fun w0 => by
  refine fn_go hmix h13 ?_
  conv => whnf
  repeat (first | (refine br.yes ?_; conv => whnf) | (refine br.no ?_; conv => whnf))
  refine c_toFloats hx ?_
  conv => whnf
  repeat (first | (refine br.yes ?_; conv => whnf) | (refine br.no ?_; conv => whnf))
  exact ⟨rfl, hK⟩
set_option maxRecDepth 20000 in
theorem law_IsPicture {s : Int} {xs : List Nat} (hx : xs.length = 64) (_ : ∀ x ∈ xs, WfF x) (hK : ∀ m, K (AV.bool true) m) : CallLeaf Try.prog w0 3 [.st [AV.int s, .af 64 xs]] [] K := by
  refine fn_go hmix h3 ?_
  conv => whnf
  repeat (first | (refine br.yes ?_; conv => whnf) | (refine br.no ?_; conv => whnf))
  refine c_toPicture hx ?_
  conv => whnf
  repeat (first | (refine br.yes ?_; conv => whnf) | (refine br.no ?_; conv => whnf))
  refine c_specIsPicture ?_
  conv => whnf
  repeat (first | (refine br.yes ?_; conv => whnf) | (refine br.no ?_; conv => whnf))
  refine c_toPicture hx ?_
  conv => whnf
  repeat (first | (refine br.yes ?_; conv => whnf) | (refine br.no ?_; conv => whnf))
  refine c_IsPicture ?_
  conv => whnf
  repeat (first | (refine br.yes ?_; conv => whnf) | (refine br.no ?_; conv => whnf))
  refine br_false (by rw [notB_eq, eqB_eq]; simp) ?_
  conv => whnf
  repeat (first | (refine br.yes ?_; conv => whnf) | (refine br.no ?_; conv => whnf))
  exact hK _
end
end Go.Proofs.Ytfoflddjcijaeaa
