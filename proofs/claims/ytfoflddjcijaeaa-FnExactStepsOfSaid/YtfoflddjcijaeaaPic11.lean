/- Contracts of functions, by a walk each. -/
import Derived.Test.YtfoflddjcijaeaaFwNum5
import Derived.Test.YtfoflddjcijaeaaPic5
namespace Go.Proofs.Ytfoflddjcijaeaa
open Go Go.Fw
section
variable {w0 : World} {m : MS} {K : AV → MS → Prop}
/-! the steps of all levels -/
def stepN (x q b : Nat) : Int := if cmF .geq .f32 (arF .quo .f32 x q) (iToF .f32 ((b - 1 : Nat) : Int)) = true then ((b - 1 : Nat) : Int) else fToI .f32 (arF .add .f32 (arF .quo .f32 x q) 1056964608)
theorem stepN_t {x q b : Nat} (h : cmF .geq .f32 (arF .quo .f32 x q) (iToF .f32 ((b - 1 : Nat) : Int)) = true) : stepN x q b = ((b - 1 : Nat) : Int) := by simp only [stepN, h, if_true]
theorem stepN_f {x q b : Nat} (h : cmF .geq .f32 (arF .quo .f32 x q) (iToF .f32 ((b - 1 : Nat) : Int)) = false) : stepN x q b = fToI .f32 (arF .add .f32 (arF .quo .f32 x q) 1056964608) := by simp only [stepN, h, Bool.false_eq_true, if_false]
theorem i64_fits {F : Nat} (h : F < 16777216) : IntKind.i64.min ≤ (F : Int) ∧ (F : Int) ≤ IntKind.i64.max := by
  have h1 : IntKind.i64.min = -9223372036854775808 := by rfl
  have h2 : IntKind.i64.max = 9223372036854775807 := by rfl
  rw [h1, h2]; omega
set_option maxRecDepth 20000 in
theorem c_l05Step {x q b : Nat} (hx : isNum x) (hx0 : cmF .lss .f32 x 0 = false) (hq : isNum q) (hq0 : cmF .leq .f32 q 0 = false) (hb : 2 ≤ b ∧ b ≤ 256)
    (hK : K (AV.int (stepN x q b)) m) : CallLeaf Try.prog w0 62 [.flt .f32 x, .flt .f32 q, AV.int b] m K := by
  refine fn_go hmix h62 ?_
  conv => whnf
  repeat (first | (refine br.yes ?_; conv => whnf) | (refine br.no ?_; conv => whnf))
  rw [sub_one (by omega) (by omega)]
  refine br_intro (fun h => ?_) (fun h => ?_)
  · conv => whnf
    repeat (first | (refine br.yes ?_; conv => whnf) | (refine br.no ?_; conv => whnf))
    rw [sub_one (by omega) (by omega)]
    rw [stepN_t h] at hK
    exact hK
  · obtain ⟨F, f1, f2, f3, _, _, _⟩ := step_ok hx hx0 hq hq0 (show b - 1 < 256 by omega) h
    have hfit := i64_fits f1
    rw [stepN_f h] at hK
    conv => whnf
    repeat (first | (refine br.yes ?_; conv => whnf) | (refine br.no ?_; conv => whnf))
    refine ⟨side_in ⟨by rw [f2]; exact hfit.1, by rw [f2]; exact hfit.2, f3⟩, ?_⟩
    conv => whnf
    repeat (first | (refine br.yes ?_; conv => whnf) | (refine br.no ?_; conv => whnf))
    exact hK
theorem c_Floor {a : Nat} (h : (FloatKind.f64.decode a).isNaN = false) (hK : K (.flt .f64 (flF a)) m) : CallLeaf Try.prog w0 100 [.flt .f64 a] m K := by
  refine fn_go hmix h100 ?_
  conv => whnf
  repeat (first | (refine br.yes ?_; conv => whnf) | (refine br.no ?_; conv => whnf))
  refine ⟨side_in h, ?_⟩
  conv => whnf
  repeat (first | (refine br.yes ?_; conv => whnf) | (refine br.no ?_; conv => whnf))
  exact hK
set_option maxRecDepth 20000 in
theorem c_stepOf {x q b : Nat} (hx : isNum x) (hx0 : cmF .lss .f32 x 0 = false) (hq : isNum q) (hq0 : cmF .leq .f32 q 0 = false) (hb : 2 ≤ b ∧ b ≤ 256)
    (hK : K (AV.int (stepN x q b)) m) : CallLeaf Try.prog w0 65 [.flt .f32 x, .flt .f32 q, AV.int b] m K := by
  refine fn_go hmix h65 ?_
  conv => whnf
  repeat (first | (refine br.yes ?_; conv => whnf) | (refine br.no ?_; conv => whnf))
  rw [sub_one (by omega) (by omega)]
  refine br_intro (fun h => ?_) (fun h => ?_)
  · conv => whnf
    repeat (first | (refine br.yes ?_; conv => whnf) | (refine br.no ?_; conv => whnf))
    rw [sub_one (by omega) (by omega)]
    rw [stepN_t h] at hK
    exact hK
  · obtain ⟨F, f1, f2, _, f4, f5, f6⟩ := step_ok hx hx0 hq hq0 (show b - 1 < 256 by omega) h
    have hfit := i64_fits f1
    rw [stepN_f h, f2] at hK
    conv => whnf
    repeat (first | (refine br.yes ?_; conv => whnf) | (refine br.no ?_; conv => whnf))
    refine c_Floor f4 ?_
    conv => whnf
    repeat (first | (refine br.yes ?_; conv => whnf) | (refine br.no ?_; conv => whnf))
    refine ⟨side_in ⟨by rw [f5]; exact hfit.1, by rw [f5]; exact hfit.2, f6⟩, ?_⟩
    rw [f5]
    conv => whnf
    repeat (first | (refine br.yes ?_; conv => whnf) | (refine br.no ?_; conv => whnf))
    exact hK
/-- the code of a picture, a number and a number of steps -/
def spCode (s : Int) (xs : List Nat) (q : Nat) (M : Int) : Int := if (picOk s xs && fine q) = true then (if (cmF .leq .f32 q 0 || !inR M 2 256) = true then 2 else 0) else 1
theorem sp_1 {s : Int} {xs : List Nat} {q : Nat} {M : Int} (h : notB (picOk s xs) = true) : spCode s xs q M = 1 := by rw [notB_eq] at h; simp at h; simp [spCode, h]
theorem sp_1' {s : Int} {xs : List Nat} {q : Nat} {M : Int} (h : notB (fine q) = true) : spCode s xs q M = 1 := by rw [notB_eq] at h; simp at h; simp [spCode, h]
theorem sp_2 {s : Int} {xs : List Nat} {q : Nat} {M : Int} (h : notB (picOk s xs) = false) (h2 : notB (fine q) = false) (h3 : cmF .leq .f32 q 0 = true) : spCode s xs q M = 2 := by rw [notB_eq] at h h2; simp at h h2; simp [spCode, h, h2, h3]
theorem sp_2' {s : Int} {xs : List Nat} {q : Nat} {M : Int} (h : notB (picOk s xs) = false) (h2 : notB (fine q) = false) (h3 : notB (inR M 2 256) = true) : spCode s xs q M = 2 := by rw [notB_eq] at h h2 h3; simp at h h2 h3; simp [spCode, h, h2, h3]
theorem sp_0 {s : Int} {xs : List Nat} {q : Nat} {M : Int} (h : notB (picOk s xs) = false) (h2 : notB (fine q) = false) (h3 : cmF .leq .f32 q 0 = false) (h4 : notB (inR M 2 256) = false) : spCode s xs q M = 0 := by rw [notB_eq] at h h2 h4; simp at h h2 h4; simp [spCode, h, h2, h3, h4]
theorem sp_ok {s : Int} {xs : List Nat} {q : Nat} {M : Int} (h : spCode s xs q M = 0) : picOk s xs = true ∧ isNum q ∧ cmF .leq .f32 q 0 = false ∧ ∃ b : Nat, M = b ∧ 2 ≤ b ∧ b ≤ 256 := by
  unfold spCode at h
  split at h
  · rename_i h1
    rw [Bool.and_eq_true] at h1
    split at h
    · omega
    · rename_i h2
      simp only [Bool.or_eq_true, Bool.not_eq_true', not_or, Bool.not_eq_true, Bool.not_eq_false] at h2
      refine ⟨h1.1, fine_iff.1 h1.2, h2.1, M.toNat, ?_⟩
      have := h2.2
      simp only [inR, Bool.and_eq_true, decide_eq_true_eq] at this
      omega
  · omega
theorem c_l05Code {s : Int} {xs : List Nat} {q : Nat} {M : Int} (hK : K (AV.int (spCode s xs q M)) m) : CallLeaf Try.prog w0 61 [.st [AV.int s, .af 64 xs], .flt .f32 q, AV.int M] m K := call_nil rfl fun w0 => by
  refine fn_go hmix h61 ?_
  conv => whnf
  repeat (first | (refine br.yes ?_; conv => whnf) | (refine br.no ?_; conv => whnf))
  refine c_l01Shown ?_
  conv => whnf
  repeat (first | (refine br.yes ?_; conv => whnf) | (refine br.no ?_; conv => whnf))
  refine br_intro (fun h => ?_) (fun h => ?_)
  · conv => whnf
    repeat (first | (refine br.yes ?_; conv => whnf) | (refine br.no ?_; conv => whnf))
    exact ⟨rfl, K_int hK (sp_1 h)⟩
  conv => whnf
  repeat (first | (refine br.yes ?_; conv => whnf) | (refine br.no ?_; conv => whnf))
  refine c_l01Fine ?_
  conv => whnf
  repeat (first | (refine br.yes ?_; conv => whnf) | (refine br.no ?_; conv => whnf))
  refine br_intro (fun h2 => ?_) (fun h2 => ?_)
  · conv => whnf
    repeat (first | (refine br.yes ?_; conv => whnf) | (refine br.no ?_; conv => whnf))
    exact ⟨rfl, K_int hK (sp_1' h2)⟩
  conv => whnf
  repeat (first | (refine br.yes ?_; conv => whnf) | (refine br.no ?_; conv => whnf))
  refine br_intro (fun h3 => ?_) (fun h3 => ?_)
  · conv => whnf
    repeat (first | (refine br.yes ?_; conv => whnf) | (refine br.no ?_; conv => whnf))
    exact ⟨rfl, K_int hK (sp_2 h h2 h3)⟩
  conv => whnf
  repeat (first | (refine br.yes ?_; conv => whnf) | (refine br.no ?_; conv => whnf))
  refine c_l01In ?_
  conv => whnf
  repeat (first | (refine br.yes ?_; conv => whnf) | (refine br.no ?_; conv => whnf))
  refine br_intro (fun h4 => ?_) (fun h4 => ?_)
  · conv => whnf
    repeat (first | (refine br.yes ?_; conv => whnf) | (refine br.no ?_; conv => whnf))
    exact ⟨rfl, K_int hK (sp_2' h h2 h4)⟩
  · conv => whnf
    repeat (first | (refine br.yes ?_; conv => whnf) | (refine br.no ?_; conv => whnf))
    exact ⟨rfl, K_int hK (sp_0 h h2 h3 h4)⟩
theorem c_stepsCode {s : Int} {xs : List Nat} {q : Nat} {M : Int} (hK : K (AV.int (spCode s xs q M)) m) : CallLeaf Try.prog w0 63 [.st [AV.int s, .af 64 xs], .flt .f32 q, AV.int M] m K := call_nil rfl fun w0 => by
  refine fn_go hmix h63 ?_
  conv => whnf
  repeat (first | (refine br.yes ?_; conv => whnf) | (refine br.no ?_; conv => whnf))
  refine c_IsPicture ?_
  conv => whnf
  repeat (first | (refine br.yes ?_; conv => whnf) | (refine br.no ?_; conv => whnf))
  refine br_intro (fun h => ?_) (fun h => ?_)
  · conv => whnf
    repeat (first | (refine br.yes ?_; conv => whnf) | (refine br.no ?_; conv => whnf))
    exact ⟨rfl, K_int hK (sp_1 h)⟩
  conv => whnf
  repeat (first | (refine br.yes ?_; conv => whnf) | (refine br.no ?_; conv => whnf))
  refine c_isNumber ?_
  conv => whnf
  repeat (first | (refine br.yes ?_; conv => whnf) | (refine br.no ?_; conv => whnf))
  refine br_intro (fun h2 => ?_) (fun h2 => ?_)
  · conv => whnf
    repeat (first | (refine br.yes ?_; conv => whnf) | (refine br.no ?_; conv => whnf))
    exact ⟨rfl, K_int hK (sp_1' h2)⟩
  conv => whnf
  repeat (first | (refine br.yes ?_; conv => whnf) | (refine br.no ?_; conv => whnf))
  refine br_intro (fun h3 => ?_) (fun h3 => ?_)
  · conv => whnf
    repeat (first | (refine br.yes ?_; conv => whnf) | (refine br.no ?_; conv => whnf))
    exact ⟨rfl, K_int hK (sp_2 h h2 h3)⟩
  conv => whnf
  repeat (first | (refine br.yes ?_; conv => whnf) | (refine br.no ?_; conv => whnf))
  refine c_within ?_
  conv => whnf
  repeat (first | (refine br.yes ?_; conv => whnf) | (refine br.no ?_; conv => whnf))
  refine br_intro (fun h4 => ?_) (fun h4 => ?_)
  · conv => whnf
    repeat (first | (refine br.yes ?_; conv => whnf) | (refine br.no ?_; conv => whnf))
    exact ⟨rfl, K_int hK (sp_2' h h2 h4)⟩
  · conv => whnf
    repeat (first | (refine br.yes ?_; conv => whnf) | (refine br.no ?_; conv => whnf))
    exact ⟨rfl, K_int hK (sp_0 h h2 h3 h4)⟩
def stepsTo (xs : List Nat) (q b : Nat) (k : Nat) : List Int := (List.range k).map fun i => stepN (xs.getD i 0) q b
theorem stepsTo_length (xs : List Nat) (q b k : Nat) : (stepsTo xs q b k).length = k := by simp [stepsTo]
theorem stepsTo_next (xs : List Nat) (q b k : Nat) : stepsTo xs q b k ++ [stepN (xs.getD k 0) q b] = stepsTo xs q b (k + 1) := by simp [stepsTo, List.range_succ]
theorem pic_pos {N k : Nat} {xs : List Nat} (h : picOk N xs = true) (hk : k < 64) : cmF .lss .f32 (xs.getD k 0) 0 = false := by
  have := pic_cell h hk
  unfold cellOk at this
  rw [Bool.and_eq_true, Bool.and_eq_true] at this
  simpa using this.1.2
set_option maxRecDepth 20000 in
set_option maxHeartbeats 1600000 in
theorem spec_Steps {N q b : Nat} {xs : List Nat} (hc : spCode N xs q b = 0) (hN : 0 < N ∧ N ≤ 8) (hb : 2 ≤ b ∧ b ≤ 256) (hq : isNum q) (hq0 : cmF .leq .f32 q 0 = false) (hp : picOk N xs = true)
    (hK : ∀ cap : Nat, K (.tup [.sl (m.length + 1) [] 1 0 (N * N) cap, AV.int 0]) (m ++ [⟨true, .st [AV.int N, .af 64 xs], 0⟩, ⟨true, .ai (N * N) (stepsTo xs q b (N * N)), cap * 1⟩])) : CallLeaf Try.prog w0 30 [.st [AV.int N, .af 64 xs], .flt .f32 q, AV.int b] m K := call_fresh rfl fun w0 => by
  have hNN := sq_le hN.2
  refine fn_go hmix h30 ?_
  conv => whnf
  repeat (first | (refine br.yes ?_; conv => whnf) | (refine br.no ?_; conv => whnf))
  refine c_l05Code ?_
  rw [hc]
  conv => whnf
  repeat (first | (refine br.yes ?_; conv => whnf) | (refine br.no ?_; conv => whnf))
  refine br_false (neq_self _) ?_
  conv => whnf
  repeat (first | (refine br.yes ?_; conv => whnf) | (refine br.no ?_; conv => whnf))
  refine loop_inv (N * N) (fun k ts m => ∃ cap, m = [⟨true, .st [AV.int N, .af 64 xs], 0⟩, ⟨true, .ai k (stepsTo xs q b k), cap * 1⟩] ∧ ts = [.junk, .flt .f32 q, AV.int b, .ptr 0 [], .junk, .junk, nilS 1, AV.int 0, AV.int 0, .sl 1 [] 1 0 k cap, AV.int k, .junk, .junk, .junk, .junk, .junk, .junk, .junk, .junk, .junk, .junk, .junk, .junk, .junk, .junk, .junk, .junk, .junk, .junk, .junk, .junk, .junk, .junk, .junk, .junk, .junk, .junk, .junk, .junk]) _ _ ?hw trim_no ⟨0, rfl, rfl⟩ ?_
  case hw =>
    repeat (first | exact weak_nil | refine weak_same ?_ | refine weak_junk ?_)
  rintro k hk ts m' ⟨cap, rfl, rfl⟩ R hR
  conv => whnf
  repeat (first | (refine br.yes ?_; conv => whnf) | (refine br.no ?_; conv => whnf))
  rw [mul_nat (by omega) (by omega)]
  refine br_intro (fun h1 => ?_) (fun h1 => ?_)
  · have hk1 : k < N * N := lt_of_lss h1
    have hk64 : k < 64 := by omega
    have hlen := stepsTo_length xs q b k
    conv => whnf
    repeat (first | (refine br.yes ?_; conv => whnf) | (refine br.no ?_; conv => whnf))
    refine ⟨side_in ⟨by omega, by omega⟩, ?_⟩
    conv => whnf
    repeat (first | (refine br.yes ?_; conv => whnf) | (refine br.no ?_; conv => whnf))
    refine ⟨side_in (by rw [toN_nat]; exact hk64), ?_⟩
    rw [toN_nat, nth_eq]
    conv => whnf
    repeat (first | (refine br.yes ?_; conv => whnf) | (refine br.no ?_; conv => whnf))
    refine c_l05Step (pic_fine hp hk64) (pic_pos hp hk64) hq hq0 hb ?_
    conv => whnf
    repeat (first | (refine br.yes ?_; conv => whnf) | (refine br.no ?_; conv => whnf))
    refine ⟨side_in ⟨by decide, rfl, rfl, by omega, rfl⟩, fun cap' => ?_⟩
    conv => whnf
    repeat (first | (refine br.yes ?_; conv => whnf) | (refine br.no ?_; conv => whnf))
    rw [add_one (by omega), addN_eq]
    refine hR hk1 _ _ _ [⟨true, .st [AV.int N, .af 64 xs], 0⟩, ⟨true, .ai (k + 1) (stepsTo xs q b k ++ [stepN (xs.getD k 0) q b]), cap' * 1⟩] ?hw2 ?tr ⟨cap', by rw [stepsTo_next], rfl⟩
    case hw2 =>
      repeat (first | exact weak_nil | refine weak_same ?_ | refine weak_junk ?_)
    case tr =>
      exact .inr ⟨2, by simp, rfl, rfl, rfl⟩
  · have hk2 : k = N * N := Nat.le_antisymm hk (ge_of_lss h1)
    subst hk2
    conv => whnf
    repeat (first | (refine br.yes ?_; conv => whnf) | (refine br.no ?_; conv => whnf))
    exact ⟨rfl, fun e he => by simp at he; rcases he with rfl | rfl <;> exact .inl rfl, rfl, hK cap⟩
set_option maxRecDepth 20000 in
set_option maxHeartbeats 1600000 in
theorem impl_Steps {N q b : Nat} {xs : List Nat} (hc : spCode N xs q b = 0) (hN : 0 < N ∧ N ≤ 8) (hb : 2 ≤ b ∧ b ≤ 256) (hq : isNum q) (hq0 : cmF .leq .f32 q 0 = false) (hp : picOk N xs = true)
    (hK : ∀ cap : Nat, K (.tup [.sl (m.length + 1) [] 1 0 (N * N) cap, AV.int 0]) (m ++ [⟨true, .st [AV.int N, .af 64 xs], 0⟩, ⟨true, .ai (N * N) (stepsTo xs q b (N * N)), cap * 1⟩, ⟨true, .st [AV.int N, .af 64 xs], 0⟩])) : CallLeaf Try.prog w0 31 [.st [AV.int N, .af 64 xs], .flt .f32 q, AV.int b] m K := call_fresh rfl fun w0 => by
  have hNN := sq_le hN.2
  refine fn_go hmix h31 ?_
  conv => whnf
  repeat (first | (refine br.yes ?_; conv => whnf) | (refine br.no ?_; conv => whnf))
  refine c_stepsCode ?_
  rw [hc]
  conv => whnf
  repeat (first | (refine br.yes ?_; conv => whnf) | (refine br.no ?_; conv => whnf))
  refine br_false (neq_self _) ?_
  conv => whnf
  repeat (first | (refine br.yes ?_; conv => whnf) | (refine br.no ?_; conv => whnf))
  refine c_levels hN.2 ?_
  conv => whnf
  repeat (first | (refine br.yes ?_; conv => whnf) | (refine br.no ?_; conv => whnf))
  refine loop_inv (N * N) (fun k ts m => ∃ cap, m = [⟨true, .st [AV.int N, .af 64 xs], 0⟩, ⟨true, .ai k (stepsTo xs q b k), cap * 1⟩, ⟨true, .st [AV.int N, .af 64 xs], 0⟩] ∧ ts = [.junk, .flt .f32 q, AV.int b, .ptr 0 [], .junk, .junk, nilS 1, AV.int 0, AV.int 0, .sl 1 [] 1 0 k cap, .junk, .junk, .junk, .junk, .junk, .junk, .junk, .junk, .junk, .junk, .junk, .sl 2 [.fld 1 1] 1 0 (N * N) 64, AV.int (N * N : Nat), AV.int k, .junk, .junk, .junk, .junk, .junk, .junk, .junk, .junk, .junk, .junk, .junk, .junk]) _ _ ?hw trim_no ⟨0, rfl, rfl⟩ ?_
  case hw =>
    repeat (first | exact weak_nil | refine weak_same ?_ | refine weak_junk ?_)
  rintro k hk ts m' ⟨cap, rfl, rfl⟩ R hR
  conv => whnf
  repeat (first | (refine br.yes ?_; conv => whnf) | (refine br.no ?_; conv => whnf))
  refine br_intro (fun h1 => ?_) (fun h1 => ?_)
  · have hk1 : k < N * N := lt_of_lss h1
    have hk64 : k < 64 := by omega
    have hlen := stepsTo_length xs q b k
    conv => whnf
    repeat (first | (refine br.yes ?_; conv => whnf) | (refine br.no ?_; conv => whnf))
    refine ⟨side_in ⟨by omega, by omega⟩, ?_⟩
    conv => whnf
    repeat (first | (refine br.yes ?_; conv => whnf) | (refine br.no ?_; conv => whnf))
    refine ⟨side_in (at_lt hk64), ?_⟩
    rw [nth_at]
    conv => whnf
    repeat (first | (refine br.yes ?_; conv => whnf) | (refine br.no ?_; conv => whnf))
    refine c_stepOf (pic_fine hp hk64) (pic_pos hp hk64) hq hq0 hb ?_
    conv => whnf
    repeat (first | (refine br.yes ?_; conv => whnf) | (refine br.no ?_; conv => whnf))
    refine ⟨side_in ⟨by decide, rfl, rfl, by omega, rfl⟩, fun cap' => ?_⟩
    conv => whnf
    repeat (first | (refine br.yes ?_; conv => whnf) | (refine br.no ?_; conv => whnf))
    rw [add_one (by omega), addN_eq]
    refine hR hk1 _ _ _ [⟨true, .st [AV.int N, .af 64 xs], 0⟩, ⟨true, .ai (k + 1) (stepsTo xs q b k ++ [stepN (xs.getD k 0) q b]), cap' * 1⟩, ⟨true, .st [AV.int N, .af 64 xs], 0⟩] ?hw2 ?tr ⟨cap', by rw [stepsTo_next], rfl⟩
    case hw2 =>
      repeat (first | exact weak_nil | refine weak_same ?_ | refine weak_junk ?_)
    case tr =>
      exact .inr ⟨3, by simp, rfl, rfl, rfl⟩
  · have hk2 : k = N * N := Nat.le_antisymm hk (ge_of_lss h1)
    subst hk2
    conv => whnf
    repeat (first | (refine br.yes ?_; conv => whnf) | (refine br.no ?_; conv => whnf))
    exact ⟨rfl, fun e he => by simp at he; rcases he with rfl | rfl | rfl <;> exact .inl rfl, rfl, hK cap⟩
theorem spec_Steps_bad {s M : Int} {q : Nat} {xs : List Nat} (hc : spCode s xs q M ≠ 0) (hK : K (.tup [nilS 1, AV.int (spCode s xs q M)]) m) : CallLeaf Try.prog w0 30 [.st [AV.int s, .af 64 xs], .flt .f32 q, AV.int M] m K := call_nil rfl fun w0 => by
  refine fn_go hmix h30 ?_
  conv => whnf
  repeat (first | (refine br.yes ?_; conv => whnf) | (refine br.no ?_; conv => whnf))
  refine c_l05Code ?_
  conv => whnf
  repeat (first | (refine br.yes ?_; conv => whnf) | (refine br.no ?_; conv => whnf))
  refine br_true (by rw [cmI_neq]; simpa using hc) ?_
  conv => whnf
  repeat (first | (refine br.yes ?_; conv => whnf) | (refine br.no ?_; conv => whnf))
  exact ⟨rfl, hK⟩
theorem impl_Steps_bad {s M : Int} {q : Nat} {xs : List Nat} (hc : spCode s xs q M ≠ 0) (hK : K (.tup [nilS 1, AV.int (spCode s xs q M)]) m) : CallLeaf Try.prog w0 31 [.st [AV.int s, .af 64 xs], .flt .f32 q, AV.int M] m K := call_nil rfl fun w0 => by
  refine fn_go hmix h31 ?_
  conv => whnf
  repeat (first | (refine br.yes ?_; conv => whnf) | (refine br.no ?_; conv => whnf))
  refine c_stepsCode ?_
  conv => whnf
  repeat (first | (refine br.yes ?_; conv => whnf) | (refine br.no ?_; conv => whnf))
  refine br_true (by rw [cmI_neq]; simpa using hc) ?_
  conv => whnf
  repeat (first | (refine br.yes ?_; conv => whnf) | (refine br.no ?_; conv => whnf))
  exact ⟨rfl, hK⟩
end
end Go.Proofs.Ytfoflddjcijaeaa
