/- Contracts of functions, by a walk each. -/
import Derived.Test.YtfoflddjcijaeaaWal2
import Derived.Test.YtfoflddjcijaeaaPic5
namespace Go.Proofs.Ytfoflddjcijaeaa
open Go Go.Fw
section
variable {w0 : World} {m : MS} {K : AV → MS → Prop}
/-! a picture's sum over a Walsh function -/
def swF (xs : List Nat) (q k : Nat) : Nat := arF .mul .f32 (xs.getD k 0) (wal q k)
def swIn (s k : Int) : Bool := inR k 0 (arI .sub .i64 (arI .mul .i64 s s) 1)
def swR (s : Int) (xs : List Nat) (k : Int) : Nat × Int := if picOk s xs = true then (if swIn s k = true then limN (sumTo (swF xs k.toNat) (s.toNat * s.toNat)) else (0, 2)) else (0, 1)
theorem swR_1 {s k : Int} {xs : List Nat} (h : picOk s xs = false) : swR s xs k = (0, 1) := by simp [swR, h]
theorem swR_2 {s k : Int} {xs : List Nat} (h : picOk s xs = true) (h2 : swIn s k = false) : swR s xs k = (0, 2) := by simp [swR, h, h2]
theorem swR_ok {N q : Nat} {xs : List Nat} (h : picOk N xs = true) (h2 : swIn N q = true) : swR N xs q = limN (sumTo (swF xs q) (N * N)) := by simp [swR, h, h2]
theorem sw_nat {N : Nat} {k : Int} (hN : 0 < N ∧ N ≤ 8) (h : swIn N k = true) : ∃ q : Nat, k = q ∧ q < 64 := by
  have hNN := sq_le hN.2
  have h0 : 0 < N * N := Nat.mul_pos hN.1 hN.1
  unfold swIn at h
  rw [mul_nat (by omega) (by omega), sub_one h0 (by omega)] at h
  simp only [inR, Bool.and_eq_true, decide_eq_true_eq] at h
  exact ⟨k.toNat, by omega, by omega⟩
set_option maxRecDepth 20000 in
theorem rspec_SumOfPicture {s k : Int} {xs : List Nat} (hK : K (fcA (swR s xs k)) m) : CallLeaf Try.prog w0 66 [.st [AV.int s, .af 64 xs], AV.int k] m K := call_nil rfl fun w0 => by
  refine fn_go hmix h66 ?_
  conv => whnf
  repeat (first | (refine br.yes ?_; conv => whnf) | (refine br.no ?_; conv => whnf))
  refine c_l01Shown ?_
  conv => whnf
  repeat (first | (refine br.yes ?_; conv => whnf) | (refine br.no ?_; conv => whnf))
  refine br_intro (fun h => ?_) (fun h => ?_)
  · conv => whnf
    repeat (first | (refine br.yes ?_; conv => whnf) | (refine br.no ?_; conv => whnf))
    rw [swR_1 (by rw [notB_eq] at h; simpa using h)] at hK
    exact ⟨rfl, hK⟩
  have hp : picOk s xs = true := by rw [notB_eq] at h; simpa using h
  conv => whnf
  repeat (first | (refine br.yes ?_; conv => whnf) | (refine br.no ?_; conv => whnf))
  refine c_l01In ?_
  conv => whnf
  repeat (first | (refine br.yes ?_; conv => whnf) | (refine br.no ?_; conv => whnf))
  refine br_intro (fun h2 => ?_) (fun h2 => ?_)
  · conv => whnf
    repeat (first | (refine br.yes ?_; conv => whnf) | (refine br.no ?_; conv => whnf))
    rw [swR_2 hp (by rw [notB_eq] at h2; unfold swIn; simpa using h2)] at hK
    exact ⟨rfl, hK⟩
  have hw : swIn s k = true := by rw [notB_eq] at h2; unfold swIn; simpa using h2
  obtain ⟨N, rfl, hN8, hN0⟩ := pic_nat hp
  obtain ⟨q, rfl, hq⟩ := sw_nat ⟨hN0, hN8⟩ hw
  have hNN := sq_le hN8
  rw [swR_ok hp hw] at hK
  conv => whnf
  repeat (first | (refine br.yes ?_; conv => whnf) | (refine br.no ?_; conv => whnf))
  rw [mul_nat (by omega) (by omega)]
  refine c_l10Walsh hNN hq (fun cap => ?_)
  conv => whnf
  repeat (first | (refine br.yes ?_; conv => whnf) | (refine br.no ?_; conv => whnf))
  refine loop_inv (N * N) (fun k ts m => m = [⟨true, .st [AV.int N, .af 64 xs], 0⟩, ⟨true, .af (N * N) (walsh q (N * N)), cap * 1⟩] ∧ ts = [.junk, AV.int q, .ptr 0 [], .junk, .flt .f32 0, AV.int 0, .sl 1 [] 1 0 (N * N) cap, .flt .f32 (sumTo (swF xs q) k), AV.int k, .junk, .junk, .junk, .junk, .junk, .junk, .junk, .junk, .junk, .junk, .junk, .junk, .junk, .junk, .junk, .junk, .junk, .junk, .junk, .junk, .junk, .junk, .junk, .junk, .junk, .junk, .junk, .junk, .junk, .junk, .junk, .junk, .junk, .junk, .junk, .junk, .junk, .junk, .junk, .junk, .junk, .junk] ∧ (0 < k → fine (sumTo (swF xs q) k) = true)) _ _ ?hw trim_no ⟨rfl, rfl, fun h => by omega⟩ ?_
  case hw =>
    repeat (first | exact weak_nil | refine weak_same ?_ | refine weak_junk ?_)
  rintro k hk ts m' ⟨rfl, rfl, hf⟩ R hR
  conv => whnf
  repeat (first | (refine br.yes ?_; conv => whnf) | (refine br.no ?_; conv => whnf))
  refine br_intro (fun g1 => ?_) (fun g1 => ?_)
  · have hk1 : k < N * N := lt_of_lss g1
    have hk64 : k < 64 := by omega
    conv => whnf
    repeat (first | (refine br.yes ?_; conv => whnf) | (refine br.no ?_; conv => whnf))
    refine ⟨side_in ⟨by omega, by omega⟩, ?_⟩
    conv => whnf
    repeat (first | (refine br.yes ?_; conv => whnf) | (refine br.no ?_; conv => whnf))
    refine ⟨side_in (by rw [toN_nat]; exact hk64), ?_⟩
    rw [toN_nat, nth_eq]
    conv => whnf
    repeat (first | (refine br.yes ?_; conv => whnf) | (refine br.no ?_; conv => whnf))
    refine ⟨side_in ⟨by omega, by omega⟩, ?_⟩
    conv => whnf
    repeat (first | (refine br.yes ?_; conv => whnf) | (refine br.no ?_; conv => whnf))
    refine ⟨side_in (at_lt hk1), ?_⟩
    rw [nth_at, walsh_get hk1]
    conv => whnf
    repeat (first | (refine br.yes ?_; conv => whnf) | (refine br.no ?_; conv => whnf))
    refine c_l01Fine ?_
    conv => whnf
    repeat (first | (refine br.yes ?_; conv => whnf) | (refine br.no ?_; conv => whnf))
    refine br_intro (fun g2 => ?_) (fun g2 => ?_)
    · have e : limN (sumTo (swF xs q) (N * N)) = (0, 3) := by
        have hn : fine (sumTo (swF xs q) (k + 1)) = false := by rw [notB_eq] at g2; simpa [sumTo, swF] using g2
        have := sumTo_not (show k + 1 ≤ N * N by omega) hn
        simp [limN, this]
      rw [e] at hK
      conv => whnf
      repeat (first | (refine br.yes ?_; conv => whnf) | (refine br.no ?_; conv => whnf))
      exact ⟨rfl, hK⟩
    · conv => whnf
      repeat (first | (refine br.yes ?_; conv => whnf) | (refine br.no ?_; conv => whnf))
      rw [add_one (by omega)]
      refine hR hk1 _ _ _ _ ?hw2 trim_no ⟨rfl, rfl, fun _ => ?_⟩
      case hw2 =>
        repeat (first | exact weak_nil | refine weak_same ?_ | refine weak_junk ?_)
      rw [notB_eq] at g2; simpa [sumTo, swF] using g2
  · have hk2 : k = N * N := Nat.le_antisymm hk (ge_of_lss g1)
    subst hk2
    have e : limN (sumTo (swF xs q) (N * N)) = (sumTo (swF xs q) (N * N), 0) := by
      have := hf (Nat.mul_pos hN0 hN0)
      simp [limN, this]
    rw [e] at hK
    conv => whnf
    repeat (first | (refine br.yes ?_; conv => whnf) | (refine br.no ?_; conv => whnf))
    exact ⟨rfl, hK⟩
set_option maxRecDepth 20000 in
theorem rimpl_SumOfPicture {s k : Int} {xs : List Nat} (hK : K (fcA (swR s xs k)) m) : CallLeaf Try.prog w0 67 [.st [AV.int s, .af 64 xs], AV.int k] m K := call_nil rfl fun w0 => by
  refine fn_go hmix h67 ?_
  conv => whnf
  repeat (first | (refine br.yes ?_; conv => whnf) | (refine br.no ?_; conv => whnf))
  refine c_IsPicture ?_
  conv => whnf
  repeat (first | (refine br.yes ?_; conv => whnf) | (refine br.no ?_; conv => whnf))
  refine br_intro (fun h => ?_) (fun h => ?_)
  · conv => whnf
    repeat (first | (refine br.yes ?_; conv => whnf) | (refine br.no ?_; conv => whnf))
    rw [swR_1 (by rw [notB_eq] at h; simpa using h)] at hK
    exact ⟨rfl, hK⟩
  have hp : picOk s xs = true := by rw [notB_eq] at h; simpa using h
  conv => whnf
  repeat (first | (refine br.yes ?_; conv => whnf) | (refine br.no ?_; conv => whnf))
  refine c_within ?_
  conv => whnf
  repeat (first | (refine br.yes ?_; conv => whnf) | (refine br.no ?_; conv => whnf))
  refine br_intro (fun h2 => ?_) (fun h2 => ?_)
  · conv => whnf
    repeat (first | (refine br.yes ?_; conv => whnf) | (refine br.no ?_; conv => whnf))
    rw [swR_2 hp (by rw [notB_eq] at h2; unfold swIn; simpa using h2)] at hK
    exact ⟨rfl, hK⟩
  have hw : swIn s k = true := by rw [notB_eq] at h2; unfold swIn; simpa using h2
  obtain ⟨N, rfl, hN8, hN0⟩ := pic_nat hp
  obtain ⟨q, rfl, hq⟩ := sw_nat ⟨hN0, hN8⟩ hw
  have hNN := sq_le hN8
  rw [swR_ok hp hw] at hK
  conv => whnf
  repeat (first | (refine br.yes ?_; conv => whnf) | (refine br.no ?_; conv => whnf))
  refine c_levels hN8 ?_
  conv => whnf
  repeat (first | (refine br.yes ?_; conv => whnf) | (refine br.no ?_; conv => whnf))
  refine loop_inv (N * N) (fun k ts m => m = [⟨true, .st [AV.int N, .af 64 xs], 0⟩, ⟨true, .st [AV.int N, .af 64 xs], 0⟩] ∧ ts = [.junk, AV.int q, .ptr 0 [], .junk, .flt .f32 0, AV.int 0, .flt .f32 (sumTo (swF xs q) k), .junk, .junk, .junk, .junk, .junk, .junk, .junk, .junk, .junk, .junk, .junk, .junk, .junk, .junk, .junk, .junk, .junk, .sl 1 [.fld 1 1] 1 0 (N * N) 64, AV.int (N * N : Nat), AV.int k, .junk, .junk, .junk, .junk, .junk, .junk, .junk, .junk, .junk, .junk, .junk, .junk, .junk, .junk, .junk, .junk]) _ _ ?hw trim_no ⟨rfl, rfl⟩ ?_
  case hw =>
    repeat (first | exact weak_nil | refine weak_same ?_ | refine weak_junk ?_)
  rintro k hk ts m' ⟨rfl, rfl⟩ R hR
  conv => whnf
  repeat (first | (refine br.yes ?_; conv => whnf) | (refine br.no ?_; conv => whnf))
  refine br_intro (fun g1 => ?_) (fun g1 => ?_)
  · have hk1 : k < N * N := lt_of_lss g1
    have hk64 : k < 64 := by omega
    conv => whnf
    repeat (first | (refine br.yes ?_; conv => whnf) | (refine br.no ?_; conv => whnf))
    refine ⟨side_in ⟨by omega, by omega⟩, ?_⟩
    conv => whnf
    repeat (first | (refine br.yes ?_; conv => whnf) | (refine br.no ?_; conv => whnf))
    refine ⟨side_in (at_lt hk64), ?_⟩
    rw [nth_at]
    conv => whnf
    repeat (first | (refine br.yes ?_; conv => whnf) | (refine br.no ?_; conv => whnf))
    refine c_walsh hq hk64 ?_
    conv => whnf
    repeat (first | (refine br.yes ?_; conv => whnf) | (refine br.no ?_; conv => whnf))
    rw [add_one (by omega)]
    refine hR hk1 _ _ _ _ ?hw2 trim_no ⟨rfl, rfl⟩
    case hw2 =>
      repeat (first | exact weak_nil | refine weak_same ?_ | refine weak_junk ?_)
  · have hk2 : k = N * N := Nat.le_antisymm hk (ge_of_lss g1)
    subst hk2
    conv => whnf
    repeat (first | (refine br.yes ?_; conv => whnf) | (refine br.no ?_; conv => whnf))
    refine c_limitNumber ?_
    unfold fcA at hK ⊢
    generalize limN (sumTo (swF xs q) (N * N)) = R at hK ⊢
    conv => whnf
    repeat (first | (refine br.yes ?_; conv => whnf) | (refine br.no ?_; conv => whnf))
    exact ⟨rfl, hK⟩
theorem ospec_SumOfPicture {s k : Int} {xs : List Nat} (hK : K (fcA (plusF (swR s xs k))) m) : CallLeaf Try.prog w0 35 [.st [AV.int s, .af 64 xs], AV.int k] m K := call_nil rfl fun w0 => by
  refine fn_go hmix h35 ?_
  conv => whnf
  repeat (first | (refine br.yes ?_; conv => whnf) | (refine br.no ?_; conv => whnf))
  refine rspec_SumOfPicture ?_
  unfold fcA plusF at hK
  unfold fcA
  generalize swR s xs k = R at hK ⊢
  conv => whnf
  repeat (first | (refine br.yes ?_; conv => whnf) | (refine br.no ?_; conv => whnf))
  refine c_l01PlusNumber ?_
  conv => whnf
  repeat (first | (refine br.yes ?_; conv => whnf) | (refine br.no ?_; conv => whnf))
  exact ⟨rfl, hK⟩
theorem oimpl_SumOfPicture {s k : Int} {xs : List Nat} (hK : K (fcA (plusF (swR s xs k))) m) : CallLeaf Try.prog w0 36 [.st [AV.int s, .af 64 xs], AV.int k] m K := call_nil rfl fun w0 => by
  refine fn_go hmix h36 ?_
  conv => whnf
  repeat (first | (refine br.yes ?_; conv => whnf) | (refine br.no ?_; conv => whnf))
  refine rimpl_SumOfPicture ?_
  unfold fcA plusF at hK
  unfold fcA
  generalize swR s xs k = R at hK ⊢
  conv => whnf
  repeat (first | (refine br.yes ?_; conv => whnf) | (refine br.no ?_; conv => whnf))
  refine c_plainF32 ?_
  conv => whnf
  repeat (first | (refine br.yes ?_; conv => whnf) | (refine br.no ?_; conv => whnf))
  exact ⟨rfl, hK⟩
set_option maxRecDepth 20000 in
theorem law_SumOfPicture {s k : Int} {xs : List Nat} (hx : xs.length = 64) (_ : ∀ x ∈ xs, WfF x) (hK : ∀ m, K (AV.bool true) m) : CallLeaf Try.prog w0 11 [.st [AV.int s, .af 64 xs], AV.int k] [] K := by
  refine fn_go hmix h11 ?_
  conv => whnf
  repeat (first | (refine br.yes ?_; conv => whnf) | (refine br.no ?_; conv => whnf))
  obtain ⟨R, hR⟩ : ∃ R, R = plusF (swR s xs k) := ⟨_, rfl⟩
  refine c_toPicture hx ?_
  conv => whnf
  repeat (first | (refine br.yes ?_; conv => whnf) | (refine br.no ?_; conv => whnf))
  refine ospec_SumOfPicture ?_
  rw [← hR]
  unfold fcA
  conv => whnf
  repeat (first | (refine br.yes ?_; conv => whnf) | (refine br.no ?_; conv => whnf))
  refine c_toPicture hx ?_
  conv => whnf
  repeat (first | (refine br.yes ?_; conv => whnf) | (refine br.no ?_; conv => whnf))
  refine oimpl_SumOfPicture ?_
  rw [← hR]
  unfold fcA
  conv => whnf
  repeat (first | (refine br.yes ?_; conv => whnf) | (refine br.no ?_; conv => whnf))
  refine c_sameFloat ?_
  conv => whnf
  repeat (first | (refine br.yes ?_; conv => whnf) | (refine br.no ?_; conv => whnf))
  refine br_false (by rw [notB_eq]; rfl) ?_
  conv => whnf
  repeat (first | (refine br.yes ?_; conv => whnf) | (refine br.no ?_; conv => whnf))
  refine br_false (neq_self _) ?_
  conv => whnf
  repeat (first | (refine br.yes ?_; conv => whnf) | (refine br.no ?_; conv => whnf))
  exact hK _
end
end Go.Proofs.Ytfoflddjcijaeaa
