/- Contracts of functions, by a walk each. -/
import Derived.Test.YtfoflddjcijaeaaPic1
namespace Go.Proofs.Ytfoflddjcijaeaa
open Go Go.Fw
section
variable {w0 : World} {m : MS} {K : AV → MS → Prop}
/-! the mask of a threshold -/
def thrG (N : Nat) (xs : List Nat) (t : Nat) (y x : Nat) : Bool := cmF .geq .f32 (xs.getD (N * y + x) 0) t
theorem thr_at {N : Nat} {xs : List Nat} {t k : Nat} : maskV N (thrG N xs t) k = if cmF .geq .f32 (xs.getD k 0) t = true then (1065353216, 0) else (0, 0) := by
  unfold maskV thrG
  rw [Nat.div_add_mod]
def thrR (s : Int) (xs : List Nat) (t : Nat) : Int × List (Nat × Nat) × Int := if (picOk s xs && fine t) = true then (s, tabTo (maskV s.toNat (thrG s.toNat xs t)) (s.toNat * s.toNat), 0) else (0, List.replicate 64 (0, 0), 1)
theorem thrR_no {s : Int} {xs : List Nat} {t : Nat} (h : (picOk s xs && fine t) = false) : thrR s xs t = (0, List.replicate 64 (0, 0), 1) := by simp [thrR, h]
theorem thrR_ok {N : Nat} {xs : List Nat} {t : Nat} (h : (picOk N xs && fine t) = true) : thrR N xs t = ((N : Int), tabTo (maskV N (thrG N xs t)) (N * N), 0) := by simp only [thrR, h, if_true]; rfl
theorem thrR_length {s : Int} {xs : List Nat} {t : Nat} : (thrR s xs t).2.1.length = 64 := by
  unfold thrR
  split
  · exact tabTo_length _ _
  · rfl
theorem pic_nat {s : Int} {xs : List Nat} (h : picOk s xs = true) : ∃ N : Nat, s = N ∧ N ≤ 8 ∧ 0 < N := by
  unfold picOk at h
  rw [Bool.and_eq_true] at h
  exact side_nat h.1
set_option maxRecDepth 20000 in
theorem rspec_ThresholdMask {s : Int} {xs : List Nat} {t : Nat} (hK : K (wc (thrR s xs t)) m) : CallLeaf Try.prog w0 45 [.st [AV.int s, .af 64 xs], .flt .f32 t] m K := call_nil rfl fun w0 => by
  refine fn_go hmix h45 ?_
  conv => whnf
  repeat (first | (refine br.yes ?_; conv => whnf) | (refine br.no ?_; conv => whnf))
  refine c_l01Shown ?_
  conv => whnf
  repeat (first | (refine br.yes ?_; conv => whnf) | (refine br.no ?_; conv => whnf))
  refine br_intro (fun h => ?_) (fun h => ?_)
  · conv => whnf
    repeat (first | (refine br.yes ?_; conv => whnf) | (refine br.no ?_; conv => whnf))
    rw [thrR_no (by rw [notB_eq] at h; simp at h; simp [h])] at hK
    exact ⟨rfl, hK⟩
  conv => whnf
  repeat (first | (refine br.yes ?_; conv => whnf) | (refine br.no ?_; conv => whnf))
  refine c_l01Fine ?_
  conv => whnf
  repeat (first | (refine br.yes ?_; conv => whnf) | (refine br.no ?_; conv => whnf))
  refine br_intro (fun h2 => ?_) (fun h2 => ?_)
  · conv => whnf
    repeat (first | (refine br.yes ?_; conv => whnf) | (refine br.no ?_; conv => whnf))
    rw [thrR_no (by rw [notB_eq] at h2; simp at h2; simp [h2])] at hK
    exact ⟨rfl, hK⟩
  conv => whnf
  repeat (first | (refine br.yes ?_; conv => whnf) | (refine br.no ?_; conv => whnf))
  have hok : (picOk s xs && fine t) = true := by rw [notB_eq] at h h2; simp at h h2; simp [h, h2]
  obtain ⟨N, rfl, hN8, hN0⟩ := pic_nat (xs := xs) (s := s) (by rw [notB_eq] at h; simpa using h)
  have hNN := sq_le hN8
  rw [thrR_ok hok] at hK
  refine c_l01Empty ?_
  conv => whnf
  repeat (first | (refine br.yes ?_; conv => whnf) | (refine br.no ?_; conv => whnf))
  refine loop_inv (N * N) (fun k ts m => m = [⟨true, .st [AV.int N, .af 64 xs], 0⟩, ⟨true, .st [AV.int 0, .ac 64 (List.replicate 64 (0, 0))], 0⟩, ⟨true, .st [AV.int N, .ac 64 (tabTo (maskV N (thrG N xs t)) k)], 0⟩] ∧ ts = [.junk, .flt .f32 t, .ptr 0 [], .junk, .ptr 1 [], AV.int 0, .ptr 2 [], AV.int k, .junk, .junk, .junk, .junk, .junk, .junk, .junk, .junk, .junk, .junk, .junk, .junk, .junk, .junk, .junk, .junk, .junk, .junk, .junk, .junk, .junk, .junk, .junk, .junk, .junk, .junk, .junk, .junk, .junk, .junk, .junk]) _ _ ?hw trim_no ⟨by rw [tabTo_zero] <;> rfl, rfl⟩ ?_
  case hw =>
    repeat (first | exact weak_nil | refine weak_same ?_ | refine weak_junk ?_)
  rintro k hk ts m' ⟨rfl, rfl⟩ R hR
  conv => whnf
  repeat (first | (refine br.yes ?_; conv => whnf) | (refine br.no ?_; conv => whnf))
  rw [mul_nat (by omega) (by omega)]
  refine br_intro (fun h1 => ?_) (fun h1 => ?_)
  · have hk1 : k < N * N := lt_of_lss h1
    have hk64 : k < 64 := by omega
    conv => whnf
    repeat (first | (refine br.yes ?_; conv => whnf) | (refine br.no ?_; conv => whnf))
    refine ⟨side_in ⟨by omega, by omega⟩, ?_⟩
    conv => whnf
    repeat (first | (refine br.yes ?_; conv => whnf) | (refine br.no ?_; conv => whnf))
    refine ⟨side_in (by rw [toN_nat]; exact hk64), ?_⟩
    rw [toN_nat, nth_eq]
    conv => whnf
    repeat (first | (refine br.yes ?_; conv => whnf) | (refine br.no ?_; conv => whnf))
    have hv := thr_at (N := N) (xs := xs) (t := t) (k := k)
    refine br_intro (fun h4 => ?_) (fun h4 => ?_)
    · rw [h4] at hv
      conv => whnf
      repeat (first | (refine br.yes ?_; conv => whnf) | (refine br.no ?_; conv => whnf))
      refine ⟨side_in ⟨by omega, by omega⟩, ?_⟩
      conv => whnf
      repeat (first | (refine br.yes ?_; conv => whnf) | (refine br.no ?_; conv => whnf))
      refine ⟨side_in (by rw [toN_nat]; exact hk64), ?_⟩
      conv => whnf
      repeat (first | (refine br.yes ?_; conv => whnf) | (refine br.no ?_; conv => whnf))
      rw [toN_nat, upd_eq, add_one (by omega)]
      refine hR hk1 _ _ _ _ ?hw2 trim_no ⟨by rw [← tabTo_set hv] <;> rfl, rfl⟩
      case hw2 =>
        repeat (first | exact weak_nil | refine weak_same ?_ | refine weak_junk ?_)
    · rw [h4] at hv
      conv => whnf
      repeat (first | (refine br.yes ?_; conv => whnf) | (refine br.no ?_; conv => whnf))
      rw [add_one (by omega)]
      refine hR hk1 _ _ _ _ ?hw3 trim_no ⟨by rw [tabTo_skip hv] <;> rfl, rfl⟩
      case hw3 =>
        repeat (first | exact weak_nil | refine weak_same ?_ | refine weak_junk ?_)
  · have hk2 : k = N * N := Nat.le_antisymm hk (ge_of_lss h1)
    subst hk2
    conv => whnf
    repeat (first | (refine br.yes ?_; conv => whnf) | (refine br.no ?_; conv => whnf))
    exact ⟨rfl, hK⟩
set_option maxRecDepth 20000 in
theorem g_ThresholdMask {a b ra rb N y x : Nat} {oa ob : Bool} {xs : List Nat} {t : Nat} (ha : getE m a = some ⟨oa, .st [AV.int N, .af 64 xs], ra⟩) (hb : getE m b = some ⟨ob, .flt .f32 t, rb⟩) (hy : y < N) (hx : x < N) (hN : N ≤ 8)
    (hK : K (AV.bool (thrG N xs t y x)) m) : CallLeaf Try.prog w0 85 [AV.int y, AV.int x, .ptr a [], .ptr b []] m K := by
  obtain ⟨d1, d2, d3⟩ := dims hy hx hN
  refine fn_go hmix h85 ?_
  conv => whnf
  repeat (first | (refine br.yes ?_; conv => whnf) | (refine br.no ?_; conv => whnf))
  rw [ha]
  conv => whnf
  repeat (first | (refine br.yes ?_; conv => whnf) | (refine br.no ?_; conv => whnf))
  rw [mul_nat (by omega) (by omega), add_nat (by omega) (by omega)]
  refine ⟨side_in ⟨by omega, by omega⟩, ?_⟩
  conv => whnf
  repeat (first | (refine br.yes ?_; conv => whnf) | (refine br.no ?_; conv => whnf))
  rw [ha]
  conv => whnf
  repeat (first | (refine br.yes ?_; conv => whnf) | (refine br.no ?_; conv => whnf))
  refine ⟨side_in (by rw [toN_nat]; exact d1), ?_⟩
  rw [toN_nat, nth_eq]
  conv => whnf
  repeat (first | (refine br.yes ?_; conv => whnf) | (refine br.no ?_; conv => whnf))
  rw [hb]
  conv => whnf
  repeat (first | (refine br.yes ?_; conv => whnf) | (refine br.no ?_; conv => whnf))
  exact hK
set_option maxRecDepth 20000 in
theorem rimpl_ThresholdMask {s : Int} {xs : List Nat} {t : Nat} (hK : K (wc (thrR s xs t)) m) : CallLeaf Try.prog w0 47 [.st [AV.int s, .af 64 xs], .flt .f32 t] m K := call_nil rfl fun w0 => by
  refine fn_go hmix h47 ?_
  conv => whnf
  repeat (first | (refine br.yes ?_; conv => whnf) | (refine br.no ?_; conv => whnf))
  refine c_IsPicture ?_
  conv => whnf
  repeat (first | (refine br.yes ?_; conv => whnf) | (refine br.no ?_; conv => whnf))
  refine br_intro (fun h => ?_) (fun h => ?_)
  · conv => whnf
    repeat (first | (refine br.yes ?_; conv => whnf) | (refine br.no ?_; conv => whnf))
    rw [thrR_no (by rw [notB_eq] at h; simp at h; simp [h])] at hK
    exact ⟨rfl, hK⟩
  conv => whnf
  repeat (first | (refine br.yes ?_; conv => whnf) | (refine br.no ?_; conv => whnf))
  refine c_isNumber ?_
  conv => whnf
  repeat (first | (refine br.yes ?_; conv => whnf) | (refine br.no ?_; conv => whnf))
  refine br_intro (fun h2 => ?_) (fun h2 => ?_)
  · conv => whnf
    repeat (first | (refine br.yes ?_; conv => whnf) | (refine br.no ?_; conv => whnf))
    rw [thrR_no (by rw [notB_eq] at h2; simp at h2; simp [h2])] at hK
    exact ⟨rfl, hK⟩
  conv => whnf
  repeat (first | (refine br.yes ?_; conv => whnf) | (refine br.no ?_; conv => whnf))
  have hok : (picOk s xs && fine t) = true := by rw [notB_eq] at h h2; simp at h h2; simp [h, h2]
  obtain ⟨N, rfl, hN8, hN0⟩ := pic_nat (xs := xs) (s := s) (by rw [notB_eq] at h; simpa using h)
  rw [thrR_ok hok] at hK
  refine c_maskBy (g := thrG N xs t) ⟨hN0, hN8⟩ (by kernel_rfl) (fun ext y x K hy hx hK => g_ThresholdMask (a := 0) (b := 1) rfl rfl hy hx hN8 hK) ?_
  conv => whnf
  repeat (first | (refine br.yes ?_; conv => whnf) | (refine br.no ?_; conv => whnf))
  exact ⟨rfl, hK⟩
set_option maxRecDepth 20000 in
theorem ospec_ThresholdMask {s : Int} {xs : List Nat} {t : Nat} (hK : K (wc (plusR (thrR s xs t))) m) : CallLeaf Try.prog w0 18 [.st [AV.int s, .af 64 xs], .flt .f32 t] m K := call_nil rfl fun w0 => by
  refine fn_go hmix h18 ?_
  conv => whnf
  repeat (first | (refine br.yes ?_; conv => whnf) | (refine br.no ?_; conv => whnf))
  refine rspec_ThresholdMask ?_
  have hl := thrR_length (s := s) (xs := xs) (t := t)
  unfold wc plusR at hK
  unfold wc
  generalize thrR s xs t = R at hK hl ⊢
  conv => whnf
  repeat (first | (refine br.yes ?_; conv => whnf) | (refine br.no ?_; conv => whnf))
  refine c_l01PlusWave hl ?_
  conv => whnf
  repeat (first | (refine br.yes ?_; conv => whnf) | (refine br.no ?_; conv => whnf))
  exact ⟨rfl, hK⟩
set_option maxRecDepth 20000 in
theorem oimpl_ThresholdMask {s : Int} {xs : List Nat} {t : Nat} (hK : K (wc (plusR (thrR s xs t))) m) : CallLeaf Try.prog w0 19 [.st [AV.int s, .af 64 xs], .flt .f32 t] m K := call_nil rfl fun w0 => by
  refine fn_go hmix h19 ?_
  conv => whnf
  repeat (first | (refine br.yes ?_; conv => whnf) | (refine br.no ?_; conv => whnf))
  refine rimpl_ThresholdMask ?_
  have hl := thrR_length (s := s) (xs := xs) (t := t)
  unfold wc plusR at hK
  unfold wc
  generalize thrR s xs t = R at hK hl ⊢
  conv => whnf
  repeat (first | (refine br.yes ?_; conv => whnf) | (refine br.no ?_; conv => whnf))
  refine c_plainWave hl ?_
  conv => whnf
  repeat (first | (refine br.yes ?_; conv => whnf) | (refine br.no ?_; conv => whnf))
  exact ⟨rfl, hK⟩
set_option maxRecDepth 20000 in
theorem law_ThresholdMask {s : Int} {xs : List Nat} {t : Nat} (hx : xs.length = 64) (_ : ∀ x ∈ xs, WfF x) (_ : WfF t) (hK : ∀ m, K (AV.bool true) m) : CallLeaf Try.prog w0 5 [.st [AV.int s, .af 64 xs], .flt .f32 t] [] K := by
  refine fn_go hmix h5 ?_
  conv => whnf
  repeat (first | (refine br.yes ?_; conv => whnf) | (refine br.no ?_; conv => whnf))
  obtain ⟨R, hR⟩ : ∃ R, R = plusR (thrR s xs t) := ⟨_, rfl⟩
  refine c_toPicture hx ?_
  conv => whnf
  repeat (first | (refine br.yes ?_; conv => whnf) | (refine br.no ?_; conv => whnf))
  refine ospec_ThresholdMask ?_
  rw [← hR]
  unfold wc
  conv => whnf
  repeat (first | (refine br.yes ?_; conv => whnf) | (refine br.no ?_; conv => whnf))
  refine c_toPicture hx ?_
  conv => whnf
  repeat (first | (refine br.yes ?_; conv => whnf) | (refine br.no ?_; conv => whnf))
  refine oimpl_ThresholdMask ?_
  rw [← hR]
  unfold wc
  conv => whnf
  repeat (first | (refine br.yes ?_; conv => whnf) | (refine br.no ?_; conv => whnf))
  refine c_eqWave ?_
  conv => whnf
  repeat (first | (refine br.yes ?_; conv => whnf) | (refine br.no ?_; conv => whnf))
  refine br_false (by rw [notB_eq]; rfl) ?_
  conv => whnf
  repeat (first | (refine br.yes ?_; conv => whnf) | (refine br.no ?_; conv => whnf))
  refine br_false (neq_self _) ?_
  conv => whnf
  repeat (first | (refine br.yes ?_; conv => whnf) | (refine br.no ?_; conv => whnf))
  exact hK _
end
end Go.Proofs.Ytfoflddjcijaeaa
