/- Contracts of functions, by a walk each. -/
import Derived.Test.YtfoflddjcijaeaaPic7
namespace Go.Proofs.Ytfoflddjcijaeaa
open Go Go.Fw
section
variable {w0 : World} {m : MS} {K : AV → MS → Prop}
/-! a picture's negative -/
def Val (x : Nat) (v : Int) : Prop := ∃ s m e, Ieee.single.read x = .number s m e ∧ vOf s m e = v
theorem num_val {x : Nat} (h : isNum x) : ∃ v, Val x v := by
  obtain ⟨s, m, e, h⟩ := h
  exact ⟨_, s, m, e, h, rfl⟩
theorem lss_val {x y : Nat} {a b : Int} (hx : Val x a) (hy : Val y b) : cmF .lss .f32 x y = decide (a < b) := by
  obtain ⟨s, m, e, h1, rfl⟩ := hx
  obtain ⟨t, n, f, h2, rfl⟩ := hy
  exact lss_v h1 h2
theorem gtr_val {x y : Nat} {a b : Int} (hx : Val x a) (hy : Val y b) : cmF .gtr .f32 x y = decide (b < a) := by
  obtain ⟨s, m, e, h1, rfl⟩ := hx
  obtain ⟨t, n, f, h2, rfl⟩ := hy
  exact gtr_v h1 h2
theorem val_zero : Val 0 0 := ⟨_, _, _, read_zero, v_zero⟩
theorem mx_val {x y : Nat} {a b : Int} (hx : Val x a) (hy : Val y b) : Val (mxF .f32 x y) (max a b) := by
  obtain ⟨s, m, e, h1, h1'⟩ := hx
  obtain ⟨t, n, f, h2, h2'⟩ := hy
  have ho : FloatKind.f32.format.order x y = some (compare a b) := by rw [← h1', ← h2']; exact order_v h1 h2
  unfold mxF
  rw [ho]
  rcases Int.lt_trichotomy a b with g | g | g
  · rw [Int.compare_eq_lt.2 g, Int.max_eq_right (by omega)]
    exact ⟨t, n, f, h2, h2'⟩
  · rw [Int.compare_eq_eq.2 g, Int.max_eq_right (by omega)]
    simp only
    split
    · exact ⟨t, n, f, h2, h2'⟩
    · exact ⟨s, m, e, h1, by omega⟩
  · rw [Int.compare_eq_gt.2 g, Int.max_eq_left (by omega)]
    exact ⟨s, m, e, h1, h1'⟩
theorem val_uniq {x : Nat} {a b : Int} (h1 : Val x a) (h2 : Val x b) : a = b := by
  obtain ⟨s, m, e, g1, rfl⟩ := h1
  obtain ⟨t, n, f, g2, rfl⟩ := h2
  rw [g1] at g2; cases g2; rfl
theorem top_val {xs : List Nat} (h : ∀ k, k < 64 → isNum (xs.getD k 0)) : ∀ k, k < 64 → ∃ v, Val (topS xs k) v ∧ Val (topM xs k) v ∧ ∀ p w, p ≤ k → Val (xs.getD p 0) w → w ≤ v := by
  intro k
  induction k with
  | zero =>
    intro hk
    obtain ⟨v, hv⟩ := num_val (h 0 hk)
    refine ⟨v, hv, hv, fun p w hp hw => ?_⟩
    have : p = 0 := by omega
    subst this
    have := val_uniq hw hv
    omega
  | succ k ih =>
    intro hk
    obtain ⟨v, h1, h2, h3⟩ := ih (by omega)
    obtain ⟨u, hu⟩ := num_val (h (k + 1) hk)
    have hall : ∀ p w, p ≤ k + 1 → Val (xs.getD p 0) w → w ≤ max v u := fun p w hp hw => by
      rcases Nat.lt_or_ge p (k + 1) with hlt | hge
      · have := h3 p w (by omega) hw; omega
      · have : p = k + 1 := by omega
        subst this
        have := val_uniq hw hu; omega
    refine ⟨max v u, ?_, mx_val h2 hu, hall⟩
    have hg := gtr_val hu h1
    cases hc : cmF .gtr .f32 (xs.getD (k + 1) 0) (topS xs k) with
    | true =>
      rw [topS_t hc]
      rw [hc] at hg
      have hlt : v < u := by simpa using hg.symm
      rw [Int.max_eq_right (by omega)]; exact hu
    | false =>
      rw [topS_f hc]
      rw [hc] at hg
      have hge : ¬ v < u := by simpa using hg.symm
      rw [Int.max_eq_left (by omega)]; exact h1
theorem mapTo_getD {f : Nat → Nat} {xs : List Nat} {n k : Nat} (hk : k < xs.length) : (mapTo f xs n).getD k 0 = if k < n then f (xs.getD k 0) else xs.getD k 0 := by
  unfold mapTo
  simp only [List.getD_eq_getElem?_getD]
  by_cases h : k < n
  · rw [if_pos h, List.getElem?_append_left (by simp; omega)]
    simp [h, hk]
  · rw [if_neg h, List.getElem?_append_right (by simp; omega)]
    simp only [List.length_map, List.length_take, List.getElem?_drop]
    have : n + (k - min n xs.length) = k := by omega
    rw [this]
def negR (A : Int × List Nat × Int) (s : Int) (xs : List Nat) (t top : Nat) : Int × List Nat × Int :=
  if (picOk s xs && fine t) = true then (if cmF .lss .f32 t top = true then zeroP 2 else A) else zeroP 1
theorem negR_1 {A : Int × List Nat × Int} {s : Int} {xs : List Nat} {t top : Nat} (h : (picOk s xs && fine t) = false) : negR A s xs t top = zeroP 1 := by simp only [negR, h, Bool.false_eq_true, if_false]
theorem negR_2 {A : Int × List Nat × Int} {s : Int} {xs : List Nat} {t top : Nat} (h : (picOk s xs && fine t) = true) (h2 : cmF .lss .f32 t top = true) : negR A s xs t top = zeroP 2 := by simp only [negR, h, h2, if_true]
theorem negR_ok {A : Int × List Nat × Int} {s : Int} {xs : List Nat} {t top : Nat} (h : (picOk s xs && fine t) = true) (h2 : cmF .lss .f32 t top = false) : negR A s xs t top = A := by simp only [negR, h, h2, if_true, Bool.false_eq_true, if_false]
theorem negR_length {A : Int × List Nat × Int} {s : Int} {xs : List Nat} {t top : Nat} (h : A.2.1.length = 64) : (negR A s xs t top).2.1.length = 64 := by
  unfold negR
  split
  · split
    · rfl
    · exact h
  · rfl
def negA (s : Int) (xs : List Nat) (t : Nat) : List Nat := mapTo (fun x => arF .sub .f32 t x) xs (s.toNat * s.toNat)
def negB (s : Int) (xs : List Nat) (t : Nat) : List Nat := tabF (fun k => arF .sub .f32 t (xs.getD k 0)) (s.toNat * s.toNat)
def topIx (s : Int) : Nat := s.toNat * s.toNat - 1
def negSp (s : Int) (xs : List Nat) (t : Nat) : Int × List Nat × Int := negR (s, negA s xs t, 0) s xs t (topS xs (topIx s))
def negIm (s : Int) (xs : List Nat) (t : Nat) : Int × List Nat × Int := negR (toldR s (negB s xs t)) s xs t (topM xs (topIx s))
theorem neg_same {s : Int} {xs : List Nat} {t : Nat} (hx : xs.length = 64) : plusP (negSp s xs t) = plusP (negIm s xs t) := by
  unfold negSp negIm
  cases hok : (picOk s xs && fine t) with
  | false => rw [negR_1 hok, negR_1 hok]
  | true =>
    have hok2 := hok
    rw [Bool.and_eq_true] at hok2
    obtain ⟨N, rfl, hN8, hN0⟩ := pic_nat hok2.1
    have hNN := sq_le hN8
    have hN1 : 0 < N * N := Nat.mul_pos hN0 hN0
    have htop : topIx (N : Int) = N * N - 1 := by unfold topIx; simp
    obtain ⟨v, h1, h2, h3⟩ := top_val (fun k hk => pic_fine hok2.1 hk) (topIx N) (by omega)
    obtain ⟨vt, ht⟩ := num_val (fine_iff.1 hok2.2)
    have hl1 := lss_val ht h1
    have hl2 := lss_val ht h2
    cases hlt : decide (vt < v) with
    | true =>
      rw [hlt] at hl1 hl2
      rw [negR_2 hok hl1, negR_2 hok hl2]
    | false =>
      rw [hlt] at hl1 hl2
      rw [negR_ok hok hl1, negR_ok hok hl2]
      have hge : v ≤ vt := by simpa using hlt
      have hsub : ∀ k, k < N * N → isNum (arF .sub .f32 t (xs.getD k 0)) ∧ cmF .lss .f32 (arF .sub .f32 t (xs.getD k 0)) 0 = false := fun k hk => by
        obtain ⟨w, hw⟩ := num_val (pic_fine hok2.1 (show k < 64 by omega))
        have hwv := h3 k w (by omega) hw
        have hc := pic_cell hok2.1 (show k < 64 by omega)
        unfold cellOk at hc
        rw [Bool.and_eq_true, Bool.and_eq_true] at hc
        have hc2 := hc.1.2
        rw [lss_val hw val_zero] at hc2
        have hw0 : 0 ≤ w := by simpa using hc2
        obtain ⟨s1, m1, e1, g1, rfl⟩ := ht
        obtain ⟨s2, m2, e2, g2, rfl⟩ := hw
        exact sub_fin g1 g2 hw0 (by omega)
      have hgA : ∀ k, k < 64 → (negA N xs t).getD k 0 = if k < N * N then arF .sub .f32 t (xs.getD k 0) else xs.getD k 0 := fun k hk => by
        unfold negA
        simp only [Int.toNat_natCast]
        exact mapTo_getD (by omega)
      have hgB : ∀ k, k < 64 → (negB N xs t).getD k 0 = if k < N * N then arF .sub .f32 t (xs.getD k 0) else 0 := fun k hk => by
        unfold negB
        simp only [Int.toNat_natCast]
        exact tabF_get hk
      have hlA : (negA N xs t).length = 64 := by unfold negA; rw [mapTo_length]; exact hx
      have hlB : (negB N xs t).length = 64 := tabF_length _ _
      have hcell : ∀ k y, k < N * N → isNum y → cmF .lss .f32 y 0 = false → cellOk N k y = true := fun k y hk hy hy2 => by
        unfold cellOk fine
        rw [fine_iff.2 hy, hy2, mul_nat (by omega) (by omega), cmI_geq]
        have : decide ((k : Int) ≥ ((N * N : Nat) : Int)) = false := by simp only [decide_eq_false_iff_not]; omega
        rw [this]; rfl
      have hside : isSide (N : Int) = true := by
        have := hok2.1
        unfold picOk at this
        rw [Bool.and_eq_true] at this
        exact this.1
      have hpA : picOk N (negA N xs t) = true := picOk_all hside (fun k hk => by
        rw [hgA k hk]
        by_cases h : k < N * N
        · rw [if_pos h]; exact hcell k _ h (hsub k h).1 (hsub k h).2
        · rw [if_neg h]; exact zl_cell (pic_zero hok2.1 hN8 hk (by omega)))
      rw [← toldR_ok hpA]
      refine told_same hlA hlB (fun k hk => ?_)
      rw [hgA k hk, hgB k hk]
      by_cases h : k < N * N
      · left; rw [if_pos h, if_pos h]
      · right; rw [if_neg h, if_neg h]
        exact ⟨pic_zero hok2.1 hN8 hk (by omega), zl_zero⟩
set_option maxRecDepth 20000 in
set_option maxHeartbeats 1600000 in
theorem rspec_NegativeOf {s : Int} {xs : List Nat} {t : Nat} (hK : K (pc (negSp s xs t)) m) : CallLeaf Try.prog w0 59 [.st [AV.int s, .af 64 xs], .flt .f32 t] m K := call_nil rfl fun w0 => by
  unfold negSp at hK
  refine fn_go hmix h59 ?_
  conv => whnf
  repeat (first | (refine br.yes ?_; conv => whnf) | (refine br.no ?_; conv => whnf))
  refine c_l01Shown ?_
  conv => whnf
  repeat (first | (refine br.yes ?_; conv => whnf) | (refine br.no ?_; conv => whnf))
  refine br_intro (fun h => ?_) (fun h => ?_)
  · conv => whnf
    repeat (first | (refine br.yes ?_; conv => whnf) | (refine br.no ?_; conv => whnf))
    rw [negR_1 (by rw [notB_eq] at h; simp at h; simp [h])] at hK
    exact ⟨rfl, hK⟩
  conv => whnf
  repeat (first | (refine br.yes ?_; conv => whnf) | (refine br.no ?_; conv => whnf))
  refine c_l01Fine ?_
  conv => whnf
  repeat (first | (refine br.yes ?_; conv => whnf) | (refine br.no ?_; conv => whnf))
  refine br_intro (fun h2 => ?_) (fun h2 => ?_)
  · conv => whnf
    repeat (first | (refine br.yes ?_; conv => whnf) | (refine br.no ?_; conv => whnf))
    rw [negR_1 (by rw [notB_eq] at h2; simp at h2; simp [h2])] at hK
    exact ⟨rfl, hK⟩
  have hok : (picOk s xs && fine t) = true := by rw [notB_eq] at h h2; simp at h h2; simp [h, h2]
  obtain ⟨N, rfl, hN8, hN0⟩ := pic_nat (xs := xs) (s := s) (by rw [notB_eq] at h; simpa using h)
  have hNN := sq_le hN8
  have htop : topIx (N : Int) = N * N - 1 := by unfold topIx; simp
  rw [htop] at hK
  conv => whnf
  repeat (first | (refine br.yes ?_; conv => whnf) | (refine br.no ?_; conv => whnf))
  refine c_l05Ends ⟨hN0, hN8⟩ ?_
  conv => whnf
  repeat (first | (refine br.yes ?_; conv => whnf) | (refine br.no ?_; conv => whnf))
  refine br_intro (fun h3 => ?_) (fun h3 => ?_)
  · conv => whnf
    repeat (first | (refine br.yes ?_; conv => whnf) | (refine br.no ?_; conv => whnf))
    rw [negR_2 hok h3] at hK
    exact ⟨rfl, hK⟩
  rw [negR_ok hok h3] at hK
  conv => whnf
  repeat (first | (refine br.yes ?_; conv => whnf) | (refine br.no ?_; conv => whnf))
  refine loop_inv (N * N) (fun k ts m => m = [⟨true, .st [AV.int N, .af 64 (mapTo (fun x => arF .sub .f32 t x) xs k)], 0⟩, ⟨true, .st [AV.int 0, .af 64 (List.replicate 64 0)], 0⟩] ∧ ts = [.junk, .flt .f32 t, .ptr 0 [], .junk, .ptr 1 [], AV.int 0, .junk, .junk, AV.int k, .junk, .junk, .junk, .junk, .junk, .junk, .junk, .junk, .junk, .junk, .junk, .junk, .junk, .junk, .junk, .junk, .junk, .junk, .junk, .junk, .junk, .junk, .junk, .junk, .junk, .junk, .junk, .junk, .junk, .junk, .junk, .junk, .junk, .junk, .junk, .junk, .junk]) _ _ ?hw trim_no ⟨by rw [mapTo_zero]; rfl, rfl⟩ ?_
  case hw =>
    repeat (first | exact weak_nil | refine weak_same ?_ | refine weak_junk ?_)
  rintro k hk ts m' ⟨rfl, rfl⟩ R hR
  conv => whnf
  repeat (first | (refine br.yes ?_; conv => whnf) | (refine br.no ?_; conv => whnf))
  rw [mul_nat (by omega) (by omega)]
  refine br_intro (fun h1 => ?_) (fun h1 => ?_)
  · have hk1 : k < N * N := lt_of_lss h1
    have hk64 : k < 64 := by omega
    conv => whnf
    repeat (first | (refine br.yes ?_; conv => whnf) | (refine br.no ?_; conv => whnf))
    refine ⟨side_in ⟨by omega, by omega⟩, ?_⟩
    conv => whnf
    repeat (first | (refine br.yes ?_; conv => whnf) | (refine br.no ?_; conv => whnf))
    refine ⟨side_in (by rw [toN_nat]; exact hk64), ?_⟩
    rw [toN_nat, nth_eq, mapTo_get]
    conv => whnf
    repeat (first | (refine br.yes ?_; conv => whnf) | (refine br.no ?_; conv => whnf))
    refine ⟨side_in ⟨by omega, by omega⟩, ?_⟩
    conv => whnf
    repeat (first | (refine br.yes ?_; conv => whnf) | (refine br.no ?_; conv => whnf))
    refine ⟨side_in (by rw [toN_nat]; exact hk64), ?_⟩
    conv => whnf
    repeat (first | (refine br.yes ?_; conv => whnf) | (refine br.no ?_; conv => whnf))
    rw [toN_nat, upd_eq, add_one (by omega)]
    by_cases hkx : k < xs.length
    · refine hR hk1 _ _ _ _ ?hw2 trim_no ⟨by rw [← mapTo_set (fun x => arF .sub .f32 t x) 0 hkx] <;> rfl, rfl⟩
      case hw2 =>
        repeat (first | exact weak_nil | refine weak_same ?_ | refine weak_junk ?_)
    · refine hR hk1 _ _ _ _ ?hw3 trim_no ⟨?_, rfl⟩
      case hw3 =>
        repeat (first | exact weak_nil | refine weak_same ?_ | refine weak_junk ?_)
      have e : (mapTo (fun x => arF .sub .f32 t x) xs k).set k (arF .sub .f32 t (xs.getD k 0)) = mapTo (fun x => arF .sub .f32 t x) xs (k + 1) := by
        rw [List.set_eq_of_length_le (by rw [mapTo_length]; omega)]
        unfold mapTo
        rw [List.take_of_length_le (by omega), List.take_of_length_le (by omega), List.drop_eq_nil_of_le (by omega), List.drop_eq_nil_of_le (by omega)]
      rw [← e] <;> rfl
  · have hk2 : k = N * N := Nat.le_antisymm hk (ge_of_lss h1)
    subst hk2
    unfold negA at hK
    simp only [Int.toNat_natCast] at hK
    conv => whnf
    repeat (first | (refine br.yes ?_; conv => whnf) | (refine br.no ?_; conv => whnf))
    exact ⟨rfl, hK⟩
theorem g_NegativeOf {a ra t x : Nat} {oa : Bool} (ha : getE m a = some ⟨oa, .flt .f32 t, ra⟩) (hK : K (.flt .f32 (arF .sub .f32 t x)) m) : CallLeaf Try.prog w0 97 [.flt .f32 x, .ptr a []] m K := by
  refine fn_go hmix h97 ?_
  conv => whnf
  repeat (first | (refine br.yes ?_; conv => whnf) | (refine br.no ?_; conv => whnf))
  rw [ha]
  conv => whnf
  repeat (first | (refine br.yes ?_; conv => whnf) | (refine br.no ?_; conv => whnf))
  exact hK
set_option maxRecDepth 20000 in
theorem rimpl_NegativeOf {s : Int} {xs : List Nat} {t : Nat} (hK : K (pc (negIm s xs t)) m) : CallLeaf Try.prog w0 60 [.st [AV.int s, .af 64 xs], .flt .f32 t] m K := call_nil rfl fun w0 => by
  unfold negIm at hK
  refine fn_go hmix h60 ?_
  conv => whnf
  repeat (first | (refine br.yes ?_; conv => whnf) | (refine br.no ?_; conv => whnf))
  refine c_IsPicture ?_
  conv => whnf
  repeat (first | (refine br.yes ?_; conv => whnf) | (refine br.no ?_; conv => whnf))
  refine br_intro (fun h => ?_) (fun h => ?_)
  · conv => whnf
    repeat (first | (refine br.yes ?_; conv => whnf) | (refine br.no ?_; conv => whnf))
    rw [negR_1 (by rw [notB_eq] at h; simp at h; simp [h])] at hK
    exact ⟨rfl, hK⟩
  conv => whnf
  repeat (first | (refine br.yes ?_; conv => whnf) | (refine br.no ?_; conv => whnf))
  refine c_isNumber ?_
  conv => whnf
  repeat (first | (refine br.yes ?_; conv => whnf) | (refine br.no ?_; conv => whnf))
  refine br_intro (fun h2 => ?_) (fun h2 => ?_)
  · conv => whnf
    repeat (first | (refine br.yes ?_; conv => whnf) | (refine br.no ?_; conv => whnf))
    rw [negR_1 (by rw [notB_eq] at h2; simp at h2; simp [h2])] at hK
    exact ⟨rfl, hK⟩
  have hok : (picOk s xs && fine t) = true := by rw [notB_eq] at h h2; simp at h h2; simp [h, h2]
  obtain ⟨N, rfl, hN8, hN0⟩ := pic_nat (xs := xs) (s := s) (by rw [notB_eq] at h; simpa using h)
  have htop : topIx (N : Int) = N * N - 1 := by unfold topIx; simp
  rw [htop] at hK
  conv => whnf
  repeat (first | (refine br.yes ?_; conv => whnf) | (refine br.no ?_; conv => whnf))
  refine q_keep (.flt .f32 (topM xs (N * N - 1))) (fun K' h => c_top ⟨hN0, hN8⟩ h) ?_
  conv => whnf
  repeat (first | (refine br.yes ?_; conv => whnf) | (refine br.no ?_; conv => whnf))
  refine br_intro (fun h3 => ?_) (fun h3 => ?_)
  · conv => whnf
    repeat (first | (refine br.yes ?_; conv => whnf) | (refine br.no ?_; conv => whnf))
    rw [negR_2 hok h3] at hK
    exact ⟨rfl, hK⟩
  rw [negR_ok hok h3] at hK
  conv => whnf
  repeat (first | (refine br.yes ?_; conv => whnf) | (refine br.no ?_; conv => whnf))
  refine c_levelsBy (F := fun x => arF .sub .f32 t x) ⟨hN0, hN8⟩ (by kernel_rfl) (fun ext x K hK => g_NegativeOf (a := 1) rfl hK) ?_
  conv => whnf
  repeat (first | (refine br.yes ?_; conv => whnf) | (refine br.no ?_; conv => whnf))
  refine c_limitPicture ?_
  unfold pc at hK ⊢
  have e : negB N xs t = tabF (fun k => arF .sub .f32 t (xs.getD k 0)) (N * N) := rfl
  rw [e] at hK
  generalize toldR (N : Int) (tabF (fun k => arF .sub .f32 t (xs.getD k 0)) (N * N)) = R at hK ⊢
  conv => whnf
  repeat (first | (refine br.yes ?_; conv => whnf) | (refine br.no ?_; conv => whnf))
  exact ⟨rfl, hK⟩
set_option maxRecDepth 20000 in
theorem ospec_NegativeOf {s : Int} {xs : List Nat} {t : Nat} (hx : xs.length = 64) (hK : K (pc (plusP (negSp s xs t))) m) : CallLeaf Try.prog w0 28 [.st [AV.int s, .af 64 xs], .flt .f32 t] m K := call_nil rfl fun w0 => by
  refine fn_go hmix h28 ?_
  conv => whnf
  repeat (first | (refine br.yes ?_; conv => whnf) | (refine br.no ?_; conv => whnf))
  refine rspec_NegativeOf ?_
  have hl : (negSp s xs t).2.1.length = 64 := negR_length (by show (negA s xs t).length = 64; unfold negA; rw [mapTo_length]; exact hx)
  unfold pc plusP at hK
  unfold pc
  generalize negSp s xs t = R at hK hl ⊢
  conv => whnf
  repeat (first | (refine br.yes ?_; conv => whnf) | (refine br.no ?_; conv => whnf))
  refine c_l01PlusPicture hl ?_
  conv => whnf
  repeat (first | (refine br.yes ?_; conv => whnf) | (refine br.no ?_; conv => whnf))
  exact ⟨rfl, hK⟩
set_option maxRecDepth 20000 in
theorem oimpl_NegativeOf {s : Int} {xs : List Nat} {t : Nat} (hK : K (pc (plusP (negIm s xs t))) m) : CallLeaf Try.prog w0 29 [.st [AV.int s, .af 64 xs], .flt .f32 t] m K := call_nil rfl fun w0 => by
  refine fn_go hmix h29 ?_
  conv => whnf
  repeat (first | (refine br.yes ?_; conv => whnf) | (refine br.no ?_; conv => whnf))
  refine rimpl_NegativeOf ?_
  have hl : (negIm s xs t).2.1.length = 64 := negR_length (toldR_length (tabF_length _ _))
  unfold pc plusP at hK
  unfold pc
  generalize negIm s xs t = R at hK hl ⊢
  conv => whnf
  repeat (first | (refine br.yes ?_; conv => whnf) | (refine br.no ?_; conv => whnf))
  refine c_plainPicture hl ?_
  conv => whnf
  repeat (first | (refine br.yes ?_; conv => whnf) | (refine br.no ?_; conv => whnf))
  exact ⟨rfl, hK⟩
set_option maxRecDepth 20000 in
theorem law_NegativeOf {s : Int} {xs : List Nat} {t : Nat} (hx : xs.length = 64) (_ : ∀ x ∈ xs, WfF x) (_ : WfF t) (hK : ∀ m, K (AV.bool true) m) : CallLeaf Try.prog w0 9 [.st [AV.int s, .af 64 xs], .flt .f32 t] [] K := by
  refine fn_go hmix h9 ?_
  conv => whnf
  repeat (first | (refine br.yes ?_; conv => whnf) | (refine br.no ?_; conv => whnf))
  obtain ⟨R, hR⟩ : ∃ R, R = plusP (negSp s xs t) := ⟨_, rfl⟩
  refine c_toPicture hx ?_
  conv => whnf
  repeat (first | (refine br.yes ?_; conv => whnf) | (refine br.no ?_; conv => whnf))
  refine ospec_NegativeOf hx ?_
  rw [← hR]
  unfold pc
  conv => whnf
  repeat (first | (refine br.yes ?_; conv => whnf) | (refine br.no ?_; conv => whnf))
  refine c_toPicture hx ?_
  conv => whnf
  repeat (first | (refine br.yes ?_; conv => whnf) | (refine br.no ?_; conv => whnf))
  refine oimpl_NegativeOf ?_
  rw [← neg_same hx, ← hR]
  unfold pc
  conv => whnf
  repeat (first | (refine br.yes ?_; conv => whnf) | (refine br.no ?_; conv => whnf))
  refine c_eqPicture ?_
  conv => whnf
  repeat (first | (refine br.yes ?_; conv => whnf) | (refine br.no ?_; conv => whnf))
  refine br_false (by rw [notB_eq]; rfl) ?_
  conv => whnf
  repeat (first | (refine br.yes ?_; conv => whnf) | (refine br.no ?_; conv => whnf))
  refine br_false (neq_self _) ?_
  conv => whnf
  repeat (first | (refine br.yes ?_; conv => whnf) | (refine br.no ?_; conv => whnf))
  exact hK _
end
end Go.Proofs.Ytfoflddjcijaeaa
