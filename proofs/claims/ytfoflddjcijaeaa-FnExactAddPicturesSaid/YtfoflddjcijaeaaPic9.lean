/- Contracts of functions, by a walk each. -/
import Derived.Test.YtfoflddjcijaeaaPic5
namespace Go.Proofs.Ytfoflddjcijaeaa
open Go Go.Fw
section
variable {w0 : World} {m : MS} {K : AV → MS → Prop}
/-! two pictures' sum -/
theorem zl_add {x y : Nat} (hx : zl x) (hy : zl y) : zl (arF .add .f32 x y) := by
  obtain ⟨s, i, hx⟩ := zl_iff.1 hx
  obtain ⟨t, j, hy⟩ := zl_iff.1 hy
  have h : FloatKind.f32.format.add x y = some (if (s && t) then 2147483648 else 0) := by
    show Ieee.single.add x y = _
    unfold Ieee.Format.add
    rw [hx, hy]
    have h0 : ∀ (b : Bool) (a : Nat), Ieee.signed b 0 a = 0 := fun b a => by unfold Ieee.signed; simp
    simp only [Ieee.Datum.sum, h0, Option.map_some]
    have e : (Int.natAbs (0 + 0)) = 0 := rfl
    rw [e]
    simp only [Int.add_zero, if_true]
    rw [write_zero]
  unfold arF
  simp only [h]
  exact zl_word _
def zipTo (f : Nat → Nat) (xs : List Nat) (n : Nat) : List Nat := (List.range 64).map fun i => if i < n then f i else xs.getD i 0
theorem zipTo_length (f : Nat → Nat) (xs : List Nat) (n : Nat) : (zipTo f xs n).length = 64 := by simp [zipTo]
theorem zipTo_getD {f : Nat → Nat} {xs : List Nat} {n k : Nat} (hk : k < 64) : (zipTo f xs n).getD k 0 = if k < n then f k else xs.getD k 0 := by
  unfold zipTo
  simp [hk]
theorem zipTo_get {f : Nat → Nat} {xs : List Nat} {k : Nat} (hk : k < 64) : (zipTo f xs k).getD k 0 = xs.getD k 0 := by
  rw [zipTo_getD hk, if_neg (by omega)]
theorem zipTo_zero {f : Nat → Nat} {xs : List Nat} (hx : xs.length = 64) : zipTo f xs 0 = xs := by
  refine ext_getD (d := 0) (by rw [zipTo_length, hx]) fun p hp => ?_
  rw [zipTo_length] at hp
  rw [zipTo_getD hp, if_neg (by omega)]
theorem zipTo_set {f : Nat → Nat} {xs : List Nat} {k : Nat} (hk : k < 64) : (zipTo f xs k).set k (f k) = zipTo f xs (k + 1) := by
  refine ext_getD (d := 0) (by rw [List.length_set, zipTo_length, zipTo_length]) fun p hp => ?_
  rw [List.length_set, zipTo_length] at hp
  rw [zipTo_getD hp]
  by_cases hpk : k = p
  · subst hpk
    rw [getD_set_self (by rw [zipTo_length]; exact hk), if_pos (by omega)]
  · rw [getD_set_other hpk, zipTo_getD hp]
    by_cases h : p < k
    · rw [if_pos h, if_pos (by omega)]
    · rw [if_neg h, if_neg (by omega)]
def addF (xs ys : List Nat) (k : Nat) : Nat := arF .add .f32 (xs.getD k 0) (ys.getD k 0)
def addR (A : List Nat) (s1 : Int) (xs : List Nat) (s2 : Int) (ys : List Nat) : Int × List Nat × Int := if twoCode s1 xs s2 ys = 0 then toldR s1 A else zeroP (twoCode s1 xs s2 ys)
theorem addR_no {A : List Nat} {s1 s2 : Int} {xs ys : List Nat} (h : twoCode s1 xs s2 ys ≠ 0) : addR A s1 xs s2 ys = zeroP (twoCode s1 xs s2 ys) := by simp [addR, h]
theorem addR_ok {A : List Nat} {s1 s2 : Int} {xs ys : List Nat} (h : twoCode s1 xs s2 ys = 0) : addR A s1 xs s2 ys = toldR s1 A := by simp [addR, h]
theorem addR_length {A : List Nat} {s1 s2 : Int} {xs ys : List Nat} (h : A.length = 64) : (addR A s1 xs s2 ys).2.1.length = 64 := by
  unfold addR
  split
  · exact toldR_length h
  · rfl
def addA (xs ys : List Nat) : List Nat := zipTo (addF xs ys) xs 64
def addB (s : Int) (xs ys : List Nat) : List Nat := tabF (addF xs ys) (s.toNat * s.toNat)
theorem add_same {s1 s2 : Int} {xs ys : List Nat} : plusP (addR (addA xs ys) s1 xs s2 ys) = plusP (addR (addB s1 xs ys) s1 xs s2 ys) := by
  by_cases hc : twoCode s1 xs s2 ys = 0
  · rw [addR_ok hc, addR_ok hc]
    obtain ⟨h1, h2, rfl⟩ := two_ok hc
    obtain ⟨N, rfl, hN8, hN0⟩ := pic_nat h1
    refine told_same (zipTo_length _ _ _) (tabF_length _ _) fun k hk => ?_
    unfold addA addB
    rw [zipTo_getD hk, if_pos hk, tabF_get hk]
    simp only [Int.toNat_natCast]
    by_cases h : k < N * N
    · left; rw [if_pos h]
    · right; rw [if_neg h]
      exact ⟨zl_add (pic_zero h1 hN8 hk (by omega)) (pic_zero h2 hN8 hk (by omega)), zl_zero⟩
  · rw [addR_no hc, addR_no hc]
set_option maxRecDepth 20000 in
set_option maxHeartbeats 1600000 in
theorem rspec_AddPictures {s1 s2 : Int} {xs ys : List Nat} (hx : xs.length = 64) (hK : K (pc (addR (addA xs ys) s1 xs s2 ys)) m) : CallLeaf Try.prog w0 57 [.st [AV.int s1, .af 64 xs], .st [AV.int s2, .af 64 ys]] m K := call_nil rfl fun w0 => by
  refine fn_go hmix h57 ?_
  conv => whnf
  repeat (first | (refine br.yes ?_; conv => whnf) | (refine br.no ?_; conv => whnf))
  refine c_l05Two ?_
  by_cases hc : twoCode s1 xs s2 ys = 0
  · rw [addR_ok hc] at hK
    rw [hc]
    conv => whnf
    repeat (first | (refine br.yes ?_; conv => whnf) | (refine br.no ?_; conv => whnf))
    refine br_false (neq_self _) ?_
    conv => whnf
    repeat (first | (refine br.yes ?_; conv => whnf) | (refine br.no ?_; conv => whnf))
    refine loop_inv 64 (fun k ts m => m = [⟨true, .st [AV.int s1, .af 64 (zipTo (addF xs ys) xs k)], 0⟩, ⟨true, .st [AV.int s2, .af 64 ys], 0⟩, ⟨true, .st [AV.int 0, .af 64 (List.replicate 64 0)], 0⟩] ∧ ts = [.junk, .junk, .ptr 0 [], .ptr 1 [], .ptr 2 [], AV.int 0, .junk, AV.int k, .junk, .junk, .junk, .junk, .junk, .junk, .junk, .junk, .junk, .junk, .junk, .junk, .junk, .junk, .junk, .junk, .junk, .junk, .junk, .junk, .junk, .junk, .junk, .junk, .junk, .junk, .junk]) _ _ ?hw trim_no ⟨by rw [zipTo_zero hx] <;> rfl, rfl⟩ ?_
    case hw =>
      repeat (first | exact weak_nil | refine weak_same ?_ | refine weak_junk ?_)
    rintro k hk ts m' ⟨rfl, rfl⟩ R hR
    conv => whnf
    repeat (first | (refine br.yes ?_; conv => whnf) | (refine br.no ?_; conv => whnf))
    refine br_intro (fun h1 => ?_) (fun h1 => ?_)
    · have hk1 : k < 64 := lt_of_lss (n := 64) h1
      conv => whnf
      repeat (first | (refine br.yes ?_; conv => whnf) | (refine br.no ?_; conv => whnf))
      refine ⟨side_in ⟨by omega, by omega⟩, ?_⟩
      conv => whnf
      repeat (first | (refine br.yes ?_; conv => whnf) | (refine br.no ?_; conv => whnf))
      refine ⟨side_in (by rw [toN_nat]; exact hk1), ?_⟩
      rw [toN_nat, nth_eq, zipTo_get hk1]
      conv => whnf
      repeat (first | (refine br.yes ?_; conv => whnf) | (refine br.no ?_; conv => whnf))
      refine ⟨side_in ⟨by omega, by omega⟩, ?_⟩
      conv => whnf
      repeat (first | (refine br.yes ?_; conv => whnf) | (refine br.no ?_; conv => whnf))
      refine ⟨side_in (by rw [toN_nat]; exact hk1), ?_⟩
      rw [toN_nat, nth_eq]
      conv => whnf
      repeat (first | (refine br.yes ?_; conv => whnf) | (refine br.no ?_; conv => whnf))
      refine ⟨side_in ⟨by omega, by omega⟩, ?_⟩
      conv => whnf
      repeat (first | (refine br.yes ?_; conv => whnf) | (refine br.no ?_; conv => whnf))
      refine ⟨side_in (by rw [toN_nat]; exact hk1), ?_⟩
      conv => whnf
      repeat (first | (refine br.yes ?_; conv => whnf) | (refine br.no ?_; conv => whnf))
      rw [toN_nat, upd_eq, add_one (by omega)]
      refine hR hk1 _ _ _ _ ?hw2 trim_no ⟨by rw [← zipTo_set hk1] <;> rfl, rfl⟩
      case hw2 =>
        repeat (first | exact weak_nil | refine weak_same ?_ | refine weak_junk ?_)
    · have hk2 : k = 64 := by have := ge_of_lss (n := 64) h1; omega
      subst hk2
      conv => whnf
      repeat (first | (refine br.yes ?_; conv => whnf) | (refine br.no ?_; conv => whnf))
      refine c_l05Told ?_
      unfold pc at hK ⊢
      unfold addA at hK
      generalize toldR s1 (zipTo (addF xs ys) xs 64) = R at hK ⊢
      conv => whnf
      repeat (first | (refine br.yes ?_; conv => whnf) | (refine br.no ?_; conv => whnf))
      exact ⟨rfl, hK⟩
  · rw [addR_no hc] at hK
    conv => whnf
    repeat (first | (refine br.yes ?_; conv => whnf) | (refine br.no ?_; conv => whnf))
    refine br_true (by rw [cmI_neq]; simpa using hc) ?_
    conv => whnf
    repeat (first | (refine br.yes ?_; conv => whnf) | (refine br.no ?_; conv => whnf))
    exact ⟨rfl, hK⟩
set_option maxRecDepth 20000 in
theorem g_AddPictures {a b ra rb k : Nat} {oa ob : Bool} {y x : Int} {s1 s2 : Int} {xs ys : List Nat} (ha : getE m a = some ⟨oa, .st [AV.int s1, .af 64 xs], ra⟩) (hb : getE m b = some ⟨ob, .st [AV.int s2, .af 64 ys], rb⟩) (hk : k < 64)
    (hK : K (.flt .f32 (addF xs ys k)) m) : CallLeaf Try.prog w0 96 [AV.int y, AV.int x, AV.int k, .ptr a [], .ptr b []] m K := by
  refine fn_go hmix h96 ?_
  conv => whnf
  repeat (first | (refine br.yes ?_; conv => whnf) | (refine br.no ?_; conv => whnf))
  refine ⟨side_in ⟨by omega, by omega⟩, ?_⟩
  conv => whnf
  repeat (first | (refine br.yes ?_; conv => whnf) | (refine br.no ?_; conv => whnf))
  rw [ha]
  conv => whnf
  repeat (first | (refine br.yes ?_; conv => whnf) | (refine br.no ?_; conv => whnf))
  refine ⟨side_in (by rw [toN_nat]; exact hk), ?_⟩
  rw [toN_nat, nth_eq]
  conv => whnf
  repeat (first | (refine br.yes ?_; conv => whnf) | (refine br.no ?_; conv => whnf))
  refine ⟨side_in ⟨by omega, by omega⟩, ?_⟩
  conv => whnf
  repeat (first | (refine br.yes ?_; conv => whnf) | (refine br.no ?_; conv => whnf))
  rw [hb]
  conv => whnf
  repeat (first | (refine br.yes ?_; conv => whnf) | (refine br.no ?_; conv => whnf))
  refine ⟨side_in (by rw [toN_nat]; exact hk), ?_⟩
  rw [toN_nat, nth_eq]
  conv => whnf
  repeat (first | (refine br.yes ?_; conv => whnf) | (refine br.no ?_; conv => whnf))
  exact hK
set_option maxRecDepth 20000 in
theorem rimpl_AddPictures {s1 s2 : Int} {xs ys : List Nat} (hK : K (pc (addR (addB s1 xs ys) s1 xs s2 ys)) m) : CallLeaf Try.prog w0 58 [.st [AV.int s1, .af 64 xs], .st [AV.int s2, .af 64 ys]] m K := call_nil rfl fun w0 => by
  refine fn_go hmix h58 ?_
  conv => whnf
  repeat (first | (refine br.yes ?_; conv => whnf) | (refine br.no ?_; conv => whnf))
  refine c_arePictures ?_
  by_cases hc : twoCode s1 xs s2 ys = 0
  · obtain ⟨h1, h2, rfl⟩ := two_ok hc
    obtain ⟨N, rfl, hN8, hN0⟩ := pic_nat h1
    have hNN := sq_le hN8
    rw [addR_ok hc] at hK
    rw [hc]
    conv => whnf
    repeat (first | (refine br.yes ?_; conv => whnf) | (refine br.no ?_; conv => whnf))
    refine br_false (neq_self _) ?_
    conv => whnf
    repeat (first | (refine br.yes ?_; conv => whnf) | (refine br.no ?_; conv => whnf))
    refine c_pictureBy ⟨hN0, hN8⟩ (by kernel_rfl) (val := addF xs ys) (fun ext k K hk hK => g_AddPictures (a := 0) (b := 1) rfl rfl (by omega) hK) ?_
    conv => whnf
    repeat (first | (refine br.yes ?_; conv => whnf) | (refine br.no ?_; conv => whnf))
    refine c_limitPicture ?_
    unfold pc at hK ⊢
    have e : addB N xs ys = tabF (addF xs ys) (N * N) := rfl
    rw [e] at hK
    generalize toldR (N : Int) (tabF (addF xs ys) (N * N)) = R at hK ⊢
    conv => whnf
    repeat (first | (refine br.yes ?_; conv => whnf) | (refine br.no ?_; conv => whnf))
    exact ⟨rfl, hK⟩
  · rw [addR_no hc] at hK
    conv => whnf
    repeat (first | (refine br.yes ?_; conv => whnf) | (refine br.no ?_; conv => whnf))
    refine br_true (by rw [cmI_neq]; simpa using hc) ?_
    conv => whnf
    repeat (first | (refine br.yes ?_; conv => whnf) | (refine br.no ?_; conv => whnf))
    exact ⟨rfl, hK⟩
set_option maxRecDepth 20000 in
theorem ospec_AddPictures {s1 s2 : Int} {xs ys : List Nat} (hx : xs.length = 64) (hK : K (pc (plusP (addR (addA xs ys) s1 xs s2 ys))) m) : CallLeaf Try.prog w0 26 [.st [AV.int s1, .af 64 xs], .st [AV.int s2, .af 64 ys]] m K := call_nil rfl fun w0 => by
  refine fn_go hmix h26 ?_
  conv => whnf
  repeat (first | (refine br.yes ?_; conv => whnf) | (refine br.no ?_; conv => whnf))
  refine rspec_AddPictures hx ?_
  have hl := addR_length (A := addA xs ys) (s1 := s1) (s2 := s2) (xs := xs) (ys := ys) (zipTo_length _ _ _)
  unfold pc plusP at hK
  unfold pc
  generalize addR (addA xs ys) s1 xs s2 ys = R at hK hl ⊢
  conv => whnf
  repeat (first | (refine br.yes ?_; conv => whnf) | (refine br.no ?_; conv => whnf))
  refine c_l01PlusPicture hl ?_
  conv => whnf
  repeat (first | (refine br.yes ?_; conv => whnf) | (refine br.no ?_; conv => whnf))
  exact ⟨rfl, hK⟩
set_option maxRecDepth 20000 in
theorem oimpl_AddPictures {s1 s2 : Int} {xs ys : List Nat} (hK : K (pc (plusP (addR (addB s1 xs ys) s1 xs s2 ys))) m) : CallLeaf Try.prog w0 27 [.st [AV.int s1, .af 64 xs], .st [AV.int s2, .af 64 ys]] m K := call_nil rfl fun w0 => by
  refine fn_go hmix h27 ?_
  conv => whnf
  repeat (first | (refine br.yes ?_; conv => whnf) | (refine br.no ?_; conv => whnf))
  refine rimpl_AddPictures ?_
  have hl := addR_length (A := addB s1 xs ys) (s1 := s1) (s2 := s2) (xs := xs) (ys := ys) (tabF_length _ _)
  unfold pc plusP at hK
  unfold pc
  generalize addR (addB s1 xs ys) s1 xs s2 ys = R at hK hl ⊢
  conv => whnf
  repeat (first | (refine br.yes ?_; conv => whnf) | (refine br.no ?_; conv => whnf))
  refine c_plainPicture hl ?_
  conv => whnf
  repeat (first | (refine br.yes ?_; conv => whnf) | (refine br.no ?_; conv => whnf))
  exact ⟨rfl, hK⟩
theorem q_keepS {f : Nat} {args : List AV} {K : AV → Prop} (v : AV) (h : ∀ (m : MS) (K' : AV → MS → Prop), K' v m → CallLeaf Try.prog w0 f args m K') (hK : K v) : QLeafS Try.prog w0 f args m K :=
  ⟨v, fun x => h _ _ ⟨rfl, rfl⟩, hK⟩
set_option maxRecDepth 20000 in
theorem law_AddPictures {s1 s2 : Int} {xs ys : List Nat} (hx : xs.length = 64) (_ : ∀ x ∈ xs, WfF x) (hy : ys.length = 64) (_ : ∀ x ∈ ys, WfF x) (hK : ∀ m, K (AV.bool true) m) : CallLeaf Try.prog w0 8 [.st [AV.int s1, .af 64 xs], .st [AV.int s2, .af 64 ys]] [] K := by
  refine fn_go hmix h8 ?_
  conv => whnf
  repeat (first | (refine br.yes ?_; conv => whnf) | (refine br.no ?_; conv => whnf))
  obtain ⟨R, hR⟩ : ∃ R, R = plusP (addR (addA xs ys) s1 xs s2 ys) := ⟨_, rfl⟩
  refine q_keepS (.st [AV.int s1, .af 64 xs]) (fun m K' h => c_toPicture hx h) ?_
  conv => whnf
  repeat (first | (refine br.yes ?_; conv => whnf) | (refine br.no ?_; conv => whnf))
  refine q_keepS (.st [AV.int s2, .af 64 ys]) (fun m K' h => c_toPicture hy h) ?_
  conv => whnf
  repeat (first | (refine br.yes ?_; conv => whnf) | (refine br.no ?_; conv => whnf))
  refine q_keepS (pc R) (fun m K' h => ospec_AddPictures hx (by rw [← hR]; exact h)) ?_
  unfold pc
  conv => whnf
  repeat (first | (refine br.yes ?_; conv => whnf) | (refine br.no ?_; conv => whnf))
  refine ⟨⟨_, rfl⟩, ?_⟩
  conv => whnf
  repeat (first | (refine br.yes ?_; conv => whnf) | (refine br.no ?_; conv => whnf))
  refine q_keepS (.st [AV.int s1, .af 64 xs]) (fun m K' h => c_toPicture hx h) ?_
  conv => whnf
  repeat (first | (refine br.yes ?_; conv => whnf) | (refine br.no ?_; conv => whnf))
  refine q_keepS (.st [AV.int s2, .af 64 ys]) (fun m K' h => c_toPicture hy h) ?_
  conv => whnf
  repeat (first | (refine br.yes ?_; conv => whnf) | (refine br.no ?_; conv => whnf))
  refine q_keepS (pc R) (fun m K' h => oimpl_AddPictures (by rw [← add_same, ← hR]; exact h)) ?_
  unfold pc
  conv => whnf
  repeat (first | (refine br.yes ?_; conv => whnf) | (refine br.no ?_; conv => whnf))
  refine ⟨⟨_, rfl⟩, ?_⟩
  conv => whnf
  repeat (first | (refine br.yes ?_; conv => whnf) | (refine br.no ?_; conv => whnf))
  refine c_eqPicture ?_
  conv => whnf
  repeat (first | (refine br.yes ?_; conv => whnf) | (refine br.no ?_; conv => whnf))
  refine br_false (by rw [notB_eq]; rfl) ?_
  conv => whnf
  repeat (first | (refine br.yes ?_; conv => whnf) | (refine br.no ?_; conv => whnf))
  refine br_false (neq_self _) ?_
  conv => whnf
  repeat (first | (refine br.yes ?_; conv => whnf) | (refine br.no ?_; conv => whnf))
  exact hK _
end
end Go.Proofs.Ytfoflddjcijaeaa
