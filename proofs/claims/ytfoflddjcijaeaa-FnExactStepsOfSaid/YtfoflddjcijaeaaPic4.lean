/- Contracts of functions, by a walk each. -/
import Derived.Test.YtfoflddjcijaeaaPic3
namespace Go.Proofs.Ytfoflddjcijaeaa
open Go Go.Fw
section
variable {w0 : World} {m : MS} {K : AV → MS → Prop}
/-! a picture scaled -/
def scaR (r : Nat) (s : Int) (xs : List Nat) (A : List Nat) : Int × List Nat × Int :=
  if (fine r && picOk s xs) = true then (if cmF .lss .f32 r 0 = true then zeroP 2 else toldR s A) else zeroP 1
theorem scaR_no {r : Nat} {s : Int} {xs A : List Nat} (h : (fine r && picOk s xs) = false) : scaR r s xs A = zeroP 1 := by simp [scaR, h]
theorem scaR_neg {r : Nat} {s : Int} {xs A : List Nat} (h : (fine r && picOk s xs) = true) (h2 : cmF .lss .f32 r 0 = true) : scaR r s xs A = zeroP 2 := by simp only [scaR, h, h2, if_true]
theorem scaR_ok {r : Nat} {s : Int} {xs A : List Nat} (h : (fine r && picOk s xs) = true) (h2 : cmF .lss .f32 r 0 = false) : scaR r s xs A = toldR s A := by simp [scaR, h, h2]
theorem scaR_length {r : Nat} {s : Int} {xs A : List Nat} (h : A.length = 64) : (scaR r s xs A).2.1.length = 64 := by
  unfold scaR
  split
  · split
    · rfl
    · exact toldR_length h
  · rfl
def scaA (r : Nat) (xs : List Nat) : List Nat := xs.map fun x => arF .mul .f32 r x
def scaB (r : Nat) (s : Int) (xs : List Nat) : List Nat := tabF (fun k => arF .mul .f32 r (xs.getD k 0)) (s.toNat * s.toNat)
theorem sca_same {r : Nat} {s : Int} {xs : List Nat} (hx : xs.length = 64) : plusP (scaR r s xs (scaA r xs)) = plusP (scaR r s xs (scaB r s xs)) := by
  unfold scaR
  split
  · rename_i h
    split
    · rfl
    · rw [Bool.and_eq_true] at h
      obtain ⟨N, rfl, hN8, hN0⟩ := pic_nat h.2
      refine told_same (by simp [scaA, hx]) (tabF_length _ _) (fun k hk => ?_)
      have h1 : (scaA r xs).getD k 0 = arF .mul .f32 r (xs.getD k 0) := by
        unfold scaA
        simp [hx, hk]
      have h2 := tabF_get (val := fun k => arF .mul .f32 r (xs.getD k 0)) (t := N * N) hk
      unfold scaB
      rw [h1]
      show _ ∨ zl _ ∧ zl ((tabF (fun k => arF .mul .f32 r (xs.getD k 0)) (N * N)).getD k 0)
      show _ = (tabF (fun k => arF .mul .f32 r (xs.getD k 0)) (N * N)).getD k 0 ∨ _
      rw [h2]
      by_cases hkN : k < N * N
      · left; rw [if_pos hkN]
      · right
        rw [if_neg hkN]
        exact ⟨zl_mul (fine_iff.1 h.1) (pic_zero h.2 hN8 hk (by omega)), zl_zero⟩
  · rfl
set_option maxRecDepth 20000 in
theorem rspec_ScalePicture {r : Nat} {s : Int} {xs : List Nat} (hx : xs.length = 64) (hK : K (pc (scaR r s xs (scaA r xs))) m) : CallLeaf Try.prog w0 50 [.flt .f32 r, .st [AV.int s, .af 64 xs]] m K := call_nil rfl fun w0 => by
  refine fn_go hmix h50 ?_
  conv => whnf
  repeat (first | (refine br.yes ?_; conv => whnf) | (refine br.no ?_; conv => whnf))
  refine c_l01Fine ?_
  conv => whnf
  repeat (first | (refine br.yes ?_; conv => whnf) | (refine br.no ?_; conv => whnf))
  refine br_intro (fun h => ?_) (fun h => ?_)
  · conv => whnf
    repeat (first | (refine br.yes ?_; conv => whnf) | (refine br.no ?_; conv => whnf))
    rw [scaR_no (by rw [notB_eq] at h; simp at h; simp [h])] at hK
    exact ⟨rfl, hK⟩
  conv => whnf
  repeat (first | (refine br.yes ?_; conv => whnf) | (refine br.no ?_; conv => whnf))
  refine c_l01Shown ?_
  conv => whnf
  repeat (first | (refine br.yes ?_; conv => whnf) | (refine br.no ?_; conv => whnf))
  refine br_intro (fun h2 => ?_) (fun h2 => ?_)
  · conv => whnf
    repeat (first | (refine br.yes ?_; conv => whnf) | (refine br.no ?_; conv => whnf))
    rw [scaR_no (by rw [notB_eq] at h2; simp at h2; simp [h2])] at hK
    exact ⟨rfl, hK⟩
  conv => whnf
  repeat (first | (refine br.yes ?_; conv => whnf) | (refine br.no ?_; conv => whnf))
  have hok : (fine r && picOk s xs) = true := by rw [notB_eq] at h h2; simp at h h2; simp [h, h2]
  refine br_intro (fun h3 => ?_) (fun h3 => ?_)
  · conv => whnf
    repeat (first | (refine br.yes ?_; conv => whnf) | (refine br.no ?_; conv => whnf))
    rw [scaR_neg hok h3] at hK
    exact ⟨rfl, hK⟩
  conv => whnf
  repeat (first | (refine br.yes ?_; conv => whnf) | (refine br.no ?_; conv => whnf))
  rw [scaR_ok hok h3] at hK
  refine loop_inv 64 (fun k ts m => m = [⟨true, .st [AV.int s, .af 64 (mapTo (fun x => arF .mul .f32 r x) xs k)], 0⟩, ⟨true, .st [AV.int 0, .af 64 (List.replicate 64 0)], 0⟩] ∧ ts = [.flt .f32 r, .junk, .junk, .ptr 0 [], .ptr 1 [], AV.int 0, AV.int k, .junk, .junk, .junk, .junk, .junk, .junk, .junk, .junk, .junk, .junk, .junk, .junk, .junk, .junk, .junk, .junk, .junk, .junk, .junk, .junk, .junk, .junk, .junk, .junk, .junk, .junk, .junk, .junk, .junk, .junk, .junk]) _ _ ?hw trim_no ⟨by rw [mapTo_zero]; rfl, rfl⟩ ?_
  case hw =>
    repeat (first | exact weak_nil | refine weak_same ?_ | refine weak_junk ?_)
  rintro k hk ts m' ⟨rfl, rfl⟩ R hR
  conv => whnf
  repeat (first | (refine br.yes ?_; conv => whnf) | (refine br.no ?_; conv => whnf))
  refine br_intro (fun h1 => ?_) (fun h1 => ?_)
  · have hk1 : k < 64 := lt_of_lss (n := 64) h1
    conv => whnf
    repeat (first | (refine br.yes ?_; conv => whnf) | (refine br.no ?_; conv => whnf))
    refine ⟨side_in ⟨by omega, by omega⟩, ?_⟩
    conv => whnf
    repeat (first | (refine br.yes ?_; conv => whnf) | (refine br.no ?_; conv => whnf))
    refine ⟨side_in (by rw [toN_nat]; exact hk1), ?_⟩
    rw [toN_nat, nth_eq, mapTo_get]
    conv => whnf
    repeat (first | (refine br.yes ?_; conv => whnf) | (refine br.no ?_; conv => whnf))
    refine ⟨side_in ⟨by omega, by omega⟩, ?_⟩
    conv => whnf
    repeat (first | (refine br.yes ?_; conv => whnf) | (refine br.no ?_; conv => whnf))
    refine ⟨side_in (by rw [toN_nat]; exact hk1), ?_⟩
    conv => whnf
    repeat (first | (refine br.yes ?_; conv => whnf) | (refine br.no ?_; conv => whnf))
    rw [toN_nat, upd_eq, add_one (by omega)]
    refine hR hk1 _ _ _ _ ?hw2 trim_no ⟨by rw [← mapTo_set (fun x => arF .mul .f32 r x) 0 (by omega)] <;> rfl, rfl⟩
    case hw2 =>
      repeat (first | exact weak_nil | refine weak_same ?_ | refine weak_junk ?_)
  · have hk2 : k = 64 := by have := ge_of_lss (n := 64) h1; omega
    subst hk2
    conv => whnf
    repeat (first | (refine br.yes ?_; conv => whnf) | (refine br.no ?_; conv => whnf))
    rw [mapTo_all _ hx]
    refine c_l05Told ?_
    unfold pc at hK ⊢
    unfold scaA at hK
    generalize toldR s (xs.map fun x => arF .mul .f32 r x) = R at hK ⊢
    conv => whnf
    repeat (first | (refine br.yes ?_; conv => whnf) | (refine br.no ?_; conv => whnf))
    exact ⟨rfl, hK⟩
theorem g_ScalePicture {a ra r x : Nat} {oa : Bool} (ha : getE m a = some ⟨oa, .flt .f32 r, ra⟩) (hK : K (.flt .f32 (arF .mul .f32 r x)) m) : CallLeaf Try.prog w0 90 [.flt .f32 x, .ptr a []] m K := by
  refine fn_go hmix h90 ?_
  conv => whnf
  repeat (first | (refine br.yes ?_; conv => whnf) | (refine br.no ?_; conv => whnf))
  rw [ha]
  conv => whnf
  repeat (first | (refine br.yes ?_; conv => whnf) | (refine br.no ?_; conv => whnf))
  exact hK
set_option maxRecDepth 20000 in
theorem rimpl_ScalePicture {r : Nat} {s : Int} {xs : List Nat} (hK : K (pc (scaR r s xs (scaB r s xs))) m) : CallLeaf Try.prog w0 52 [.flt .f32 r, .st [AV.int s, .af 64 xs]] m K := call_nil rfl fun w0 => by
  refine fn_go hmix h52 ?_
  conv => whnf
  repeat (first | (refine br.yes ?_; conv => whnf) | (refine br.no ?_; conv => whnf))
  refine c_isNumber ?_
  conv => whnf
  repeat (first | (refine br.yes ?_; conv => whnf) | (refine br.no ?_; conv => whnf))
  refine br_intro (fun h => ?_) (fun h => ?_)
  · conv => whnf
    repeat (first | (refine br.yes ?_; conv => whnf) | (refine br.no ?_; conv => whnf))
    rw [scaR_no (by rw [notB_eq] at h; simp at h; simp [h])] at hK
    exact ⟨rfl, hK⟩
  conv => whnf
  repeat (first | (refine br.yes ?_; conv => whnf) | (refine br.no ?_; conv => whnf))
  refine c_IsPicture ?_
  conv => whnf
  repeat (first | (refine br.yes ?_; conv => whnf) | (refine br.no ?_; conv => whnf))
  refine br_intro (fun h2 => ?_) (fun h2 => ?_)
  · conv => whnf
    repeat (first | (refine br.yes ?_; conv => whnf) | (refine br.no ?_; conv => whnf))
    rw [scaR_no (by rw [notB_eq] at h2; simp at h2; simp [h2])] at hK
    exact ⟨rfl, hK⟩
  conv => whnf
  repeat (first | (refine br.yes ?_; conv => whnf) | (refine br.no ?_; conv => whnf))
  have hok : (fine r && picOk s xs) = true := by rw [notB_eq] at h h2; simp at h h2; simp [h, h2]
  refine br_intro (fun h3 => ?_) (fun h3 => ?_)
  · conv => whnf
    repeat (first | (refine br.yes ?_; conv => whnf) | (refine br.no ?_; conv => whnf))
    rw [scaR_neg hok h3] at hK
    exact ⟨rfl, hK⟩
  conv => whnf
  repeat (first | (refine br.yes ?_; conv => whnf) | (refine br.no ?_; conv => whnf))
  rw [scaR_ok hok h3] at hK
  obtain ⟨N, rfl, hN8, hN0⟩ := pic_nat (xs := xs) (s := s) (by rw [notB_eq] at h2; simpa using h2)
  refine c_levelsBy (F := fun x => arF .mul .f32 r x) ⟨hN0, hN8⟩ (by kernel_rfl) (fun ext x K hK => g_ScalePicture (a := 0) rfl hK) ?_
  conv => whnf
  repeat (first | (refine br.yes ?_; conv => whnf) | (refine br.no ?_; conv => whnf))
  refine c_limitPicture ?_
  unfold pc at hK ⊢
  have e : scaB r N xs = tabF (fun k => arF .mul .f32 r (xs.getD k 0)) (N * N) := rfl
  rw [e] at hK
  generalize toldR (N : Int) (tabF (fun k => arF .mul .f32 r (xs.getD k 0)) (N * N)) = R at hK ⊢
  conv => whnf
  repeat (first | (refine br.yes ?_; conv => whnf) | (refine br.no ?_; conv => whnf))
  exact ⟨rfl, hK⟩
set_option maxRecDepth 20000 in
theorem ospec_ScalePicture {r : Nat} {s : Int} {xs : List Nat} (hx : xs.length = 64) (hK : K (pc (plusP (scaR r s xs (scaA r xs)))) m) : CallLeaf Try.prog w0 21 [.flt .f32 r, .st [AV.int s, .af 64 xs]] m K := call_nil rfl fun w0 => by
  refine fn_go hmix h21 ?_
  conv => whnf
  repeat (first | (refine br.yes ?_; conv => whnf) | (refine br.no ?_; conv => whnf))
  refine rspec_ScalePicture hx ?_
  have hl := scaR_length (r := r) (s := s) (xs := xs) (A := scaA r xs) (by simp [scaA, hx])
  unfold pc plusP at hK
  unfold pc
  generalize scaR r s xs (scaA r xs) = R at hK hl ⊢
  conv => whnf
  repeat (first | (refine br.yes ?_; conv => whnf) | (refine br.no ?_; conv => whnf))
  refine c_l01PlusPicture hl ?_
  conv => whnf
  repeat (first | (refine br.yes ?_; conv => whnf) | (refine br.no ?_; conv => whnf))
  exact ⟨rfl, hK⟩
set_option maxRecDepth 20000 in
theorem oimpl_ScalePicture {r : Nat} {s : Int} {xs : List Nat} (hK : K (pc (plusP (scaR r s xs (scaB r s xs)))) m) : CallLeaf Try.prog w0 22 [.flt .f32 r, .st [AV.int s, .af 64 xs]] m K := call_nil rfl fun w0 => by
  refine fn_go hmix h22 ?_
  conv => whnf
  repeat (first | (refine br.yes ?_; conv => whnf) | (refine br.no ?_; conv => whnf))
  refine rimpl_ScalePicture ?_
  have hl := scaR_length (r := r) (s := s) (xs := xs) (A := scaB r s xs) (tabF_length _ _)
  unfold pc plusP at hK
  unfold pc
  generalize scaR r s xs (scaB r s xs) = R at hK hl ⊢
  conv => whnf
  repeat (first | (refine br.yes ?_; conv => whnf) | (refine br.no ?_; conv => whnf))
  refine c_plainPicture hl ?_
  conv => whnf
  repeat (first | (refine br.yes ?_; conv => whnf) | (refine br.no ?_; conv => whnf))
  exact ⟨rfl, hK⟩
set_option maxRecDepth 20000 in
theorem law_ScalePicture {r : Nat} {s : Int} {xs : List Nat} (_ : WfF r) (hx : xs.length = 64) (_ : ∀ x ∈ xs, WfF x) (hK : ∀ m, K (AV.bool true) m) : CallLeaf Try.prog w0 6 [.flt .f32 r, .st [AV.int s, .af 64 xs]] [] K := by
  refine fn_go hmix h6 ?_
  conv => whnf
  repeat (first | (refine br.yes ?_; conv => whnf) | (refine br.no ?_; conv => whnf))
  obtain ⟨R, hR⟩ : ∃ R, R = plusP (scaR r s xs (scaA r xs)) := ⟨_, rfl⟩
  refine c_toPicture hx ?_
  conv => whnf
  repeat (first | (refine br.yes ?_; conv => whnf) | (refine br.no ?_; conv => whnf))
  refine ospec_ScalePicture hx ?_
  rw [← hR]
  unfold pc
  conv => whnf
  repeat (first | (refine br.yes ?_; conv => whnf) | (refine br.no ?_; conv => whnf))
  refine c_toPicture hx ?_
  conv => whnf
  repeat (first | (refine br.yes ?_; conv => whnf) | (refine br.no ?_; conv => whnf))
  refine oimpl_ScalePicture ?_
  rw [← sca_same hx, ← hR]
  unfold pc
  conv => whnf
  repeat (first | (refine br.yes ?_; conv => whnf) | (refine br.no ?_; conv => whnf))
  refine c_eqPicture ?_
  conv => whnf
  repeat (first | (refine br.yes ?_; conv => whnf) | (refine br.no ?_; conv => whnf))
  refine br_false (by rw [notB_eq]; rfl) ?_
  conv => whnf
  repeat (first | (refine br.yes ?_; conv => whnf) | (refine br.no ?_; conv => whnf))
  refine br_false (neq_self _) ?_
  conv => whnf
  repeat (first | (refine br.yes ?_; conv => whnf) | (refine br.no ?_; conv => whnf))
  exact hK _
end
end Go.Proofs.Ytfoflddjcijaeaa
