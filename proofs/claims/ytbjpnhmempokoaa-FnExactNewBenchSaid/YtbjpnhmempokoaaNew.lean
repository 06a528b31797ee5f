/- Contracts of functions, by a walk each. -/
import Derived.Test.YtbjpnhmempokoaaPicA
namespace Go.Proofs.Ytbjpnhmempokoaa
open Go Go.Fw
section
variable {w0 : World} {m : MS} {K : AV → MS → Prop}
/-! the new bench -/
def one4 : Nat → Nat × Nat := fun _ => (1065353216, 0)
def oneW : List (Nat × Nat) := tabTo one4 4
theorem oneW_length : oneW.length = 64 := tabTo_length _ _
def benchA (W V : List (Nat × Nat)) (X : List Nat) : AV := .st [.st [AV.int 2, .ac 64 W], .st [AV.int 2, .ac 64 V], .st [AV.int 2, .af 64 X]]
def noBench : AV := .st [.st [AV.int 0, .ac 64 (List.replicate 64 (0, 0))], .st [AV.int 0, .ac 64 (List.replicate 64 (0, 0))], .st [AV.int 0, .af 64 (List.replicate 64 0)]]
set_option maxRecDepth 20000 in
theorem c_l12New (hK : K (benchA oneW oneW (List.replicate 64 0)) m) : CallLeaf Try.prog w0 75 [] m K := call_nil rfl fun w0 => by
  refine fn_go hmix h75 ?_
  conv => whnf
  repeat (first | (refine br.yes ?_; conv => whnf) | (refine br.no ?_; conv => whnf))
  refine c_l01Empty ?_
  conv => whnf
  repeat (first | (refine br.yes ?_; conv => whnf) | (refine br.no ?_; conv => whnf))
  refine loop_inv 4 (fun k ts m => m = [⟨true, noBench, 0⟩, ⟨true, .st [AV.int 2, .ac 64 (tabTo one4 k)], 0⟩] ∧ ts = [.ptr 0 [], .ptr 1 [], AV.int k, .junk, .junk, .junk, .junk, .junk, .junk, .junk, .junk, .junk, .junk, .junk, .junk]) _ _ ?hw trim_no ⟨by rw [tabTo_zero] <;> rfl, rfl⟩ ?_
  case hw =>
    repeat (first | exact weak_nil | refine weak_same ?_ | refine weak_junk ?_)
  rintro k hk ts m' ⟨rfl, rfl⟩ R hR
  conv => whnf
  repeat (first | (refine br.yes ?_; conv => whnf) | (refine br.no ?_; conv => whnf))
  refine br_intro (fun h1 => ?_) (fun h1 => ?_)
  · have hk1 : k < 4 := lt_of_lss (n := 4) h1
    conv => whnf
    repeat (first | (refine br.yes ?_; conv => whnf) | (refine br.no ?_; conv => whnf))
    refine ⟨side_in ⟨by omega, by omega⟩, ?_⟩
    conv => whnf
    repeat (first | (refine br.yes ?_; conv => whnf) | (refine br.no ?_; conv => whnf))
    refine ⟨side_in (by rw [toN_nat]; exact (show k < 64 by omega)), ?_⟩
    conv => whnf
    repeat (first | (refine br.yes ?_; conv => whnf) | (refine br.no ?_; conv => whnf))
    rw [toN_nat, upd_eq, add_one (by omega)]
    refine hR hk1 _ _ _ _ ?hw2 trim_no ⟨by rw [← tabTo_set (val := one4) (t := k) rfl] <;> rfl, rfl⟩
    case hw2 =>
      repeat (first | exact weak_nil | refine weak_same ?_ | refine weak_junk ?_)
  · have hk2 : k = 4 := by have := ge_of_lss (n := 4) h1; omega
    subst hk2
    unfold benchA oneW at hK
    conv => whnf
    repeat (first | (refine br.yes ?_; conv => whnf) | (refine br.no ?_; conv => whnf))
    exact ⟨rfl, hK⟩
theorem c_l12RawNewBench (hK : K (benchA oneW oneW (List.replicate 64 0)) m) : CallLeaf Try.prog w0 42 [] m K := call_nil rfl fun w0 => by
  refine fn_go hmix h42 ?_
  conv => whnf
  repeat (first | (refine br.yes ?_; conv => whnf) | (refine br.no ?_; conv => whnf))
  refine c_l12New ?_
  conv => whnf
  repeat (first | (refine br.yes ?_; conv => whnf) | (refine br.no ?_; conv => whnf))
  exact ⟨rfl, hK⟩
set_option maxRecDepth 20000 in
theorem c_l12PlusBench {W V : List (Nat × Nat)} {X : List Nat} (hW : W.length = 64) (hV : V.length = 64) (hX : X.length = 64) (hK : K (benchA (W.map plusC) (V.map plusC) (X.map plusN)) m) : CallLeaf Try.prog w0 41 [benchA W V X] m K := call_nil rfl fun w0 => by
  unfold benchA at hK ⊢
  refine fn_go hmix h41 ?_
  conv => whnf
  repeat (first | (refine br.yes ?_; conv => whnf) | (refine br.no ?_; conv => whnf))
  refine q_keep (.st [AV.int 2, .ac 64 (W.map plusC)]) (fun K' h => c_l01PlusWave hW h) ?_
  conv => whnf
  repeat (first | (refine br.yes ?_; conv => whnf) | (refine br.no ?_; conv => whnf))
  refine q_keep (.st [AV.int 2, .ac 64 (V.map plusC)]) (fun K' h => c_l01PlusWave hV h) ?_
  conv => whnf
  repeat (first | (refine br.yes ?_; conv => whnf) | (refine br.no ?_; conv => whnf))
  refine q_keep (.st [AV.int 2, .af 64 (X.map plusN)]) (fun K' h => c_l01PlusPicture hX h) ?_
  conv => whnf
  repeat (first | (refine br.yes ?_; conv => whnf) | (refine br.no ?_; conv => whnf))
  exact ⟨rfl, hK⟩
def theBench : AV := benchA (oneW.map plusC) (oneW.map plusC) ((List.replicate 64 0).map plusN)
theorem c_specNewBench (hK : K theBench m) : CallLeaf Try.prog w0 23 [] m K := call_nil rfl fun w0 => by
  refine fn_go hmix h23 ?_
  conv => whnf
  repeat (first | (refine br.yes ?_; conv => whnf) | (refine br.no ?_; conv => whnf))
  refine c_l12RawNewBench ?_
  conv => whnf
  repeat (first | (refine br.yes ?_; conv => whnf) | (refine br.no ?_; conv => whnf))
  refine c_l12PlusBench oneW_length oneW_length (by simp) ?_
  conv => whnf
  repeat (first | (refine br.yes ?_; conv => whnf) | (refine br.no ?_; conv => whnf))
  exact ⟨rfl, hK⟩
def fineN (x : Nat) : Bool := cmF .eql .f32 (arF .sub .f32 x x) 0
theorem c_isNumberA {x : Nat} (hK : K (AV.bool (fineN x)) m) : CallLeaf Try.prog w0 89 [.flt .f32 x] m K := by
  refine fn_go hmix h89 ?_
  conv => whnf
  repeat (first | (refine br.yes ?_; conv => whnf) | (refine br.no ?_; conv => whnf))
  exact hK
theorem fine_1 : fineN 1065353216 = true := by decide +kernel
theorem fine_0 : fineN 0 = true := by decide +kernel
theorem c_isComplexA (hK : K (AV.bool true) m) : CallLeaf Try.prog w0 87 [.cpx .f32 1065353216 0] m K := by
  refine fn_go hmix h87 ?_
  conv => whnf
  repeat (first | (refine br.yes ?_; conv => whnf) | (refine br.no ?_; conv => whnf))
  refine c_isNumberA ?_
  rw [fine_1]
  conv => whnf
  repeat (first | (refine br.yes ?_; conv => whnf) | (refine br.no ?_; conv => whnf))
  refine c_isNumberA ?_
  rw [fine_0]
  conv => whnf
  repeat (first | (refine br.yes ?_; conv => whnf) | (refine br.no ?_; conv => whnf))
  exact hK
theorem c_flat1 {a ra : Nat} {oa : Bool} {y x k : Int} (ha : getE m a = some ⟨oa, .cpx .f32 1065353216 0, ra⟩) (hK : K (.cpx .f32 1065353216 0) m) : CallLeaf Try.prog w0 88 [AV.int y, AV.int x, AV.int k, .ptr a []] m K := by
  refine fn_go hmix h88 ?_
  conv => whnf
  repeat (first | (refine br.yes ?_; conv => whnf) | (refine br.no ?_; conv => whnf))
  rw [ha]
  conv => whnf
  repeat (first | (refine br.yes ?_; conv => whnf) | (refine br.no ?_; conv => whnf))
  exact hK
set_option maxRecDepth 20000 in
theorem c_signedFlat (hK : K (.tup [.st [AV.int 2, .ac 64 oneW], AV.int 0]) m) : CallLeaf Try.prog w0 86 [AV.int 2, .cpx .f32 1065353216 0] m K := call_nil rfl fun w0 => by
  refine fn_go hmix h86 ?_
  conv => whnf
  repeat (first | (refine br.yes ?_; conv => whnf) | (refine br.no ?_; conv => whnf))
  refine c_isComplexA ?_
  conv => whnf
  repeat (first | (refine br.yes ?_; conv => whnf) | (refine br.no ?_; conv => whnf))
  refine br_false (by rw [notB_eq]; rfl) ?_
  conv => whnf
  repeat (first | (refine br.yes ?_; conv => whnf) | (refine br.no ?_; conv => whnf))
  refine c_isSide ?_
  conv => whnf
  repeat (first | (refine br.yes ?_; conv => whnf) | (refine br.no ?_; conv => whnf))
  refine br_false (by rw [notB_eq]; rfl) ?_
  conv => whnf
  repeat (first | (refine br.yes ?_; conv => whnf) | (refine br.no ?_; conv => whnf))
  refine c_waveBy (N := 2) (val := one4) ⟨by decide, by decide⟩ (by kernel_rfl) (fun ext k K hk hK => c_flat1 (a := 0) rfl hK) ?_
  unfold oneW at hK
  conv => whnf
  repeat (first | (refine br.yes ?_; conv => whnf) | (refine br.no ?_; conv => whnf))
  exact ⟨rfl, hK⟩
theorem c_FlatWave (hK : K (.tup [.st [AV.int 2, .ac 64 (oneW.map plusC)], AV.int 0]) m) : CallLeaf Try.prog w0 76 [AV.int 2, .cpx .f32 1065353216 0] m K := call_nil rfl fun w0 => by
  refine fn_go hmix h76 ?_
  conv => whnf
  repeat (first | (refine br.yes ?_; conv => whnf) | (refine br.no ?_; conv => whnf))
  refine c_signedFlat ?_
  have hl := oneW_length
  generalize oneW = W at hK hl ⊢
  conv => whnf
  repeat (first | (refine br.yes ?_; conv => whnf) | (refine br.no ?_; conv => whnf))
  refine c_plainWave hl ?_
  conv => whnf
  repeat (first | (refine br.yes ?_; conv => whnf) | (refine br.no ?_; conv => whnf))
  exact ⟨rfl, hK⟩
set_option maxRecDepth 20000 in
theorem c_signedNewBench (hK : K (benchA (oneW.map plusC) (oneW.map plusC) (List.replicate 64 0)) m) : CallLeaf Try.prog w0 44 [] m K := call_nil rfl fun w0 => by
  unfold benchA at hK
  refine fn_go hmix h44 ?_
  conv => whnf
  repeat (first | (refine br.yes ?_; conv => whnf) | (refine br.no ?_; conv => whnf))
  refine c_FlatWave ?_
  generalize oneW.map plusC = W at hK ⊢
  conv => whnf
  repeat (first | (refine br.yes ?_; conv => whnf) | (refine br.no ?_; conv => whnf))
  exact ⟨rfl, hK⟩
set_option maxRecDepth 20000 in
theorem c_makePlain {W V : List (Nat × Nat)} {X : List Nat} {e : Ent} (hW : W.length = 64) (hV : V.length = 64) (hX : X.length = 64)
    (hK : K (.tup []) [⟨true, benchA (W.map plusC) (V.map plusC) (X.map plusN), 0⟩, e]) : CallLeaf Try.prog w0 106 [.ptr 0 []] [⟨true, benchA W V X, 0⟩, e] K := by
  unfold benchA at hK ⊢
  refine fn_go hmix h106 ?_
  conv => whnf
  repeat (first | (refine br.yes ?_; conv => whnf) | (refine br.no ?_; conv => whnf))
  refine q_keep (.st [AV.int 2, .ac 64 (W.map plusC)]) (fun K' h => c_plainWave hW h) ?_
  conv => whnf
  repeat (first | (refine br.yes ?_; conv => whnf) | (refine br.no ?_; conv => whnf))
  refine q_keep (.st [AV.int 2, .ac 64 (V.map plusC)]) (fun K' h => c_plainWave hV h) ?_
  conv => whnf
  repeat (first | (refine br.yes ?_; conv => whnf) | (refine br.no ?_; conv => whnf))
  refine q_keep (.st [AV.int 2, .af 64 (X.map plusN)]) (fun K' h => c_plainPicture hX h) ?_
  conv => whnf
  repeat (first | (refine br.yes ?_; conv => whnf) | (refine br.no ?_; conv => whnf))
  exact hK
set_option maxRecDepth 20000 in
theorem c_plainBench {W V : List (Nat × Nat)} {X : List Nat} (hW : W.length = 64) (hV : V.length = 64) (hX : X.length = 64) (hK : K (benchA (W.map plusC) (V.map plusC) (X.map plusN)) m) : CallLeaf Try.prog w0 43 [benchA W V X] m K := call_nil rfl fun w0 => by
  refine fn_go hmix h43 ?_
  conv => whnf
  repeat (first | (refine br.yes ?_; conv => whnf) | (refine br.no ?_; conv => whnf))
  refine ⟨side_in (by decide +kernel), ?_⟩
  conv => whnf
  repeat (first | (refine br.yes ?_; conv => whnf) | (refine br.no ?_; conv => whnf))
  refine c_makePlain hW hV hX ?_
  conv => whnf
  repeat (first | (refine br.yes ?_; conv => whnf) | (refine br.no ?_; conv => whnf))
  exact ⟨rfl, hK⟩
theorem plus_idem (x : Nat) : plusN (plusN x) = plusN x := by
  unfold plusN
  by_cases h : cmF .eql .f32 x 0 = true
  · simp [h]
  · simp [h]
theorem plusC_idem (xs : List (Nat × Nat)) : (xs.map plusC).map plusC = xs.map plusC := by
  rw [List.map_map]
  apply List.map_congr_left
  intro z _
  simp [plusC, plus_idem]
theorem c_implNewBench (hK : K theBench m) : CallLeaf Try.prog w0 24 [] m K := call_nil rfl fun w0 => by
  unfold theBench at hK
  refine fn_go hmix h24 ?_
  conv => whnf
  repeat (first | (refine br.yes ?_; conv => whnf) | (refine br.no ?_; conv => whnf))
  refine c_signedNewBench ?_
  conv => whnf
  repeat (first | (refine br.yes ?_; conv => whnf) | (refine br.no ?_; conv => whnf))
  refine c_plainBench (by simp [oneW_length]) (by simp [oneW_length]) (by simp) ?_
  rw [plusC_idem]
  conv => whnf
  repeat (first | (refine br.yes ?_; conv => whnf) | (refine br.no ?_; conv => whnf))
  exact ⟨rfl, hK⟩
set_option maxRecDepth 20000 in
theorem c_eqBench {W V : List (Nat × Nat)} {X : List Nat} (hK : K (AV.bool true) m) : CallLeaf Try.prog w0 25 [benchA W V X, benchA W V X] m K := call_nil rfl fun w0 => by
  unfold benchA
  refine fn_go hmix h25 ?_
  conv => whnf
  repeat (first | (refine br.yes ?_; conv => whnf) | (refine br.no ?_; conv => whnf))
  refine c_eqWave ?_
  conv => whnf
  repeat (first | (refine br.yes ?_; conv => whnf) | (refine br.no ?_; conv => whnf))
  refine br_false (by rw [notB_eq]; rfl) ?_
  conv => whnf
  repeat (first | (refine br.yes ?_; conv => whnf) | (refine br.no ?_; conv => whnf))
  refine c_eqWave ?_
  conv => whnf
  repeat (first | (refine br.yes ?_; conv => whnf) | (refine br.no ?_; conv => whnf))
  refine br_false (by rw [notB_eq]; rfl) ?_
  conv => whnf
  repeat (first | (refine br.yes ?_; conv => whnf) | (refine br.no ?_; conv => whnf))
  refine c_eqPicture ?_
  conv => whnf
  repeat (first | (refine br.yes ?_; conv => whnf) | (refine br.no ?_; conv => whnf))
  refine br_false (by rw [notB_eq]; rfl) ?_
  conv => whnf
  repeat (first | (refine br.yes ?_; conv => whnf) | (refine br.no ?_; conv => whnf))
  exact ⟨rfl, hK⟩
theorem law_NewBench (hK : ∀ m, K (AV.bool true) m) : CallLeaf Try.prog w0 9 [] [] K := by
  refine fn_go hmix h9 ?_
  conv => whnf
  repeat (first | (refine br.yes ?_; conv => whnf) | (refine br.no ?_; conv => whnf))
  refine c_specNewBench ?_
  conv => whnf
  repeat (first | (refine br.yes ?_; conv => whnf) | (refine br.no ?_; conv => whnf))
  refine c_implNewBench ?_
  conv => whnf
  repeat (first | (refine br.yes ?_; conv => whnf) | (refine br.no ?_; conv => whnf))
  refine c_eqBench ?_
  conv => whnf
  repeat (first | (refine br.yes ?_; conv => whnf) | (refine br.no ?_; conv => whnf))
  refine br_false (by rw [notB_eq]; rfl) ?_
  conv => whnf
  repeat (first | (refine br.yes ?_; conv => whnf) | (refine br.no ?_; conv => whnf))
  exact hK _
end
end Go.Proofs.Ytbjpnhmempokoaa
