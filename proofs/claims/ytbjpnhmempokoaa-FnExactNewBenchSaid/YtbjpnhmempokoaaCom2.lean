/- Contracts of functions, by a walk each. -/
import Derived.Test.YtbjpnhmempokoaaCom1
namespace Go.Proofs.Ytbjpnhmempokoaa
open Go Go.Fw
section
variable {w0 : World} {m : MS} {K : AV → MS → Prop}
/-! zeros made positive -/
def plusN (x : Nat) : Nat := if cmF .eql .f32 x 0 = true then 0 else x
def plusC (z : Nat × Nat) : Nat × Nat := (plusN z.1, plusN z.2)
theorem plusN_t {x : Nat} (h : cmF .eql .f32 x 0 = true) : plusN x = 0 := by simp [plusN, h]
theorem plusN_f {x : Nat} (h : cmF .eql .f32 x 0 = false) : plusN x = x := by simp [plusN, h]
theorem c_l01PlusNumber {x : Nat} (hK : K (.flt .f32 (plusN x)) m) : CallLeaf Try.prog w0 78 [.flt .f32 x] m K := by
  refine fn_go hmix h78 ?_
  conv => whnf
  repeat (first | (refine br.yes ?_; conv => whnf) | (refine br.no ?_; conv => whnf))
  refine br_intro (fun h => ?_) (fun h => ?_)
  · conv => whnf
    repeat (first | (refine br.yes ?_; conv => whnf) | (refine br.no ?_; conv => whnf))
    rw [plusN_t h] at hK; exact hK
  · conv => whnf
    repeat (first | (refine br.yes ?_; conv => whnf) | (refine br.no ?_; conv => whnf))
    rw [plusN_f h] at hK; exact hK
theorem c_plainNumber {x : Nat} (hK : K (.flt .f32 (plusN x)) m) : CallLeaf Try.prog w0 54 [.flt .f32 x] m K := by
  refine fn_go hmix h54 ?_
  conv => whnf
  repeat (first | (refine br.yes ?_; conv => whnf) | (refine br.no ?_; conv => whnf))
  refine br_intro (fun h => ?_) (fun h => ?_)
  · conv => whnf
    repeat (first | (refine br.yes ?_; conv => whnf) | (refine br.no ?_; conv => whnf))
    rw [plusN_t h] at hK; exact hK
  · conv => whnf
    repeat (first | (refine br.yes ?_; conv => whnf) | (refine br.no ?_; conv => whnf))
    rw [plusN_f h] at hK; exact hK
theorem c_l01PlusComplex {x y : Nat} (hK : K (.cpx .f32 (plusN x) (plusN y)) m) : CallLeaf Try.prog w0 49 [.cpx .f32 x y] m K := by
  refine fn_go hmix h49 ?_
  conv => whnf
  repeat (first | (refine br.yes ?_; conv => whnf) | (refine br.no ?_; conv => whnf))
  refine c_l01PlusNumber ?_
  conv => whnf
  repeat (first | (refine br.yes ?_; conv => whnf) | (refine br.no ?_; conv => whnf))
  refine c_l01PlusNumber ?_
  conv => whnf
  repeat (first | (refine br.yes ?_; conv => whnf) | (refine br.no ?_; conv => whnf))
  exact hK
theorem c_plainComplex {x y : Nat} (hK : K (.cpx .f32 (plusN x) (plusN y)) m) : CallLeaf Try.prog w0 55 [.cpx .f32 x y] m K := by
  refine fn_go hmix h55 ?_
  conv => whnf
  repeat (first | (refine br.yes ?_; conv => whnf) | (refine br.no ?_; conv => whnf))
  refine c_plainNumber ?_
  conv => whnf
  repeat (first | (refine br.yes ?_; conv => whnf) | (refine br.no ?_; conv => whnf))
  refine c_plainNumber ?_
  conv => whnf
  repeat (first | (refine br.yes ?_; conv => whnf) | (refine br.no ?_; conv => whnf))
  exact hK
/-- the first so many turned -/
def mapTo {α : Type} (f : α → α) (xs : List α) (k : Nat) : List α := (xs.take k).map f ++ xs.drop k
theorem mapTo_zero {α : Type} (f : α → α) (xs : List α) : mapTo f xs 0 = xs := by simp [mapTo]
theorem mapTo_all {α : Type} (f : α → α) {xs : List α} {n : Nat} (h : xs.length = n) : mapTo f xs n = xs.map f := by
  unfold mapTo; rw [List.take_of_length_le (by omega), List.drop_eq_nil_of_le (by omega)]; simp
theorem mapTo_length {α : Type} (f : α → α) (xs : List α) (k : Nat) : (mapTo f xs k).length = xs.length := by unfold mapTo; simp; omega
theorem mapTo_get {α : Type} (f : α → α) {xs : List α} {k : Nat} (d : α) : (mapTo f xs k).getD k d = xs.getD k d := by
  unfold mapTo
  simp only [List.getD_eq_getElem?_getD]
  rcases Nat.lt_or_ge k xs.length with h | h
  · rw [List.getElem?_append_right (by simp; omega)]
    simp [show min k xs.length = k by omega]
  · rw [List.getElem?_eq_none (by simp; omega), List.getElem?_eq_none h]
theorem mapTo_set {α : Type} (f : α → α) {xs : List α} {k : Nat} (d : α) (h : k < xs.length) : (mapTo f xs k).set k (f (xs.getD k d)) = mapTo f xs (k + 1) := by
  unfold mapTo
  have e : xs.drop k = xs[k] :: xs.drop (k + 1) := List.drop_eq_getElem_cons h
  rw [e, List.set_append_right _ _ (by simp; omega), List.take_add_one]
  have h1 : k - ((xs.take k).map f).length = 0 := by simp; omega
  rw [h1, List.set_cons_zero, List.map_append, List.append_assoc]
  have h2 : xs[k]? = some xs[k] := List.getElem?_eq_getElem h
  simp only [h2, Option.toList_some, List.map_cons, List.map_nil, List.cons_append, List.nil_append, List.getD_eq_getElem?_getD, Option.getD_some]
set_option maxRecDepth 20000 in
theorem c_l01PlusWave {s : Int} {xs : List (Nat × Nat)} (hx : xs.length = 64) (hK : K (.st [AV.int s, .ac 64 (xs.map plusC)]) m) : CallLeaf Try.prog w0 27 [.st [AV.int s, .ac 64 xs]] m K := call_nil rfl fun w0 => by
  refine fn_go hmix h27 ?_
  conv => whnf
  repeat (first | (refine br.yes ?_; conv => whnf) | (refine br.no ?_; conv => whnf))
  refine loop_inv 64 (fun k ts m => m = [⟨true, .st [AV.int s, .ac 64 (mapTo plusC xs k)], 0⟩, ⟨true, .st [AV.int 0, .ac 64 (List.replicate 64 (0, 0))], 0⟩] ∧ ts = [.junk, .ptr 0 [], .ptr 1 [], AV.int k, .junk, .junk, .junk, .junk, .junk, .junk, .junk, .junk, .junk, .junk, .junk, .junk, .junk]) _ _ ?hw trim_no ⟨by rw [mapTo_zero]; rfl, rfl⟩ ?_
  case hw =>
    repeat (first | exact weak_nil | refine weak_same ?_ | refine weak_junk ?_)
  rintro k hk ts m' ⟨rfl, rfl⟩ R hR
  conv => whnf
  repeat (first | (refine br.yes ?_; conv => whnf) | (refine br.no ?_; conv => whnf))
  refine br_intro (fun h1 => ?_) (fun h1 => ?_)
  · have hk1 : k < 64 := lt_of_lss (n := 64) h1
    conv => whnf
    repeat (first | (refine br.yes ?_; conv => whnf) | (refine br.no ?_; conv => whnf))
    refine ⟨side_in ⟨by omega, by omega⟩, ?_⟩
    conv => whnf
    repeat (first | (refine br.yes ?_; conv => whnf) | (refine br.no ?_; conv => whnf))
    refine ⟨side_in (by rw [toN_nat]; exact hk1), ?_⟩
    conv => whnf
    repeat (first | (refine br.yes ?_; conv => whnf) | (refine br.no ?_; conv => whnf))
    rw [toN_nat, nth_eq, mapTo_get]
    refine c_l01PlusComplex ?_
    conv => whnf
    repeat (first | (refine br.yes ?_; conv => whnf) | (refine br.no ?_; conv => whnf))
    refine ⟨side_in ⟨by omega, by omega⟩, ?_⟩
    conv => whnf
    repeat (first | (refine br.yes ?_; conv => whnf) | (refine br.no ?_; conv => whnf))
    refine ⟨side_in (by rw [toN_nat]; exact hk1), ?_⟩
    conv => whnf
    repeat (first | (refine br.yes ?_; conv => whnf) | (refine br.no ?_; conv => whnf))
    rw [toN_nat, upd_eq, add_one (by omega)]
    refine hR hk1 _ _ _ _ ?hw2 trim_no ⟨by rw [← mapTo_set plusC (0, 0) (by omega)]; rfl, rfl⟩
    case hw2 =>
      repeat (first | exact weak_nil | refine weak_same ?_ | refine weak_junk ?_)
  · have hk2 : k = 64 := by have := ge_of_lss (n := 64) h1; omega
    subst hk2
    conv => whnf
    repeat (first | (refine br.yes ?_; conv => whnf) | (refine br.no ?_; conv => whnf))
    rw [mapTo_all _ hx]
    exact ⟨rfl, hK⟩
end
end Go.Proofs.Ytbjpnhmempokoaa
