/- Contracts of functions, by a walk each. -/
import Derived.Test.YtbjpnhmempokoaaCom2
namespace Go.Proofs.Ytbjpnhmempokoaa
open Go Go.Fw
section
variable {w0 : World} {m : MS} {K : AV → MS → Prop}
set_option maxRecDepth 20000 in
theorem c_plainWave {s : Int} {xs : List (Nat × Nat)} (hx : xs.length = 64) (hK : K (.st [AV.int s, .ac 64 (xs.map plusC)]) m) : CallLeaf Try.prog w0 29 [.st [AV.int s, .ac 64 xs]] m K := call_nil rfl fun w0 => by
  refine fn_go hmix h29 ?_
  conv => whnf
  repeat (first | (refine br.yes ?_; conv => whnf) | (refine br.no ?_; conv => whnf))
  refine loop_inv 64 (fun k ts m => m = [⟨true, .st [AV.int s, .ac 64 (mapTo plusC xs k)], 0⟩, ⟨true, .st [AV.int 0, .ac 64 (List.replicate 64 (0, 0))], 0⟩] ∧ ts = [.junk, .ptr 0 [], .ptr 1 [], .junk, .junk, .ptr 0 [], .junk, .junk, .junk, .junk, .junk, .junk, .junk, .junk, .junk, .junk, .junk, .junk, .junk, .junk, .junk, .junk, .junk, .junk, .junk, .junk, .junk, .junk, .junk, .junk, .junk, .junk, .junk, .junk, .junk, .junk, .junk, .junk, .junk, .junk, .junk, .junk, .ac 64 xs, AV.int k, .junk, .junk, .junk, .junk, .junk, .junk, .junk, .junk, .junk, .junk, .junk, .junk, .junk, .junk, .junk, .junk, .junk, .junk, .junk, .junk, .junk, .junk, .junk, .junk, .junk, .junk, .junk, .junk, .junk, .junk, .junk, .junk, .junk, .junk, .junk, .junk, .junk, .junk, .junk, .junk, .junk, .junk, .junk, .junk, .junk, .junk, .junk, .junk, .junk, .junk, .junk, .junk, .junk, .junk, .junk, .junk, .junk, .junk, .junk, .junk, .junk, .junk, .junk, .junk, .junk, .junk, .junk, .junk, .junk, .junk, .junk, .junk, .junk, .junk, .junk, .junk, .junk, .junk, .junk, .junk, .junk]) _ _ ?hw trim_no ⟨by rw [mapTo_zero]; rfl, rfl⟩ ?_
  case hw =>
    repeat (first | exact weak_nil | refine weak_same ?_ | refine weak_junk ?_)
  rintro k hk ts m' ⟨rfl, rfl⟩ R hR
  conv => whnf
  repeat (first | (refine br.yes ?_; conv => whnf) | (refine br.no ?_; conv => whnf))
  refine br_intro (fun h1 => ?_) (fun h1 => ?_)
  · have hk1 : k < 64 := lt_of_lss (n := 64) h1
    conv => whnf
    repeat (first | (refine br.yes ?_; conv => whnf) | (refine br.no ?_; conv => whnf))
    refine ⟨side_in ⟨by omega, by omega, by rw [toN_nat]; exact hk1⟩, ?_⟩
    conv => whnf
    repeat (first | (refine br.yes ?_; conv => whnf) | (refine br.no ?_; conv => whnf))
    refine q_keep (.cpx .f32 (plusC (xs.getD k (0, 0))).1 (plusC (xs.getD k (0, 0))).2) (fun K' h => ?_) ?_
    · rw [toN_nat, nth_eq]; exact c_plainComplex h
    conv => whnf
    repeat (first | (refine br.yes ?_; conv => whnf) | (refine br.no ?_; conv => whnf))
    refine ⟨side_in ⟨by omega, by omega⟩, ?_⟩
    conv => whnf
    repeat (first | (refine br.yes ?_; conv => whnf) | (refine br.no ?_; conv => whnf))
    refine ⟨side_in (by rw [toN_nat]; exact hk1), ?_⟩
    conv => whnf
    repeat (first | (refine br.yes ?_; conv => whnf) | (refine br.no ?_; conv => whnf))
    rw [toN_nat, upd_eq, add_one (by omega)]
    refine hR hk1 _ _ _ _ ?hw2 trim_no ⟨by rw [← mapTo_set plusC (0, 0) (by omega)] <;> rfl, rfl⟩
    case hw2 =>
      repeat (first | exact weak_nil | refine weak_same ?_ | refine weak_junk ?_)
  · have hk2 : k = 64 := by have := ge_of_lss (n := 64) h1; omega
    subst hk2
    conv => whnf
    repeat (first | (refine br.yes ?_; conv => whnf) | (refine br.no ?_; conv => whnf))
    rw [mapTo_all _ hx]
    exact ⟨rfl, hK⟩
theorem c_l01Empty {n : Int} (hK : K (.st [AV.int n, .ac 64 (List.replicate 64 (0, 0))]) m) : CallLeaf Try.prog w0 48 [AV.int n] m K := call_nil rfl fun w0 => by
  refine fn_go hmix h48 ?_
  conv => whnf
  repeat (first | (refine br.yes ?_; conv => whnf) | (refine br.no ?_; conv => whnf))
  exact ⟨rfl, hK⟩
/-- a table filled up to a place -/
def tabTo (val : Nat → Nat × Nat) (t : Nat) : List (Nat × Nat) := (List.range 64).map fun k => if k < t then val k else (0, 0)
theorem tabTo_zero (val : Nat → Nat × Nat) : tabTo val 0 = List.replicate 64 (0, 0) := by
  unfold tabTo
  apply List.ext_getElem (by simp)
  intro i h1 h2
  simp only [List.getElem_map, Nat.not_lt_zero, if_false, List.getElem_replicate]
theorem tabTo_length (val : Nat → Nat × Nat) (t : Nat) : (tabTo val t).length = 64 := by unfold tabTo; simp
theorem tabTo_set {val : Nat → Nat × Nat} {t : Nat} {v : Nat × Nat} (hv : val t = v) : (tabTo val t).set t v = tabTo val (t + 1) := by
  unfold tabTo
  apply List.ext_getElem (by simp)
  intro i h1 h2
  simp at h1
  by_cases hit : t = i
  · subst hit; simp [hv]
  · rw [List.getElem_set_ne hit]
    simp
    by_cases h3 : i < t
    · simp [h3, show i < t + 1 by omega]
    · simp [h3, show ¬ i < t + 1 by omega]
theorem tabTo_skip {val : Nat → Nat × Nat} {t : Nat} (hv : val t = (0, 0)) : tabTo val (t + 1) = tabTo val t := by
  unfold tabTo
  apply List.map_congr_left
  intro i _
  by_cases h : i < t
  · simp [h, show i < t + 1 by omega]
  · by_cases h2 : i = t
    · subst h2; simp [hv]
    · simp [h, show ¬ i < t + 1 by omega]
theorem tabTo_same {v v' : Nat → Nat × Nat} {t : Nat} (h : ∀ k, k < t → v k = v' k) : tabTo v t = tabTo v' t := by
  unfold tabTo
  apply List.map_congr_left
  intro i _
  by_cases hi : i < t
  · simp [hi, h i hi]
  · simp [hi]
/-! two blocks behind the others -/
theorem new_one (m : MS) (a : Ent) (c : AV) (r : Nat) (k : Nat → MS → Prop) : newK (m ++ [a]) c r k = k (m.length + 1) (m ++ [a, ⟨true, c, r⟩]) := by rw [newK_eq]; simp
theorem get_fst (m : MS) (a b : Ent) : getE (m ++ [a, b]) m.length = some a := by rw [getE_eq]; simp
theorem get_snd (m : MS) (a b : Ent) : getE (m ++ [a, b]) (m.length + 1) = some b := by rw [getE_eq]; simp
theorem set_fst (m : MS) (a b e : Ent) (k : MS → Prop) : setEK (m ++ [a, b]) m.length e k = k (m ++ [e, b]) := by rw [setEK_eq]; simp
theorem set_snd (m : MS) (a b e : Ent) (k : MS → Prop) : setEK (m ++ [a, b]) (m.length + 1) e k = k (m ++ [a, e]) := by rw [setEK_eq]; simp
theorem take_back (m l : MS) : (m ++ l).take m.length = m := by simp
theorem sq_le {N : Nat} (h : N ≤ 8) : N * N ≤ 64 := Nat.mul_le_mul h h
set_option maxRecDepth 20000 in
theorem c_waveBy {N f : Nat} {caps : List AV} {val : Nat → Nat × Nat} (hN : 0 < N ∧ N ≤ 8) (hf : fnHas Try.prog f = true)
    (hc : ∀ (ext : MS) (k : Nat) (K : AV → MS → Prop), k < N * N → K (.cpx .f32 (val k).1 (val k).2) (m ++ ext) → CallLeaf Try.prog w0 f (AV.int ((k / N : Nat) : Int) :: AV.int ((k % N : Nat) : Int) :: AV.int (k : Int) :: caps) (m ++ ext) K)
    (hK : K (.st [AV.int N, .ac 64 (tabTo val (N * N))]) m) : CallLeaf Try.prog w0 71 [AV.int N, .fn f caps] m K := by
  have hNN := sq_le hN.2
  refine call_keep ?_
  refine fn_go hmix h71 ?_
  conv => whnf
  repeat (first | (refine br.yes ?_; conv => whnf) | (refine br.no ?_; conv => whnf))
  rw [newK_eq]
  conv => whnf
  repeat (first | (refine br.yes ?_; conv => whnf) | (refine br.no ?_; conv => whnf))
  rw [new_one]
  conv => whnf
  repeat (first | (refine br.yes ?_; conv => whnf) | (refine br.no ?_; conv => whnf))
  rw [get_snd]
  conv => whnf
  repeat (first | (refine br.yes ?_; conv => whnf) | (refine br.no ?_; conv => whnf))
  rw [set_snd]
  conv => whnf
  repeat (first | (refine br.yes ?_; conv => whnf) | (refine br.no ?_; conv => whnf))
  rw [mul_nat (by omega) (by omega)]
  refine loop_inv (N * N) (fun k ts M => M = m ++ [⟨true, .st [AV.int 0, .ac 64 (List.replicate 64 (0, 0))], 0⟩, ⟨true, .st [AV.int N, .ac 64 (tabTo val k)], 0⟩] ∧ ts = [AV.int N, .fn f caps, .junk, .junk, .ptr m.length [], .ptr (m.length + 1) [], .junk, .junk, .junk, .junk, .junk, AV.int (N * N : Nat), AV.int k, .junk, .junk, .junk, .junk, .junk, .junk, .junk, .junk, .junk, .junk, .junk, .junk, .junk, .junk, .junk, .junk]) _ _ ?hw trim_no ⟨by rw [tabTo_zero]; rfl, rfl⟩ ?_
  case hw =>
    repeat (first | exact weak_nil | refine weak_same ?_ | refine weak_junk ?_)
  rintro k hk ts m' ⟨rfl, rfl⟩ R hR
  conv => whnf
  repeat (first | (refine br.yes ?_; conv => whnf) | (refine br.no ?_; conv => whnf))
  refine br_intro (fun h1 => ?_) (fun h1 => ?_)
  · have hk1 : k < N * N := lt_of_lss h1
    conv => whnf
    repeat (first | (refine br.yes ?_; conv => whnf) | (refine br.no ?_; conv => whnf))
    refine ⟨side_in (by omega), ?_⟩
    conv => whnf
    repeat (first | (refine br.yes ?_; conv => whnf) | (refine br.no ?_; conv => whnf))
    refine ⟨side_in (by omega), ?_⟩
    rw [quo_nat (by omega), rem_nat]
    conv => whnf
    repeat (first | (refine br.yes ?_; conv => whnf) | (refine br.no ?_; conv => whnf))
    refine ⟨side_in hf, ?_⟩
    conv => whnf
    repeat (first | (refine br.yes ?_; conv => whnf) | (refine br.no ?_; conv => whnf))
    refine q_keep (.cpx .f32 (val k).1 (val k).2) (fun K' h => hc _ k K' hk1 h) ?_
    conv => whnf
    repeat (first | (refine br.yes ?_; conv => whnf) | (refine br.no ?_; conv => whnf))
    refine ⟨side_in ⟨by omega, by omega⟩, ?_⟩
    conv => whnf
    repeat (first | (refine br.yes ?_; conv => whnf) | (refine br.no ?_; conv => whnf))
    rw [get_snd]
    conv => whnf
    repeat (first | (refine br.yes ?_; conv => whnf) | (refine br.no ?_; conv => whnf))
    refine ⟨side_in (by rw [toN_nat]; exact (show k < 64 by omega)), ?_⟩
    conv => whnf
    repeat (first | (refine br.yes ?_; conv => whnf) | (refine br.no ?_; conv => whnf))
    rw [set_snd]
    conv => whnf
    repeat (first | (refine br.yes ?_; conv => whnf) | (refine br.no ?_; conv => whnf))
    rw [toN_nat, upd_eq, add_one (by omega)]
    refine hR hk1 _ _ _ _ ?hw2 trim_no ⟨by rw [← tabTo_set rfl], rfl⟩
    case hw2 =>
      repeat (first | exact weak_nil | refine weak_same ?_ | refine weak_junk ?_)
  · have hk2 : k = N * N := Nat.le_antisymm hk (ge_of_lss h1)
    subst hk2
    conv => whnf
    repeat (first | (refine br.yes ?_; conv => whnf) | (refine br.no ?_; conv => whnf))
    rw [get_snd]
    conv => whnf
    repeat (first | (refine br.yes ?_; conv => whnf) | (refine br.no ?_; conv => whnf))
    rw [get_fst]
    conv => whnf
    repeat (first | (refine br.yes ?_; conv => whnf) | (refine br.no ?_; conv => whnf))
    rw [set_fst]
    conv => whnf
    repeat (first | (refine br.yes ?_; conv => whnf) | (refine br.no ?_; conv => whnf))
    rw [get_fst]
    conv => whnf
    repeat (first | (refine br.yes ?_; conv => whnf) | (refine br.no ?_; conv => whnf))
    exact ⟨take_back _ _, rfl, hK⟩
end
end Go.Proofs.Ytbjpnhmempokoaa
