/- Contracts of functions, by a walk each. -/
import Derived.Test.YtfoflddjcijaeaaPic2
namespace Go.Proofs.Ytfoflddjcijaeaa
open Go Go.Fw
section
variable {w0 : World} {m : MS} {K : AV → MS → Prop}
set_option maxRecDepth 20000 in
theorem c_l01PlusPicture {s : Int} {xs : List Nat} (hx : xs.length = 64) (hK : K (.st [AV.int s, .af 64 (xs.map plusN)]) m) : CallLeaf Try.prog w0 51 [.st [AV.int s, .af 64 xs]] m K := call_nil rfl fun w0 => by
  refine fn_go hmix h51 ?_
  conv => whnf
  repeat (first | (refine br.yes ?_; conv => whnf) | (refine br.no ?_; conv => whnf))
  refine loop_inv 64 (fun k ts m => m = [⟨true, .st [AV.int s, .af 64 (mapTo plusN xs k)], 0⟩, ⟨true, .st [AV.int 0, .af 64 (List.replicate 64 0)], 0⟩] ∧ ts = [.junk, .ptr 0 [], .ptr 1 [], AV.int k, .junk, .junk, .junk, .junk, .junk, .junk, .junk, .junk, .junk, .junk, .junk, .junk, .junk]) _ _ ?hw trim_no ⟨by rw [mapTo_zero]; rfl, rfl⟩ ?_
  case hw =>
    repeat (first | exact weak_nil | refine weak_same ?_ | refine weak_junk ?_)
  rintro k hk ts m' ⟨rfl, rfl⟩ R hR
  conv => whnf
  repeat (first | (refine br.yes ?_; conv => whnf) | (refine br.no ?_; conv => whnf))
  refine br_intro (fun h1 => ?_) (fun h1 => ?_)
  · have hk1 : k < 64 := lt_of_lss (n := 64) h1
    conv => whnf
    repeat (first | (refine br.yes ?_; conv => whnf) | (refine br.no ?_; conv => whnf))
    refine ⟨side_in ⟨by omega, by omega⟩, ?_⟩
    conv => whnf
    repeat (first | (refine br.yes ?_; conv => whnf) | (refine br.no ?_; conv => whnf))
    refine ⟨side_in (by rw [toN_nat]; exact hk1), ?_⟩
    conv => whnf
    repeat (first | (refine br.yes ?_; conv => whnf) | (refine br.no ?_; conv => whnf))
    rw [toN_nat, nth_eq, mapTo_get]
    refine c_l01PlusNumber ?_
    conv => whnf
    repeat (first | (refine br.yes ?_; conv => whnf) | (refine br.no ?_; conv => whnf))
    refine ⟨side_in ⟨by omega, by omega⟩, ?_⟩
    conv => whnf
    repeat (first | (refine br.yes ?_; conv => whnf) | (refine br.no ?_; conv => whnf))
    refine ⟨side_in (by rw [toN_nat]; exact hk1), ?_⟩
    conv => whnf
    repeat (first | (refine br.yes ?_; conv => whnf) | (refine br.no ?_; conv => whnf))
    rw [toN_nat, upd_eq, add_one (by omega)]
    refine hR hk1 _ _ _ _ ?hw2 trim_no ⟨by rw [← mapTo_set plusN 0 (by omega)] <;> rfl, rfl⟩
    case hw2 =>
      repeat (first | exact weak_nil | refine weak_same ?_ | refine weak_junk ?_)
  · have hk2 : k = 64 := by have := ge_of_lss (n := 64) h1; omega
    subst hk2
    conv => whnf
    repeat (first | (refine br.yes ?_; conv => whnf) | (refine br.no ?_; conv => whnf))
    rw [mapTo_all _ hx]
    exact ⟨rfl, hK⟩

set_option maxRecDepth 20000 in
theorem c_plainPicture {s : Int} {xs : List Nat} (hx : xs.length = 64) (hK : K (.st [AV.int s, .af 64 (xs.map plusN)]) m) : CallLeaf Try.prog w0 53 [.st [AV.int s, .af 64 xs]] m K := call_nil rfl fun w0 => by
  refine fn_go hmix h53 ?_
  conv => whnf
  repeat (first | (refine br.yes ?_; conv => whnf) | (refine br.no ?_; conv => whnf))
  refine loop_inv 64 (fun k ts m => m = [⟨true, .st [AV.int s, .af 64 (mapTo plusN xs k)], 0⟩, ⟨true, .st [AV.int 0, .af 64 (List.replicate 64 0)], 0⟩] ∧ ts = [.junk, .ptr 0 [], .ptr 1 [], .junk, .junk, .junk, .junk, .junk, .ptr 0 [], .junk, .junk, .junk, .junk, .junk, .junk, .junk, .junk, .junk, .junk, .junk, .junk, .junk, .junk, .junk, .junk, .junk, .junk, .junk, .junk, .junk, .junk, .junk, .junk, .junk, .junk, .junk, .junk, .junk, .junk, .junk, .junk, .junk, .junk, .junk, .junk, .junk, .junk, .junk, .junk, .junk, .junk, .junk, .junk, .junk, .junk, .junk, .junk, .junk, .junk, .junk, .junk, .af 64 xs, AV.int k, .junk, .junk, .junk, .junk, .junk, .junk, .junk, .junk, .junk, .junk, .junk, .junk, .junk, .junk, .junk, .junk, .junk, .junk, .junk, .junk, .junk, .junk, .junk, .junk, .junk, .junk, .junk, .junk, .junk, .junk, .junk, .junk, .junk, .junk, .junk, .junk, .junk, .junk, .junk, .junk, .junk, .junk, .junk, .junk, .junk, .junk, .junk, .junk, .junk, .junk, .junk, .junk, .junk, .junk, .junk, .junk, .junk, .junk, .junk, .junk, .junk, .junk]) _ _ ?hw trim_no ⟨by rw [mapTo_zero]; rfl, rfl⟩ ?_
  case hw =>
    repeat (first | exact weak_nil | refine weak_same ?_ | refine weak_junk ?_)
  rintro k hk ts m' ⟨rfl, rfl⟩ R hR
  conv => whnf
  repeat (first | (refine br.yes ?_; conv => whnf) | (refine br.no ?_; conv => whnf))
  refine br_intro (fun h1 => ?_) (fun h1 => ?_)
  · have hk1 : k < 64 := lt_of_lss (n := 64) h1
    conv => whnf
    repeat (first | (refine br.yes ?_; conv => whnf) | (refine br.no ?_; conv => whnf))
    refine ⟨side_in ⟨by omega, by omega, by rw [toN_nat]; exact hk1⟩, ?_⟩
    conv => whnf
    repeat (first | (refine br.yes ?_; conv => whnf) | (refine br.no ?_; conv => whnf))
    refine q_keep (.flt .f32 (plusN (xs.getD k 0))) (fun K' h => ?_) ?_
    · rw [toN_nat, nth_eq]; exact c_plainNumber h
    conv => whnf
    repeat (first | (refine br.yes ?_; conv => whnf) | (refine br.no ?_; conv => whnf))
    refine ⟨side_in ⟨by omega, by omega⟩, ?_⟩
    conv => whnf
    repeat (first | (refine br.yes ?_; conv => whnf) | (refine br.no ?_; conv => whnf))
    refine ⟨side_in (by rw [toN_nat]; exact hk1), ?_⟩
    conv => whnf
    repeat (first | (refine br.yes ?_; conv => whnf) | (refine br.no ?_; conv => whnf))
    rw [toN_nat, upd_eq, add_one (by omega)]
    refine hR hk1 _ _ _ _ ?hw2 trim_no ⟨by rw [← mapTo_set plusN 0 (by omega)] <;> rfl, rfl⟩
    case hw2 =>
      repeat (first | exact weak_nil | refine weak_same ?_ | refine weak_junk ?_)
  · have hk2 : k = 64 := by have := ge_of_lss (n := 64) h1; omega
    subst hk2
    conv => whnf
    repeat (first | (refine br.yes ?_; conv => whnf) | (refine br.no ?_; conv => whnf))
    rw [mapTo_all _ hx]
    exact ⟨rfl, hK⟩

set_option maxRecDepth 20000 in
theorem c_eqFloats {xs : List Nat} (hK : K (AV.bool true) m) : CallLeaf Try.prog w0 54 [.af 64 xs, .af 64 xs] m K := call_nil rfl fun w0 => by
  refine fn_go hmix h54 ?_
  conv => whnf
  repeat (first | (refine br.yes ?_; conv => whnf) | (refine br.no ?_; conv => whnf))
  refine loop_inv 64 (fun k ts m => m = [⟨true, .af 64 xs, 0⟩, ⟨true, .af 64 xs, 0⟩] ∧ ts = [.junk, .junk, .ptr 0 [], .ptr 1 [], AV.bool false, AV.int k, .junk, .junk, .junk, .junk, .junk, .junk, .junk, .junk, .junk, .junk, .junk, .junk, .junk, .junk]) _ _ ?hw trim_no ⟨rfl, rfl⟩ ?_
  case hw =>
    repeat (first | exact weak_nil | refine weak_same ?_ | refine weak_junk ?_)
  rintro k hk ts m' ⟨rfl, rfl⟩ R hR
  conv => whnf
  repeat (first | (refine br.yes ?_; conv => whnf) | (refine br.no ?_; conv => whnf))
  refine br_intro (fun h1 => ?_) (fun h1 => ?_)
  · have hk1 : k < 64 := lt_of_lss (n := 64) h1
    conv => whnf
    repeat (first | (refine br.yes ?_; conv => whnf) | (refine br.no ?_; conv => whnf))
    refine ⟨side_in ⟨by omega, by omega⟩, ?_⟩
    conv => whnf
    repeat (first | (refine br.yes ?_; conv => whnf) | (refine br.no ?_; conv => whnf))
    refine ⟨side_in (by rw [toN_nat]; exact hk1), ?_⟩
    conv => whnf
    repeat (first | (refine br.yes ?_; conv => whnf) | (refine br.no ?_; conv => whnf))
    refine ⟨side_in ⟨by omega, by omega⟩, ?_⟩
    conv => whnf
    repeat (first | (refine br.yes ?_; conv => whnf) | (refine br.no ?_; conv => whnf))
    refine ⟨side_in (by rw [toN_nat]; exact hk1), ?_⟩
    conv => whnf
    repeat (first | (refine br.yes ?_; conv => whnf) | (refine br.no ?_; conv => whnf))
    refine q_keep (AV.bool true) (fun K' h => c_sameFloat h) ?_
    conv => whnf
    repeat (first | (refine br.yes ?_; conv => whnf) | (refine br.no ?_; conv => whnf))
    refine br_false (by rw [notB_eq]; rfl) ?_
    conv => whnf
    repeat (first | (refine br.yes ?_; conv => whnf) | (refine br.no ?_; conv => whnf))
    rw [add_one (by omega)]
    refine hR hk1 _ _ _ _ ?hw2 trim_no ⟨rfl, rfl⟩
    case hw2 =>
      repeat (first | exact weak_nil | refine weak_same ?_ | refine weak_junk ?_)
  · conv => whnf
    repeat (first | (refine br.yes ?_; conv => whnf) | (refine br.no ?_; conv => whnf))
    exact ⟨rfl, hK⟩
set_option maxRecDepth 20000 in
theorem c_eqPicture {s : Int} {xs : List Nat} (hK : K (AV.bool true) m) : CallLeaf Try.prog w0 23 [.st [AV.int s, .af 64 xs], .st [AV.int s, .af 64 xs]] m K := call_nil rfl fun w0 => by
  refine fn_go hmix h23 ?_
  conv => whnf
  repeat (first | (refine br.yes ?_; conv => whnf) | (refine br.no ?_; conv => whnf))
  refine br_false (neq_self _) ?_
  conv => whnf
  repeat (first | (refine br.yes ?_; conv => whnf) | (refine br.no ?_; conv => whnf))
  refine c_eqFloats ?_
  conv => whnf
  repeat (first | (refine br.yes ?_; conv => whnf) | (refine br.no ?_; conv => whnf))
  refine br_false (by rw [notB_eq]; rfl) ?_
  conv => whnf
  repeat (first | (refine br.yes ?_; conv => whnf) | (refine br.no ?_; conv => whnf))
  exact ⟨rfl, hK⟩

/-- a table filled up to a place -/
def tabF (val : Nat → Nat) (t : Nat) : List Nat := (List.range 64).map fun k => if k < t then val k else 0
theorem tabF_zero (val : Nat → Nat) : tabF val 0 = List.replicate 64 0 := by
  unfold tabF
  apply List.ext_getElem (by simp)
  intro i h1 h2
  simp only [List.getElem_map, Nat.not_lt_zero, if_false, List.getElem_replicate]
theorem tabF_length (val : Nat → Nat) (t : Nat) : (tabF val t).length = 64 := by unfold tabF; simp
theorem tabF_set {val : Nat → Nat} {t : Nat} {v : Nat} (hv : val t = v) : (tabF val t).set t v = tabF val (t + 1) := by
  unfold tabF
  apply List.ext_getElem (by simp)
  intro i h1 h2
  simp at h1
  by_cases hit : t = i
  · subst hit; simp [hv]
  · rw [List.getElem_set_ne hit]
    simp
    by_cases h3 : i < t
    · simp [h3, show i < t + 1 by omega]
    · simp [h3, show ¬ i < t + 1 by omega]
theorem tabF_skip {val : Nat → Nat} {t : Nat} (hv : val t = 0) : tabF val (t + 1) = tabF val t := by
  unfold tabF
  apply List.map_congr_left
  intro i _
  by_cases h : i < t
  · simp [h, show i < t + 1 by omega]
  · by_cases h2 : i = t
    · subst h2; simp [hv]
    · simp [h, show ¬ i < t + 1 by omega]
theorem tabF_same {v v' : Nat → Nat} {t : Nat} (h : ∀ k, k < t → v k = v' k) : tabF v t = tabF v' t := by
  unfold tabF
  apply List.map_congr_left
  intro i _
  by_cases hi : i < t
  · simp [hi, h i hi]
  · simp [hi]
set_option maxRecDepth 20000 in
theorem c_pictureBy {N f : Nat} {caps : List AV} {val : Nat → Nat} (hN : 0 < N ∧ N ≤ 8) (hf : fnHas Try.prog f = true)
    (hc : ∀ (ext : MS) (k : Nat) (K : AV → MS → Prop), k < N * N → K (.flt .f32 (val k)) (m ++ ext) → CallLeaf Try.prog w0 f (AV.int ((k / N : Nat) : Int) :: AV.int ((k % N : Nat) : Int) :: AV.int (k : Int) :: caps) (m ++ ext) K)
    (hK : K (.st [AV.int N, .af 64 (tabF val (N * N))]) m) : CallLeaf Try.prog w0 95 [AV.int N, .fn f caps] m K := by
  have hNN := sq_le hN.2
  refine call_keep ?_
  refine fn_go hmix h95 ?_
  conv => whnf
  repeat (first | (refine br.yes ?_; conv => whnf) | (refine br.no ?_; conv => whnf))
  rw [newK_eq]
  conv => whnf
  repeat (first | (refine br.yes ?_; conv => whnf) | (refine br.no ?_; conv => whnf))
  rw [new_one]
  conv => whnf
  repeat (first | (refine br.yes ?_; conv => whnf) | (refine br.no ?_; conv => whnf))
  rw [get_snd]
  conv => whnf
  repeat (first | (refine br.yes ?_; conv => whnf) | (refine br.no ?_; conv => whnf))
  rw [set_snd]
  conv => whnf
  repeat (first | (refine br.yes ?_; conv => whnf) | (refine br.no ?_; conv => whnf))
  rw [mul_nat (by omega) (by omega)]
  refine loop_inv (N * N) (fun k ts M => M = m ++ [⟨true, .st [AV.int 0, .af 64 (List.replicate 64 0)], 0⟩, ⟨true, .st [AV.int N, .af 64 (tabF val k)], 0⟩] ∧ ts = [AV.int N, .fn f caps, .junk, .junk, .ptr m.length [], .ptr (m.length + 1) [], .junk, .junk, .junk, .junk, .junk, AV.int (N * N : Nat), AV.int k, .junk, .junk, .junk, .junk, .junk, .junk, .junk, .junk, .junk, .junk, .junk, .junk, .junk, .junk, .junk, .junk]) _ _ ?hw trim_no ⟨by rw [tabF_zero]; rfl, rfl⟩ ?_
  case hw =>
    repeat (first | exact weak_nil | refine weak_same ?_ | refine weak_junk ?_)
  rintro k hk ts m' ⟨rfl, rfl⟩ R hR
  conv => whnf
  repeat (first | (refine br.yes ?_; conv => whnf) | (refine br.no ?_; conv => whnf))
  refine br_intro (fun h1 => ?_) (fun h1 => ?_)
  · have hk1 : k < N * N := lt_of_lss h1
    conv => whnf
    repeat (first | (refine br.yes ?_; conv => whnf) | (refine br.no ?_; conv => whnf))
    refine ⟨side_in (by omega), ?_⟩
    conv => whnf
    repeat (first | (refine br.yes ?_; conv => whnf) | (refine br.no ?_; conv => whnf))
    refine ⟨side_in (by omega), ?_⟩
    rw [quo_nat (by omega), rem_nat]
    conv => whnf
    repeat (first | (refine br.yes ?_; conv => whnf) | (refine br.no ?_; conv => whnf))
    refine ⟨side_in hf, ?_⟩
    conv => whnf
    repeat (first | (refine br.yes ?_; conv => whnf) | (refine br.no ?_; conv => whnf))
    refine q_keep (.flt .f32 (val k)) (fun K' h => hc _ k K' hk1 h) ?_
    conv => whnf
    repeat (first | (refine br.yes ?_; conv => whnf) | (refine br.no ?_; conv => whnf))
    refine ⟨side_in ⟨by omega, by omega⟩, ?_⟩
    conv => whnf
    repeat (first | (refine br.yes ?_; conv => whnf) | (refine br.no ?_; conv => whnf))
    rw [get_snd]
    conv => whnf
    repeat (first | (refine br.yes ?_; conv => whnf) | (refine br.no ?_; conv => whnf))
    refine ⟨side_in (by rw [toN_nat]; exact (show k < 64 by omega)), ?_⟩
    conv => whnf
    repeat (first | (refine br.yes ?_; conv => whnf) | (refine br.no ?_; conv => whnf))
    rw [set_snd]
    conv => whnf
    repeat (first | (refine br.yes ?_; conv => whnf) | (refine br.no ?_; conv => whnf))
    rw [toN_nat, upd_eq, add_one (by omega)]
    refine hR hk1 _ _ _ _ ?hw2 trim_no ⟨by rw [← tabF_set rfl], rfl⟩
    case hw2 =>
      repeat (first | exact weak_nil | refine weak_same ?_ | refine weak_junk ?_)
  · have hk2 : k = N * N := Nat.le_antisymm hk (ge_of_lss h1)
    subst hk2
    conv => whnf
    repeat (first | (refine br.yes ?_; conv => whnf) | (refine br.no ?_; conv => whnf))
    rw [get_snd]
    conv => whnf
    repeat (first | (refine br.yes ?_; conv => whnf) | (refine br.no ?_; conv => whnf))
    rw [get_fst]
    conv => whnf
    repeat (first | (refine br.yes ?_; conv => whnf) | (refine br.no ?_; conv => whnf))
    rw [set_fst]
    conv => whnf
    repeat (first | (refine br.yes ?_; conv => whnf) | (refine br.no ?_; conv => whnf))
    rw [get_fst]
    conv => whnf
    repeat (first | (refine br.yes ?_; conv => whnf) | (refine br.no ?_; conv => whnf))
    exact ⟨take_back _ _, rfl, hK⟩


theorem new_two (m : MS) (a b : Ent) (c : AV) (r : Nat) (k : Nat → MS → Prop) : newK (m ++ [a, b]) c r k = k (m.length + 2) (m ++ [a, b, ⟨true, c, r⟩]) := by rw [newK_eq]; simp
theorem get3_0 (m : MS) (a b c : Ent) : getE (m ++ [a, b, c]) m.length = some a := by rw [getE_eq]; simp
theorem get3_1 (m : MS) (a b c : Ent) : getE (m ++ [a, b, c]) (m.length + 1) = some b := by rw [getE_eq]; simp
theorem get3_2 (m : MS) (a b c : Ent) : getE (m ++ [a, b, c]) (m.length + 2) = some c := by rw [getE_eq]; simp
theorem set3_2 (m : MS) (a b c e : Ent) (k : MS → Prop) : setEK (m ++ [a, b, c]) (m.length + 2) e k = k (m ++ [a, b, e]) := by rw [setEK_eq]; simp
theorem c_levelsBy1 {p q f rp rq : Nat} {op oq : Bool} {caps : List AV} {y x : Int} {N k : Nat} {xs : List Nat} {F : Nat → Nat} (hk : k < 64)
    (hq : getE m q = some ⟨oq, .fn f caps, rq⟩) (hp : getE m p = some ⟨op, .st [AV.int N, .af 64 xs], rp⟩) (hf : fnHas Try.prog f = true)
    (hc : ∀ K : AV → MS → Prop, K (.flt .f32 (F (xs.getD k 0))) m → CallLeaf Try.prog w0 f (.flt .f32 (xs.getD k 0) :: caps) m K)
    (hK : K (.flt .f32 (F (xs.getD k 0))) m) : CallLeaf Try.prog w0 108 [AV.int y, AV.int x, AV.int k, .ptr q [], .ptr p []] m K := by
  refine fn_go hmix h108 ?_
  conv => whnf
  repeat (first | (refine br.yes ?_; conv => whnf) | (refine br.no ?_; conv => whnf))
  rw [hq]
  conv => whnf
  repeat (first | (refine br.yes ?_; conv => whnf) | (refine br.no ?_; conv => whnf))
  refine ⟨side_in ⟨by omega, by omega⟩, ?_⟩
  conv => whnf
  repeat (first | (refine br.yes ?_; conv => whnf) | (refine br.no ?_; conv => whnf))
  rw [hp]
  conv => whnf
  repeat (first | (refine br.yes ?_; conv => whnf) | (refine br.no ?_; conv => whnf))
  refine ⟨side_in (by rw [toN_nat]; exact hk), ?_⟩
  rw [toN_nat, nth_eq]
  conv => whnf
  repeat (first | (refine br.yes ?_; conv => whnf) | (refine br.no ?_; conv => whnf))
  refine ⟨side_in hf, ?_⟩
  conv => whnf
  repeat (first | (refine br.yes ?_; conv => whnf) | (refine br.no ?_; conv => whnf))
  refine q_keep (.flt .f32 (F (xs.getD k 0))) (fun K' h => hc K' h) ?_
  conv => whnf
  repeat (first | (refine br.yes ?_; conv => whnf) | (refine br.no ?_; conv => whnf))
  exact hK
set_option maxRecDepth 20000 in
theorem c_levelsBy {N f : Nat} {caps : List AV} {xs : List Nat} {F : Nat → Nat} (hN : 0 < N ∧ N ≤ 8) (hf : fnHas Try.prog f = true)
    (hc : ∀ (ext : MS) (x : Nat) (K : AV → MS → Prop), K (.flt .f32 (F x)) (m ++ ext) → CallLeaf Try.prog w0 f (.flt .f32 x :: caps) (m ++ ext) K)
    (hK : K (.st [AV.int N, .af 64 (tabF (fun k => F (xs.getD k 0)) (N * N))]) m) : CallLeaf Try.prog w0 89 [.st [AV.int N, .af 64 xs], .fn f caps] m K := by
  have hNN := sq_le hN.2
  refine call_keep ?_
  refine fn_go hmix h89 ?_
  conv => whnf
  repeat (first | (refine br.yes ?_; conv => whnf) | (refine br.no ?_; conv => whnf))
  rw [newK_eq]
  conv => whnf
  repeat (first | (refine br.yes ?_; conv => whnf) | (refine br.no ?_; conv => whnf))
  rw [new_one]
  conv => whnf
  repeat (first | (refine br.yes ?_; conv => whnf) | (refine br.no ?_; conv => whnf))
  rw [new_two]
  conv => whnf
  repeat (first | (refine br.yes ?_; conv => whnf) | (refine br.no ?_; conv => whnf))
  rw [get3_0]
  conv => whnf
  repeat (first | (refine br.yes ?_; conv => whnf) | (refine br.no ?_; conv => whnf))
  refine c_pictureBy hN (by kernel_rfl) (val := fun k => F (xs.getD k 0)) (fun ext k K hk hK => ?_) ?_
  · refine c_levelsBy1 (by omega) (getE_left (get3_1 _ _ _ _)) (getE_left (get3_0 _ _ _ _)) hf (F := F) (fun K' hK' => ?_) hK
    rw [List.append_assoc] at hK' ⊢
    exact hc _ _ _ hK'
  conv => whnf
  repeat (first | (refine br.yes ?_; conv => whnf) | (refine br.no ?_; conv => whnf))
  rw [get3_2]
  conv => whnf
  repeat (first | (refine br.yes ?_; conv => whnf) | (refine br.no ?_; conv => whnf))
  rw [set3_2]
  conv => whnf
  repeat (first | (refine br.yes ?_; conv => whnf) | (refine br.no ?_; conv => whnf))
  rw [get3_2]
  conv => whnf
  repeat (first | (refine br.yes ?_; conv => whnf) | (refine br.no ?_; conv => whnf))
  exact ⟨take_back _ _, rfl, hK⟩
/-! a picture that is told, or the limit -/
def pc (R : Int × List Nat × Int) : AV := .tup [.st [AV.int R.1, .af 64 R.2.1], AV.int R.2.2]
def plusP (R : Int × List Nat × Int) : Int × List Nat × Int := (R.1, R.2.1.map plusN, R.2.2)
def zeroP (c : Int) : Int × List Nat × Int := (0, List.replicate 64 0, c)
def toldR (s : Int) (xs : List Nat) : Int × List Nat × Int := if picOk s xs = true then (s, xs, 0) else zeroP 3
theorem toldR_ok {s : Int} {xs : List Nat} (h : picOk s xs = true) : toldR s xs = (s, xs, 0) := by simp [toldR, h]
theorem toldR_no {s : Int} {xs : List Nat} (h : picOk s xs = false) : toldR s xs = zeroP 3 := by simp [toldR, h]
theorem toldR_length {s : Int} {xs : List Nat} (h : xs.length = 64) : (toldR s xs).2.1.length = 64 := by
  unfold toldR
  split
  · exact h
  · rfl

theorem c_l05Told {s : Int} {xs : List Nat} (hK : K (pc (toldR s xs)) m) : CallLeaf Try.prog w0 87 [.st [AV.int s, .af 64 xs]] m K := call_nil rfl fun w0 => by
  refine fn_go hmix h87 ?_
  conv => whnf
  repeat (first | (refine br.yes ?_; conv => whnf) | (refine br.no ?_; conv => whnf))
  refine c_l01Shown ?_
  conv => whnf
  repeat (first | (refine br.yes ?_; conv => whnf) | (refine br.no ?_; conv => whnf))
  refine br_intro (fun h => ?_) (fun h => ?_)
  · conv => whnf
    repeat (first | (refine br.yes ?_; conv => whnf) | (refine br.no ?_; conv => whnf))
    rw [toldR_no (by rw [notB_eq] at h; simpa using h)] at hK
    exact ⟨rfl, hK⟩
  · conv => whnf
    repeat (first | (refine br.yes ?_; conv => whnf) | (refine br.no ?_; conv => whnf))
    rw [toldR_ok (by rw [notB_eq] at h; simpa using h)] at hK
    exact ⟨rfl, hK⟩

theorem c_limitPicture {s : Int} {xs : List Nat} (hK : K (pc (toldR s xs)) m) : CallLeaf Try.prog w0 88 [.st [AV.int s, .af 64 xs]] m K := call_nil rfl fun w0 => by
  refine fn_go hmix h88 ?_
  conv => whnf
  repeat (first | (refine br.yes ?_; conv => whnf) | (refine br.no ?_; conv => whnf))
  refine c_IsPicture ?_
  conv => whnf
  repeat (first | (refine br.yes ?_; conv => whnf) | (refine br.no ?_; conv => whnf))
  refine br_intro (fun h => ?_) (fun h => ?_)
  · conv => whnf
    repeat (first | (refine br.yes ?_; conv => whnf) | (refine br.no ?_; conv => whnf))
    rw [toldR_no (by rw [notB_eq] at h; simpa using h)] at hK
    exact ⟨rfl, hK⟩
  · conv => whnf
    repeat (first | (refine br.yes ?_; conv => whnf) | (refine br.no ?_; conv => whnf))
    rw [toldR_ok (by rw [notB_eq] at h; simpa using h)] at hK
    exact ⟨rfl, hK⟩


theorem zl_cell {s : Int} {k x : Nat} (h : zl x) : cellOk s k x = true := by
  unfold cellOk fine
  rw [fine_iff.2 (zl_num h), zl_lss h, zl_neq h]
  simp
theorem zl_plus {x : Nat} (h : zl x) : plusN x = 0 := plusN_t h
/-- two pictures that differ in the signs of zeros alone -/
theorem told_same {s : Int} {A B : List Nat} (hA : A.length = 64) (hB : B.length = 64) (h : ∀ k, k < 64 → A.getD k 0 = B.getD k 0 ∨ (zl (A.getD k 0) ∧ zl (B.getD k 0))) : plusP (toldR s A) = plusP (toldR s B) := by
  have hc : ∀ k, k < 64 → cellOk s k (A.getD k 0) = cellOk s k (B.getD k 0) := fun k hk => by
    rcases h k hk with e | ⟨e1, e2⟩
    · rw [e]
    · rw [zl_cell e1, zl_cell e2]
  have hp : picOk s A = picOk s B := by
    unfold picOk
    congr 1
    rw [Bool.eq_iff_iff, List.all_eq_true, List.all_eq_true]
    constructor
    · intro g k hk; rw [← hc k (List.mem_range.1 hk)]; exact g k hk
    · intro g k hk; rw [hc k (List.mem_range.1 hk)]; exact g k hk
  unfold toldR
  rw [hp]
  split
  · unfold plusP
    congr 2
    apply List.ext_getElem (by simp [hA, hB])
    intro k h1 h2
    simp only [List.length_map] at h1 h2
    rw [List.getElem_map, List.getElem_map]
    have := h k (by omega)
    simp only [List.getD_eq_getElem?_getD, List.getElem?_eq_getElem h1, List.getElem?_eq_getElem h2, Option.getD_some] at this
    rcases this with e | ⟨e1, e2⟩
    · rw [e]
    · rw [zl_plus e1, zl_plus e2]
  · rfl
theorem pic_cell {N k : Nat} {xs : List Nat} (h : picOk N xs = true) (hk : k < 64) : cellOk N k (xs.getD k 0) = true := by
  unfold picOk at h
  rw [Bool.and_eq_true, List.all_eq_true] at h
  exact h.2 k (List.mem_range.2 hk)
theorem pic_fine {N k : Nat} {xs : List Nat} (h : picOk N xs = true) (hk : k < 64) : isNum (xs.getD k 0) := by
  have := pic_cell h hk
  unfold cellOk at this
  rw [Bool.and_eq_true, Bool.and_eq_true] at this
  exact fine_iff.1 this.1.1
theorem not_neq_zl {x : Nat} (h : cmF .neq .f32 x 0 = false) : zl x := by
  unfold zl; unfold cmF at *; simpa using h
theorem pic_zero {N k : Nat} {xs : List Nat} (h : picOk N xs = true) (hN : N ≤ 8) (hk : k < 64) (hkN : N * N ≤ k) : zl (xs.getD k 0) := by
  have := pic_cell h hk
  unfold cellOk at this
  rw [Bool.and_eq_true, mul_nat (by omega) (by omega), cmI_geq] at this
  have h2 := this.2
  have h3 : decide ((k : Int) ≥ ((N * N : Nat) : Int)) = true := by simp only [decide_eq_true_eq]; omega
  rw [h3] at h2
  exact not_neq_zl (by simpa using h2)
theorem tabF_get {val : Nat → Nat} {t k : Nat} (hk : k < 64) : (tabF val t).getD k 0 = if k < t then val k else 0 := by
  unfold tabF
  simp [hk]
theorem zl_zero : zl 0 := zl_iff.2 ⟨false, _, read_zero⟩
end
end Go.Proofs.Ytfoflddjcijaeaa
