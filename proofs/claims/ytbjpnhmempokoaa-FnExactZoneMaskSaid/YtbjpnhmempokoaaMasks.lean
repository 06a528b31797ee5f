/- Contracts of functions, by a walk each. -/
import Derived.Test.YtbjpnhmempokoaaCom4
namespace Go.Proofs.Ytbjpnhmempokoaa
open Go Go.Fw
section
variable {w0 : World} {m : MS} {K : AV → MS → Prop}
set_option maxRecDepth 20000 in
theorem rspec_GratingMask {n p q : Int} (hK : K (wc (maskR (isSide n && inR p 1 n && inR q 0 p) n (fun _ x => cmI .lss (arI .rem .i64 (x : Int) p) q))) m) : CallLeaf Try.prog w0 26 [AV.int n, AV.int p, AV.int q] m K := call_nil rfl fun w0 => by
  refine fn_go hmix h26 ?_
  conv => whnf
  repeat (first | (refine br.yes ?_; conv => whnf) | (refine br.no ?_; conv => whnf))
  refine c_l01Side ?_
  conv => whnf
  repeat (first | (refine br.yes ?_; conv => whnf) | (refine br.no ?_; conv => whnf))
  refine br_intro (fun h => ?_) (fun h => ?_)
  · conv => whnf
    repeat (first | (refine br.yes ?_; conv => whnf) | (refine br.no ?_; conv => whnf))
    rw [maskR_no (by rw [notB_eq] at h; simp at h; simp [h])] at hK
    exact ⟨rfl, hK⟩
  conv => whnf
  repeat (first | (refine br.yes ?_; conv => whnf) | (refine br.no ?_; conv => whnf))
  refine c_l01In ?_
  conv => whnf
  repeat (first | (refine br.yes ?_; conv => whnf) | (refine br.no ?_; conv => whnf))
  refine br_intro (fun h2 => ?_) (fun h2 => ?_)
  · conv => whnf
    repeat (first | (refine br.yes ?_; conv => whnf) | (refine br.no ?_; conv => whnf))
    rw [maskR_no (by rw [notB_eq] at h2; simp at h2; simp [h2])] at hK
    exact ⟨rfl, hK⟩
  conv => whnf
  repeat (first | (refine br.yes ?_; conv => whnf) | (refine br.no ?_; conv => whnf))
  refine c_l01In ?_
  conv => whnf
  repeat (first | (refine br.yes ?_; conv => whnf) | (refine br.no ?_; conv => whnf))
  refine br_intro (fun h3 => ?_) (fun h3 => ?_)
  · conv => whnf
    repeat (first | (refine br.yes ?_; conv => whnf) | (refine br.no ?_; conv => whnf))
    rw [maskR_no (by rw [notB_eq] at h3; simp at h3; simp [h3])] at hK
    exact ⟨rfl, hK⟩
  conv => whnf
  repeat (first | (refine br.yes ?_; conv => whnf) | (refine br.no ?_; conv => whnf))
  have hok : (isSide n && inR p 1 n && inR q 0 p) = true := by rw [notB_eq] at h h2 h3; simp at h h2 h3; simp [h, h2, h3]
  have hp : p ≠ 0 := by rw [notB_eq] at h2; simp [inR] at h2; omega
  obtain ⟨N, rfl, hN8, hN0⟩ := side_nat (n := n) (by rw [notB_eq] at h; simpa using h)
  have hNN := sq_le hN8
  rw [maskR_ok hok] at hK
  refine c_l01Empty ?_
  conv => whnf
  repeat (first | (refine br.yes ?_; conv => whnf) | (refine br.no ?_; conv => whnf))
  refine loop_inv (N * N) (fun k ts m => m = [⟨true, .st [AV.int 0, .ac 64 (List.replicate 64 (0, 0))], 0⟩, ⟨true, .st [AV.int N, .ac 64 (tabTo (maskV N (fun _ x => cmI .lss (arI .rem .i64 (x : Int) p) q)) k)], 0⟩] ∧ ts = [AV.int N, AV.int p, AV.int q, .junk, .junk, .junk, .ptr 0 [], AV.int 0, .ptr 1 [], AV.int k, .junk, .junk, .junk, .junk, .junk, .junk, .junk, .junk, .junk, .junk, .junk, .junk, .junk, .junk, .junk, .junk, .junk, .junk, .junk, .junk, .junk, .junk, .junk, .junk, .junk, .junk, .junk, .junk, .junk, .junk, .junk, .junk, .junk, .junk, .junk, .junk]) _ _ ?hw trim_no ⟨by rw [tabTo_zero]; rfl, rfl⟩ ?_
  case hw =>
    repeat (first | exact weak_nil | refine weak_same ?_ | refine weak_junk ?_)
  rintro k hk ts m' ⟨rfl, rfl⟩ R hR
  conv => whnf
  repeat (first | (refine br.yes ?_; conv => whnf) | (refine br.no ?_; conv => whnf))
  rw [mul_nat (by omega) (by omega)]
  refine br_intro (fun h1 => ?_) (fun h1 => ?_)
  · have hk1 : k < N * N := lt_of_lss h1
    conv => whnf
    repeat (first | (refine br.yes ?_; conv => whnf) | (refine br.no ?_; conv => whnf))
    refine ⟨side_in (by omega), ?_⟩
    rw [rem_nat]
    conv => whnf
    repeat (first | (refine br.yes ?_; conv => whnf) | (refine br.no ?_; conv => whnf))
    refine ⟨side_in hp, ?_⟩
    conv => whnf
    repeat (first | (refine br.yes ?_; conv => whnf) | (refine br.no ?_; conv => whnf))
    have hv : maskV N (fun _ x => cmI .lss (arI .rem .i64 (x : Int) p) q) k = if cmI .lss (arI .rem .i64 ((k % N : Nat) : Int) p) q = true then (1065353216, 0) else (0, 0) := rfl
    refine br_intro (fun h4 => ?_) (fun h4 => ?_)
    · rw [h4] at hv
      conv => whnf
      repeat (first | (refine br.yes ?_; conv => whnf) | (refine br.no ?_; conv => whnf))
      refine ⟨side_in ⟨by omega, by omega⟩, ?_⟩
      conv => whnf
      repeat (first | (refine br.yes ?_; conv => whnf) | (refine br.no ?_; conv => whnf))
      refine ⟨side_in (by rw [toN_nat]; exact (show k < 64 by omega)), ?_⟩
      conv => whnf
      repeat (first | (refine br.yes ?_; conv => whnf) | (refine br.no ?_; conv => whnf))
      rw [toN_nat, upd_eq, add_one (by omega)]
      refine hR hk1 _ _ _ _ ?hw2 trim_no ⟨by rw [← tabTo_set hv] <;> rfl, rfl⟩
      case hw2 =>
        repeat (first | exact weak_nil | refine weak_same ?_ | refine weak_junk ?_)
    · rw [h4] at hv
      conv => whnf
      repeat (first | (refine br.yes ?_; conv => whnf) | (refine br.no ?_; conv => whnf))
      rw [add_one (by omega)]
      refine hR hk1 _ _ _ _ ?hw3 trim_no ⟨by rw [tabTo_skip hv] <;> rfl, rfl⟩
      case hw3 =>
        repeat (first | exact weak_nil | refine weak_same ?_ | refine weak_junk ?_)
  · have hk2 : k = N * N := Nat.le_antisymm hk (ge_of_lss h1)
    subst hk2
    conv => whnf
    repeat (first | (refine br.yes ?_; conv => whnf) | (refine br.no ?_; conv => whnf))
    exact ⟨rfl, hK⟩
set_option maxRecDepth 20000 in
theorem g_GratingMask {a b ra rb : Nat} {oa ob : Bool} {p q y x : Int} (ha : getE m a = some ⟨oa, AV.int p, ra⟩) (hb : getE m b = some ⟨ob, AV.int q, rb⟩) (hp : p ≠ 0)
    (hK : K (AV.bool (cmI .lss (arI .rem .i64 x p) q)) m) : CallLeaf Try.prog w0 53 [AV.int y, AV.int x, .ptr a [], .ptr b []] m K := by
  refine fn_go hmix h53 ?_
  conv => whnf
  repeat (first | (refine br.yes ?_; conv => whnf) | (refine br.no ?_; conv => whnf))
  rw [ha]
  conv => whnf
  repeat (first | (refine br.yes ?_; conv => whnf) | (refine br.no ?_; conv => whnf))
  refine ⟨side_in hp, ?_⟩
  conv => whnf
  repeat (first | (refine br.yes ?_; conv => whnf) | (refine br.no ?_; conv => whnf))
  rw [hb]
  conv => whnf
  repeat (first | (refine br.yes ?_; conv => whnf) | (refine br.no ?_; conv => whnf))
  exact hK
set_option maxRecDepth 20000 in
theorem rimpl_GratingMask {n p q : Int} (hK : K (wc (maskR (isSide n && inR p 1 n && inR q 0 p) n (fun _ x => cmI .lss (arI .rem .i64 (x : Int) p) q))) m) : CallLeaf Try.prog w0 28 [AV.int n, AV.int p, AV.int q] m K := call_nil rfl fun w0 => by
  refine fn_go hmix h28 ?_
  conv => whnf
  repeat (first | (refine br.yes ?_; conv => whnf) | (refine br.no ?_; conv => whnf))
  refine c_isSide ?_
  conv => whnf
  repeat (first | (refine br.yes ?_; conv => whnf) | (refine br.no ?_; conv => whnf))
  refine br_intro (fun h => ?_) (fun h => ?_)
  · conv => whnf
    repeat (first | (refine br.yes ?_; conv => whnf) | (refine br.no ?_; conv => whnf))
    rw [maskR_no (by rw [notB_eq] at h; simp at h; simp [h])] at hK
    exact ⟨rfl, hK⟩
  conv => whnf
  repeat (first | (refine br.yes ?_; conv => whnf) | (refine br.no ?_; conv => whnf))
  refine c_within ?_
  conv => whnf
  repeat (first | (refine br.yes ?_; conv => whnf) | (refine br.no ?_; conv => whnf))
  refine br_intro (fun h2 => ?_) (fun h2 => ?_)
  · conv => whnf
    repeat (first | (refine br.yes ?_; conv => whnf) | (refine br.no ?_; conv => whnf))
    rw [maskR_no (by rw [notB_eq] at h2; simp at h2; simp [h2])] at hK
    exact ⟨rfl, hK⟩
  conv => whnf
  repeat (first | (refine br.yes ?_; conv => whnf) | (refine br.no ?_; conv => whnf))
  refine c_within ?_
  conv => whnf
  repeat (first | (refine br.yes ?_; conv => whnf) | (refine br.no ?_; conv => whnf))
  refine br_intro (fun h3 => ?_) (fun h3 => ?_)
  · conv => whnf
    repeat (first | (refine br.yes ?_; conv => whnf) | (refine br.no ?_; conv => whnf))
    rw [maskR_no (by rw [notB_eq] at h3; simp at h3; simp [h3])] at hK
    exact ⟨rfl, hK⟩
  conv => whnf
  repeat (first | (refine br.yes ?_; conv => whnf) | (refine br.no ?_; conv => whnf))
  have hok : (isSide n && inR p 1 n && inR q 0 p) = true := by rw [notB_eq] at h h2 h3; simp at h h2 h3; simp [h, h2, h3]
  have hp : p ≠ 0 := by rw [notB_eq] at h2; simp [inR] at h2; omega
  obtain ⟨N, rfl, hN8, hN0⟩ := side_nat (n := n) (by rw [notB_eq] at h; simpa using h)
  rw [maskR_ok hok] at hK
  refine c_maskBy (g := fun _ x => cmI .lss (arI .rem .i64 (x : Int) p) q) ⟨hN0, hN8⟩ (by kernel_rfl) (fun ext y x K hy hx hK => g_GratingMask (a := 0) (b := 1) rfl rfl hp hK) ?_
  conv => whnf
  repeat (first | (refine br.yes ?_; conv => whnf) | (refine br.no ?_; conv => whnf))
  exact ⟨rfl, hK⟩

set_option maxRecDepth 20000 in
theorem ospec_GratingMask {n p q : Int} (hK : K (wc (plusR (maskR (isSide n && inR p 1 n && inR q 0 p) n (fun _ x => cmI .lss (arI .rem .i64 (x : Int) p) q)))) m) : CallLeaf Try.prog w0 10 [AV.int n, AV.int p, AV.int q] m K := call_nil rfl fun w0 => by
  refine fn_go hmix h10 ?_
  conv => whnf
  repeat (first | (refine br.yes ?_; conv => whnf) | (refine br.no ?_; conv => whnf))
  refine rspec_GratingMask ?_
  have hl := maskR_length (ok := isSide n && inR p 1 n && inR q 0 p) (n := n) (g := fun _ x => cmI .lss (arI .rem .i64 (x : Int) p) q)
  unfold wc plusR at hK
  unfold wc
  generalize maskR (isSide n && inR p 1 n && inR q 0 p) n (fun _ x => cmI .lss (arI .rem .i64 (x : Int) p) q) = R at hK hl ⊢
  conv => whnf
  repeat (first | (refine br.yes ?_; conv => whnf) | (refine br.no ?_; conv => whnf))
  refine c_l01PlusWave hl ?_
  conv => whnf
  repeat (first | (refine br.yes ?_; conv => whnf) | (refine br.no ?_; conv => whnf))
  exact ⟨rfl, hK⟩
set_option maxRecDepth 20000 in
theorem oimpl_GratingMask {n p q : Int} (hK : K (wc (plusR (maskR (isSide n && inR p 1 n && inR q 0 p) n (fun _ x => cmI .lss (arI .rem .i64 (x : Int) p) q)))) m) : CallLeaf Try.prog w0 11 [AV.int n, AV.int p, AV.int q] m K := call_nil rfl fun w0 => by
  refine fn_go hmix h11 ?_
  conv => whnf
  repeat (first | (refine br.yes ?_; conv => whnf) | (refine br.no ?_; conv => whnf))
  refine rimpl_GratingMask ?_
  have hl := maskR_length (ok := isSide n && inR p 1 n && inR q 0 p) (n := n) (g := fun _ x => cmI .lss (arI .rem .i64 (x : Int) p) q)
  unfold wc plusR at hK
  unfold wc
  generalize maskR (isSide n && inR p 1 n && inR q 0 p) n (fun _ x => cmI .lss (arI .rem .i64 (x : Int) p) q) = R at hK hl ⊢
  conv => whnf
  repeat (first | (refine br.yes ?_; conv => whnf) | (refine br.no ?_; conv => whnf))
  refine c_plainWave hl ?_
  conv => whnf
  repeat (first | (refine br.yes ?_; conv => whnf) | (refine br.no ?_; conv => whnf))
  exact ⟨rfl, hK⟩
set_option maxRecDepth 20000 in
theorem law_GratingMask {n p q : Int} (hK : ∀ m, K (AV.bool true) m) : CallLeaf Try.prog w0 3 [AV.int n, AV.int p, AV.int q] [] K := by
  refine fn_go hmix h3 ?_
  conv => whnf
  repeat (first | (refine br.yes ?_; conv => whnf) | (refine br.no ?_; conv => whnf))
  obtain ⟨R, hR⟩ : ∃ R, R = plusR (maskR (isSide n && inR p 1 n && inR q 0 p) n (fun _ x => cmI .lss (arI .rem .i64 (x : Int) p) q)) := ⟨_, rfl⟩
  refine ospec_GratingMask ?_
  rw [← hR]
  unfold wc
  conv => whnf
  repeat (first | (refine br.yes ?_; conv => whnf) | (refine br.no ?_; conv => whnf))
  refine oimpl_GratingMask ?_
  rw [← hR]
  unfold wc
  conv => whnf
  repeat (first | (refine br.yes ?_; conv => whnf) | (refine br.no ?_; conv => whnf))
  refine c_eqWave ?_
  conv => whnf
  repeat (first | (refine br.yes ?_; conv => whnf) | (refine br.no ?_; conv => whnf))
  refine br_false (by rw [notB_eq]; rfl) ?_
  conv => whnf
  repeat (first | (refine br.yes ?_; conv => whnf) | (refine br.no ?_; conv => whnf))
  refine br_false (neq_self _) ?_
  conv => whnf
  repeat (first | (refine br.yes ?_; conv => whnf) | (refine br.no ?_; conv => whnf))
  exact hK _

def dist (y x v u : Int) : Int := arI .add .i64 (arI .mul .i64 (arI .sub .i64 (arI .mul .i64 2 y) v) (arI .sub .i64 (arI .mul .i64 2 y) v)) (arI .mul .i64 (arI .sub .i64 (arI .mul .i64 2 x) u) (arI .sub .i64 (arI .mul .i64 2 x) u))
def isCtr (n v u : Int) : Bool := isSide n && inR v 0 (arI .mul .i64 2 (arI .sub .i64 n 1)) && inR u 0 (arI .mul .i64 2 (arI .sub .i64 n 1))
set_option maxRecDepth 20000 in
theorem c_l03Distance {y x v u : Int} (hK : K (AV.int (dist y x v u)) m) : CallLeaf Try.prog w0 65 [AV.int y, AV.int x, AV.int v, AV.int u] m K := by
  unfold dist at hK
  refine fn_go hmix h65 ?_
  conv => whnf
  repeat (first | (refine br.yes ?_; conv => whnf) | (refine br.no ?_; conv => whnf))
  exact hK
set_option maxRecDepth 20000 in
theorem c_distance {y x v u : Int} (hK : K (AV.int (dist y x v u)) m) : CallLeaf Try.prog w0 68 [AV.int y, AV.int x, AV.int v, AV.int u] m K := by
  unfold dist at hK
  refine fn_go hmix h68 ?_
  conv => whnf
  repeat (first | (refine br.yes ?_; conv => whnf) | (refine br.no ?_; conv => whnf))
  exact hK

theorem c_l03Centre {n v u : Int} (hK : K (AV.bool (isCtr n v u)) m) : CallLeaf Try.prog w0 64 [AV.int n, AV.int v, AV.int u] m K := by
  refine fn_go hmix h64 ?_
  conv => whnf
  repeat (first | (refine br.yes ?_; conv => whnf) | (refine br.no ?_; conv => whnf))
  refine c_l01Side ?_
  conv => whnf
  repeat (first | (refine br.yes ?_; conv => whnf) | (refine br.no ?_; conv => whnf))
  refine br_intro (fun h => ?_) (fun h => ?_)
  · conv => whnf
    repeat (first | (refine br.yes ?_; conv => whnf) | (refine br.no ?_; conv => whnf))
    refine c_l01In ?_
    conv => whnf
    repeat (first | (refine br.yes ?_; conv => whnf) | (refine br.no ?_; conv => whnf))
    refine br_intro (fun h2 => ?_) (fun h2 => ?_)
    · conv => whnf
      repeat (first | (refine br.yes ?_; conv => whnf) | (refine br.no ?_; conv => whnf))
      refine c_l01In ?_
      conv => whnf
      repeat (first | (refine br.yes ?_; conv => whnf) | (refine br.no ?_; conv => whnf))
      exact K_bool hK (by simp [isCtr, h, h2])
    · conv => whnf
      repeat (first | (refine br.yes ?_; conv => whnf) | (refine br.no ?_; conv => whnf))
      exact K_bool hK (by simp [isCtr, h, h2])
  · conv => whnf
    repeat (first | (refine br.yes ?_; conv => whnf) | (refine br.no ?_; conv => whnf))
    exact K_bool hK (by simp [isCtr, h])

theorem c_isCentre {n v u : Int} (hK : K (AV.bool (isCtr n v u)) m) : CallLeaf Try.prog w0 66 [AV.int n, AV.int v, AV.int u] m K := by
  refine fn_go hmix h66 ?_
  conv => whnf
  repeat (first | (refine br.yes ?_; conv => whnf) | (refine br.no ?_; conv => whnf))
  refine c_isSide ?_
  conv => whnf
  repeat (first | (refine br.yes ?_; conv => whnf) | (refine br.no ?_; conv => whnf))
  refine br_intro (fun h => ?_) (fun h => ?_)
  · conv => whnf
    repeat (first | (refine br.yes ?_; conv => whnf) | (refine br.no ?_; conv => whnf))
    refine c_within ?_
    conv => whnf
    repeat (first | (refine br.yes ?_; conv => whnf) | (refine br.no ?_; conv => whnf))
    refine br_intro (fun h2 => ?_) (fun h2 => ?_)
    · conv => whnf
      repeat (first | (refine br.yes ?_; conv => whnf) | (refine br.no ?_; conv => whnf))
      refine c_within ?_
      conv => whnf
      repeat (first | (refine br.yes ?_; conv => whnf) | (refine br.no ?_; conv => whnf))
      exact K_bool hK (by simp [isCtr, h, h2])
    · conv => whnf
      repeat (first | (refine br.yes ?_; conv => whnf) | (refine br.no ?_; conv => whnf))
      exact K_bool hK (by simp [isCtr, h, h2])
  · conv => whnf
    repeat (first | (refine br.yes ?_; conv => whnf) | (refine br.no ?_; conv => whnf))
    exact K_bool hK (by simp [isCtr, h])

set_option maxRecDepth 20000 in
set_option maxHeartbeats 1600000 in
theorem rspec_CheckMask {n p : Int} (hK : K (wc (maskR (isSide n && inR p 1 n) n (fun y x => cmI .eql (arI .rem .i64 (arI .add .i64 (arI .quo .i64 (y : Int) p) (arI .quo .i64 (x : Int) p)) 2) 0))) m) : CallLeaf Try.prog w0 33 [AV.int n, AV.int p] m K := call_nil rfl fun w0 => by
  refine fn_go hmix h33 ?_
  conv => whnf
  repeat (first | (refine br.yes ?_; conv => whnf) | (refine br.no ?_; conv => whnf))
  refine c_l01Side ?_
  conv => whnf
  repeat (first | (refine br.yes ?_; conv => whnf) | (refine br.no ?_; conv => whnf))
  refine br_intro (fun h0 => ?_) (fun h0 => ?_)
  · conv => whnf
    repeat (first | (refine br.yes ?_; conv => whnf) | (refine br.no ?_; conv => whnf))
    rw [maskR_no (by rw [notB_eq] at h0; simp at h0; simp [h0])] at hK
    exact ⟨rfl, hK⟩
  conv => whnf
  repeat (first | (refine br.yes ?_; conv => whnf) | (refine br.no ?_; conv => whnf))
  refine c_l01In ?_
  conv => whnf
  repeat (first | (refine br.yes ?_; conv => whnf) | (refine br.no ?_; conv => whnf))
  refine br_intro (fun h1 => ?_) (fun h1 => ?_)
  · conv => whnf
    repeat (first | (refine br.yes ?_; conv => whnf) | (refine br.no ?_; conv => whnf))
    rw [maskR_no (by rw [notB_eq] at h1; simp at h1; simp [h1])] at hK
    exact ⟨rfl, hK⟩
  conv => whnf
  repeat (first | (refine br.yes ?_; conv => whnf) | (refine br.no ?_; conv => whnf))
  have hok : (isSide n && inR p 1 n) = true := by rw [notB_eq] at h0 h1; simp at h0 h1; simp [h0, h1]
  have hp : p ≠ 0 := by rw [notB_eq] at h1; simp [inR] at h1; omega
  have hok' := hok
  simp [isCtr] at hok'
  obtain ⟨N, rfl, hN8, hN0⟩ := side_nat (n := n) (by simp [hok'])
  have hNN := sq_le hN8
  rw [maskR_ok hok] at hK
  refine c_l01Empty ?_
  conv => whnf
  repeat (first | (refine br.yes ?_; conv => whnf) | (refine br.no ?_; conv => whnf))
  refine loop_inv N (fun y ts m => m = [⟨true, .st [AV.int 0, .ac 64 (List.replicate 64 (0, 0))], 0⟩, ⟨true, .st [AV.int N, .ac 64 (tabTo (maskV N (fun y x => cmI .eql (arI .rem .i64 (arI .add .i64 (arI .quo .i64 (y : Int) p) (arI .quo .i64 (x : Int) p)) 2) 0)) (N * y))], 0⟩] ∧ ts = [AV.int N, AV.int p, .junk, .junk, .ptr 0 [], AV.int 0, .ptr 1 [], AV.int y, .junk, .junk, .junk, .junk, .junk, .junk, .junk, .junk, .junk, .junk, .junk, .junk, .junk, .junk, .junk, .junk, .junk, .junk, .junk, .junk, .junk, .junk, .junk, .junk, .junk, .junk, .junk, .junk, .junk, .junk, .junk, .junk, .junk, .junk, .junk, .junk, .junk, .junk, .junk, .junk]) _ _ ?hw trim_no ⟨by rw [Nat.mul_zero, tabTo_zero] <;> rfl, rfl⟩ ?_
  case hw =>
    repeat (first | exact weak_nil | refine weak_same ?_ | refine weak_junk ?_)
  rintro y hy ts m' ⟨rfl, rfl⟩ R hR
  conv => whnf
  repeat (first | (refine br.yes ?_; conv => whnf) | (refine br.no ?_; conv => whnf))
  refine br_intro (fun g1 => ?_) (fun g1 => ?_)
  · have hy1 := lt_of_lss g1
    conv => whnf
    repeat (first | (refine br.yes ?_; conv => whnf) | (refine br.no ?_; conv => whnf))
    refine loop_inv N (fun x ts m => m = [⟨true, .st [AV.int 0, .ac 64 (List.replicate 64 (0, 0))], 0⟩, ⟨true, .st [AV.int N, .ac 64 (tabTo (maskV N (fun y x => cmI .eql (arI .rem .i64 (arI .add .i64 (arI .quo .i64 (y : Int) p) (arI .quo .i64 (x : Int) p)) 2) 0)) (N * y + x))], 0⟩] ∧ ts = [AV.int N, AV.int p, .junk, .junk, .ptr 0 [], AV.int 0, .ptr 1 [], AV.int y, AV.int x, .junk, .junk, .junk, .junk, .junk, .junk, .junk, .junk, .junk, .junk, .junk, .junk, .junk, .junk, .junk, .junk, .junk, .junk, .junk, .junk, .junk, .junk, .junk, .junk, .junk, .junk, .junk, .junk, .junk, .junk, .junk, .junk, .junk, .junk, .junk, .junk, .junk, .junk, .junk]) _ _ ?hw2 trim_no ⟨rfl, rfl⟩ ?_
    case hw2 =>
      repeat (first | exact weak_nil | refine weak_same ?_ | refine weak_junk ?_)
    rintro x hx ts m' ⟨rfl, rfl⟩ R2 hR2
    conv => whnf
    repeat (first | (refine br.yes ?_; conv => whnf) | (refine br.no ?_; conv => whnf))
    refine br_intro (fun g2 => ?_) (fun g2 => ?_)
    · have hx1 := lt_of_lss g2
      obtain ⟨d1, d2, d3⟩ := dims hy1 hx1 hN8
      have hv := maskV_at (g := fun y x => cmI .eql (arI .rem .i64 (arI .add .i64 (arI .quo .i64 (y : Int) p) (arI .quo .i64 (x : Int) p)) 2) 0) (y := y) hx1
      have e1 : arI .mul .i64 (N : Int) (y : Int) = ((N * y : Nat) : Int) := mul_nat (by omega) (by omega)
      have e2 : arI .add .i64 ((N * y : Nat) : Int) (x : Int) = ((N * y + x : Nat) : Int) := add_nat (by omega) (by omega)
      obtain ⟨k, hk⟩ : ∃ k, k = N * y + x := ⟨_, rfl⟩
      rw [← hk] at hv e2 d1
      conv => whnf
      repeat (first | (refine br.yes ?_; conv => whnf) | (refine br.no ?_; conv => whnf))
      refine ⟨side_in (hp), ?_⟩
      conv => whnf
      repeat (first | (refine br.yes ?_; conv => whnf) | (refine br.no ?_; conv => whnf))
      refine ⟨side_in (hp), ?_⟩
      conv => whnf
      repeat (first | (refine br.yes ?_; conv => whnf) | (refine br.no ?_; conv => whnf))
      refine ⟨side_in (by decide), ?_⟩
      conv => whnf
      repeat (first | (refine br.yes ?_; conv => whnf) | (refine br.no ?_; conv => whnf))
      refine br_intro (fun g3 => ?_) (fun g3 => ?_)
      · simp only [g3, if_true] at hv
        conv => whnf
        repeat (first | (refine br.yes ?_; conv => whnf) | (refine br.no ?_; conv => whnf))
        rw [e1, e2]
        refine ⟨side_in ⟨by omega, by omega⟩, ?_⟩
        conv => whnf
        repeat (first | (refine br.yes ?_; conv => whnf) | (refine br.no ?_; conv => whnf))
        refine ⟨side_in (by rw [toN_nat]; exact (show k < 64 by omega)), ?_⟩
        conv => whnf
        repeat (first | (refine br.yes ?_; conv => whnf) | (refine br.no ?_; conv => whnf))
        rw [toN_nat, upd_eq, add_one (by omega), ← hk]
        refine hR2 hx1 _ _ _ _ ?hw3 trim_no ⟨by rw [← Nat.add_assoc, ← hk, ← tabTo_set hv] <;> rfl, rfl⟩
        case hw3 =>
          repeat (first | exact weak_nil | refine weak_same ?_ | refine weak_junk ?_)
      · simp only [g3, Bool.false_eq_true, if_false] at hv
        conv => whnf
        repeat (first | (refine br.yes ?_; conv => whnf) | (refine br.no ?_; conv => whnf))
        rw [add_one (by omega), ← hk]
        refine hR2 hx1 _ _ _ _ ?hw4 trim_no ⟨by rw [← Nat.add_assoc, ← hk, tabTo_skip hv] <;> rfl, rfl⟩
        case hw4 =>
          repeat (first | exact weak_nil | refine weak_same ?_ | refine weak_junk ?_)
    · have hx2 : x = N := by have := ge_of_lss g2; omega
      subst hx2
      conv => whnf
      repeat (first | (refine br.yes ?_; conv => whnf) | (refine br.no ?_; conv => whnf))
      rw [add_one (by omega)]
      refine hR hy1 _ _ _ _ ?hw5 trim_no ⟨by rw [Nat.mul_add, Nat.mul_one] <;> rfl, rfl⟩
      case hw5 =>
        repeat (first | exact weak_nil | refine weak_same ?_ | refine weak_junk ?_)
  · have hy2 : y = N := by have := ge_of_lss g1; omega
    subst hy2
    conv => whnf
    repeat (first | (refine br.yes ?_; conv => whnf) | (refine br.no ?_; conv => whnf))
    exact ⟨rfl, hK⟩

theorem g_CheckMask {a ra : Nat} {oa : Bool} {p y x : Int} (ha : getE m a = some ⟨oa, AV.int p, ra⟩) (hp : p ≠ 0)
    (hK : K (AV.bool (cmI .eql (arI .rem .i64 (arI .add .i64 (arI .quo .i64 y p) (arI .quo .i64 x p)) 2) 0)) m) : CallLeaf Try.prog w0 63 [AV.int y, AV.int x, .ptr a []] m K := by
  refine fn_go hmix h63 ?_
  conv => whnf
  repeat (first | (refine br.yes ?_; conv => whnf) | (refine br.no ?_; conv => whnf))
  rw [ha]
  conv => whnf
  repeat (first | (refine br.yes ?_; conv => whnf) | (refine br.no ?_; conv => whnf))
  refine ⟨side_in hp, ?_⟩
  conv => whnf
  repeat (first | (refine br.yes ?_; conv => whnf) | (refine br.no ?_; conv => whnf))
  rw [ha]
  conv => whnf
  repeat (first | (refine br.yes ?_; conv => whnf) | (refine br.no ?_; conv => whnf))
  refine ⟨side_in hp, ?_⟩
  conv => whnf
  repeat (first | (refine br.yes ?_; conv => whnf) | (refine br.no ?_; conv => whnf))
  refine ⟨side_in (by decide), ?_⟩
  conv => whnf
  repeat (first | (refine br.yes ?_; conv => whnf) | (refine br.no ?_; conv => whnf))
  exact hK

set_option maxRecDepth 20000 in
theorem rimpl_CheckMask {n p : Int} (hK : K (wc (maskR (isSide n && inR p 1 n) n (fun y x => cmI .eql (arI .rem .i64 (arI .add .i64 (arI .quo .i64 (y : Int) p) (arI .quo .i64 (x : Int) p)) 2) 0))) m) : CallLeaf Try.prog w0 34 [AV.int n, AV.int p] m K := call_nil rfl fun w0 => by
  refine fn_go hmix h34 ?_
  conv => whnf
  repeat (first | (refine br.yes ?_; conv => whnf) | (refine br.no ?_; conv => whnf))
  refine c_isSide ?_
  conv => whnf
  repeat (first | (refine br.yes ?_; conv => whnf) | (refine br.no ?_; conv => whnf))
  refine br_intro (fun h0 => ?_) (fun h0 => ?_)
  · conv => whnf
    repeat (first | (refine br.yes ?_; conv => whnf) | (refine br.no ?_; conv => whnf))
    rw [maskR_no (by rw [notB_eq] at h0; simp at h0; simp [h0])] at hK
    exact ⟨rfl, hK⟩
  conv => whnf
  repeat (first | (refine br.yes ?_; conv => whnf) | (refine br.no ?_; conv => whnf))
  refine c_within ?_
  conv => whnf
  repeat (first | (refine br.yes ?_; conv => whnf) | (refine br.no ?_; conv => whnf))
  refine br_intro (fun h1 => ?_) (fun h1 => ?_)
  · conv => whnf
    repeat (first | (refine br.yes ?_; conv => whnf) | (refine br.no ?_; conv => whnf))
    rw [maskR_no (by rw [notB_eq] at h1; simp at h1; simp [h1])] at hK
    exact ⟨rfl, hK⟩
  conv => whnf
  repeat (first | (refine br.yes ?_; conv => whnf) | (refine br.no ?_; conv => whnf))
  have hok : (isSide n && inR p 1 n) = true := by rw [notB_eq] at h0 h1; simp at h0 h1; simp [h0, h1]
  have hp : p ≠ 0 := by rw [notB_eq] at h1; simp [inR] at h1; omega
  have hok' := hok
  simp [isCtr] at hok'
  obtain ⟨N, rfl, hN8, hN0⟩ := side_nat (n := n) (by simp [hok'])
  have hNN := sq_le hN8
  rw [maskR_ok hok] at hK
  refine c_maskBy (g := fun y x => cmI .eql (arI .rem .i64 (arI .add .i64 (arI .quo .i64 (y : Int) p) (arI .quo .i64 (x : Int) p)) 2) 0) ⟨hN0, hN8⟩ (by kernel_rfl) (fun ext y x K hy hx hK => g_CheckMask (a := 0) rfl hp hK) ?_
  conv => whnf
  repeat (first | (refine br.yes ?_; conv => whnf) | (refine br.no ?_; conv => whnf))
  exact ⟨rfl, hK⟩

set_option maxRecDepth 20000 in
theorem ospec_CheckMask {n p : Int} (hK : K (wc (plusR (maskR (isSide n && inR p 1 n) n (fun y x => cmI .eql (arI .rem .i64 (arI .add .i64 (arI .quo .i64 (y : Int) p) (arI .quo .i64 (x : Int) p)) 2) 0)))) m) : CallLeaf Try.prog w0 15 [AV.int n, AV.int p] m K := call_nil rfl fun w0 => by
  refine fn_go hmix h15 ?_
  conv => whnf
  repeat (first | (refine br.yes ?_; conv => whnf) | (refine br.no ?_; conv => whnf))
  refine rspec_CheckMask ?_
  have hl := maskR_length (ok := isSide n && inR p 1 n) (n := n) (g := fun y x => cmI .eql (arI .rem .i64 (arI .add .i64 (arI .quo .i64 (y : Int) p) (arI .quo .i64 (x : Int) p)) 2) 0)
  unfold wc plusR at hK
  unfold wc
  generalize maskR (isSide n && inR p 1 n) n (fun y x => cmI .eql (arI .rem .i64 (arI .add .i64 (arI .quo .i64 (y : Int) p) (arI .quo .i64 (x : Int) p)) 2) 0) = R at hK hl ⊢
  conv => whnf
  repeat (first | (refine br.yes ?_; conv => whnf) | (refine br.no ?_; conv => whnf))
  refine c_l01PlusWave hl ?_
  conv => whnf
  repeat (first | (refine br.yes ?_; conv => whnf) | (refine br.no ?_; conv => whnf))
  exact ⟨rfl, hK⟩
set_option maxRecDepth 20000 in
theorem oimpl_CheckMask {n p : Int} (hK : K (wc (plusR (maskR (isSide n && inR p 1 n) n (fun y x => cmI .eql (arI .rem .i64 (arI .add .i64 (arI .quo .i64 (y : Int) p) (arI .quo .i64 (x : Int) p)) 2) 0)))) m) : CallLeaf Try.prog w0 16 [AV.int n, AV.int p] m K := call_nil rfl fun w0 => by
  refine fn_go hmix h16 ?_
  conv => whnf
  repeat (first | (refine br.yes ?_; conv => whnf) | (refine br.no ?_; conv => whnf))
  refine rimpl_CheckMask ?_
  have hl := maskR_length (ok := isSide n && inR p 1 n) (n := n) (g := fun y x => cmI .eql (arI .rem .i64 (arI .add .i64 (arI .quo .i64 (y : Int) p) (arI .quo .i64 (x : Int) p)) 2) 0)
  unfold wc plusR at hK
  unfold wc
  generalize maskR (isSide n && inR p 1 n) n (fun y x => cmI .eql (arI .rem .i64 (arI .add .i64 (arI .quo .i64 (y : Int) p) (arI .quo .i64 (x : Int) p)) 2) 0) = R at hK hl ⊢
  conv => whnf
  repeat (first | (refine br.yes ?_; conv => whnf) | (refine br.no ?_; conv => whnf))
  refine c_plainWave hl ?_
  conv => whnf
  repeat (first | (refine br.yes ?_; conv => whnf) | (refine br.no ?_; conv => whnf))
  exact ⟨rfl, hK⟩
set_option maxRecDepth 20000 in
theorem law_CheckMask {n p : Int} (hK : ∀ m, K (AV.bool true) m) : CallLeaf Try.prog w0 5 [AV.int n, AV.int p] [] K := by
  refine fn_go hmix h5 ?_
  conv => whnf
  repeat (first | (refine br.yes ?_; conv => whnf) | (refine br.no ?_; conv => whnf))
  obtain ⟨R, hR⟩ : ∃ R, R = plusR (maskR (isSide n && inR p 1 n) n (fun y x => cmI .eql (arI .rem .i64 (arI .add .i64 (arI .quo .i64 (y : Int) p) (arI .quo .i64 (x : Int) p)) 2) 0)) := ⟨_, rfl⟩
  refine ospec_CheckMask ?_
  rw [← hR]
  unfold wc
  conv => whnf
  repeat (first | (refine br.yes ?_; conv => whnf) | (refine br.no ?_; conv => whnf))
  refine oimpl_CheckMask ?_
  rw [← hR]
  unfold wc
  conv => whnf
  repeat (first | (refine br.yes ?_; conv => whnf) | (refine br.no ?_; conv => whnf))
  refine c_eqWave ?_
  conv => whnf
  repeat (first | (refine br.yes ?_; conv => whnf) | (refine br.no ?_; conv => whnf))
  refine br_false (by rw [notB_eq]; rfl) ?_
  conv => whnf
  repeat (first | (refine br.yes ?_; conv => whnf) | (refine br.no ?_; conv => whnf))
  refine br_false (neq_self _) ?_
  conv => whnf
  repeat (first | (refine br.yes ?_; conv => whnf) | (refine br.no ?_; conv => whnf))
  exact hK _

set_option maxRecDepth 20000 in
set_option maxHeartbeats 1600000 in
theorem rspec_DiscMask {n v u r : Int} (hK : K (wc (maskR (isCtr n v u && inR r 0 1000) n (fun y x => cmI .leq (dist y x v u) r))) m) : CallLeaf Try.prog w0 35 [AV.int n, AV.int v, AV.int u, AV.int r] m K := call_nil rfl fun w0 => by
  refine fn_go hmix h35 ?_
  conv => whnf
  repeat (first | (refine br.yes ?_; conv => whnf) | (refine br.no ?_; conv => whnf))
  refine c_l03Centre ?_
  conv => whnf
  repeat (first | (refine br.yes ?_; conv => whnf) | (refine br.no ?_; conv => whnf))
  refine br_intro (fun h0 => ?_) (fun h0 => ?_)
  · conv => whnf
    repeat (first | (refine br.yes ?_; conv => whnf) | (refine br.no ?_; conv => whnf))
    rw [maskR_no (by rw [notB_eq] at h0; simp at h0; simp [h0])] at hK
    exact ⟨rfl, hK⟩
  conv => whnf
  repeat (first | (refine br.yes ?_; conv => whnf) | (refine br.no ?_; conv => whnf))
  refine c_l01In ?_
  conv => whnf
  repeat (first | (refine br.yes ?_; conv => whnf) | (refine br.no ?_; conv => whnf))
  refine br_intro (fun h1 => ?_) (fun h1 => ?_)
  · conv => whnf
    repeat (first | (refine br.yes ?_; conv => whnf) | (refine br.no ?_; conv => whnf))
    rw [maskR_no (by rw [notB_eq] at h1; simp at h1; simp [h1])] at hK
    exact ⟨rfl, hK⟩
  conv => whnf
  repeat (first | (refine br.yes ?_; conv => whnf) | (refine br.no ?_; conv => whnf))
  have hok : (isCtr n v u && inR r 0 1000) = true := by rw [notB_eq] at h0 h1; simp at h0 h1; simp [h0, h1]
  have hok' := hok
  simp [isCtr] at hok'
  obtain ⟨N, rfl, hN8, hN0⟩ := side_nat (n := n) (by simp [hok'])
  have hNN := sq_le hN8
  rw [maskR_ok hok] at hK
  refine c_l01Empty ?_
  conv => whnf
  repeat (first | (refine br.yes ?_; conv => whnf) | (refine br.no ?_; conv => whnf))
  refine loop_inv N (fun y ts m => m = [⟨true, .st [AV.int 0, .ac 64 (List.replicate 64 (0, 0))], 0⟩, ⟨true, .st [AV.int N, .ac 64 (tabTo (maskV N (fun y x => cmI .leq (dist y x v u) r)) (N * y))], 0⟩] ∧ ts = [AV.int N, AV.int v, AV.int u, AV.int r, .junk, .junk, .junk, .junk, .ptr 0 [], AV.int 0, .ptr 1 [], AV.int y, .junk, .junk, .junk, .junk, .junk, .junk, .junk, .junk, .junk, .junk, .junk, .junk, .junk, .junk, .junk, .junk, .junk, .junk, .junk, .junk, .junk, .junk, .junk, .junk, .junk, .junk, .junk, .junk, .junk, .junk, .junk, .junk, .junk, .junk, .junk, .junk, .junk, .junk, .junk]) _ _ ?hw trim_no ⟨by rw [Nat.mul_zero, tabTo_zero] <;> rfl, rfl⟩ ?_
  case hw =>
    repeat (first | exact weak_nil | refine weak_same ?_ | refine weak_junk ?_)
  rintro y hy ts m' ⟨rfl, rfl⟩ R hR
  conv => whnf
  repeat (first | (refine br.yes ?_; conv => whnf) | (refine br.no ?_; conv => whnf))
  refine br_intro (fun g1 => ?_) (fun g1 => ?_)
  · have hy1 := lt_of_lss g1
    conv => whnf
    repeat (first | (refine br.yes ?_; conv => whnf) | (refine br.no ?_; conv => whnf))
    refine loop_inv N (fun x ts m => m = [⟨true, .st [AV.int 0, .ac 64 (List.replicate 64 (0, 0))], 0⟩, ⟨true, .st [AV.int N, .ac 64 (tabTo (maskV N (fun y x => cmI .leq (dist y x v u) r)) (N * y + x))], 0⟩] ∧ ts = [AV.int N, AV.int v, AV.int u, AV.int r, .junk, .junk, .junk, .junk, .ptr 0 [], AV.int 0, .ptr 1 [], AV.int y, AV.int x, .junk, .junk, .junk, .junk, .junk, .junk, .junk, .junk, .junk, .junk, .junk, .junk, .junk, .junk, .junk, .junk, .junk, .junk, .junk, .junk, .junk, .junk, .junk, .junk, .junk, .junk, .junk, .junk, .junk, .junk, .junk, .junk, .junk, .junk, .junk, .junk, .junk, .junk]) _ _ ?hw2 trim_no ⟨rfl, rfl⟩ ?_
    case hw2 =>
      repeat (first | exact weak_nil | refine weak_same ?_ | refine weak_junk ?_)
    rintro x hx ts m' ⟨rfl, rfl⟩ R2 hR2
    conv => whnf
    repeat (first | (refine br.yes ?_; conv => whnf) | (refine br.no ?_; conv => whnf))
    refine br_intro (fun g2 => ?_) (fun g2 => ?_)
    · have hx1 := lt_of_lss g2
      obtain ⟨d1, d2, d3⟩ := dims hy1 hx1 hN8
      have hv := maskV_at (g := fun y x => cmI .leq (dist y x v u) r) (y := y) hx1
      have e1 : arI .mul .i64 (N : Int) (y : Int) = ((N * y : Nat) : Int) := mul_nat (by omega) (by omega)
      have e2 : arI .add .i64 ((N * y : Nat) : Int) (x : Int) = ((N * y + x : Nat) : Int) := add_nat (by omega) (by omega)
      obtain ⟨k, hk⟩ : ∃ k, k = N * y + x := ⟨_, rfl⟩
      rw [← hk] at hv e2 d1
      conv => whnf
      repeat (first | (refine br.yes ?_; conv => whnf) | (refine br.no ?_; conv => whnf))
      refine c_l03Distance ?_
      conv => whnf
      repeat (first | (refine br.yes ?_; conv => whnf) | (refine br.no ?_; conv => whnf))
      refine br_intro (fun g3 => ?_) (fun g3 => ?_)
      · simp only [g3, if_true] at hv
        conv => whnf
        repeat (first | (refine br.yes ?_; conv => whnf) | (refine br.no ?_; conv => whnf))
        rw [e1, e2]
        refine ⟨side_in ⟨by omega, by omega⟩, ?_⟩
        conv => whnf
        repeat (first | (refine br.yes ?_; conv => whnf) | (refine br.no ?_; conv => whnf))
        refine ⟨side_in (by rw [toN_nat]; exact (show k < 64 by omega)), ?_⟩
        conv => whnf
        repeat (first | (refine br.yes ?_; conv => whnf) | (refine br.no ?_; conv => whnf))
        rw [toN_nat, upd_eq, add_one (by omega), ← hk]
        refine hR2 hx1 _ _ _ _ ?hw3 trim_no ⟨by rw [← Nat.add_assoc, ← hk, ← tabTo_set hv] <;> rfl, rfl⟩
        case hw3 =>
          repeat (first | exact weak_nil | refine weak_same ?_ | refine weak_junk ?_)
      · simp only [g3, Bool.false_eq_true, if_false] at hv
        conv => whnf
        repeat (first | (refine br.yes ?_; conv => whnf) | (refine br.no ?_; conv => whnf))
        rw [add_one (by omega), ← hk]
        refine hR2 hx1 _ _ _ _ ?hw4 trim_no ⟨by rw [← Nat.add_assoc, ← hk, tabTo_skip hv] <;> rfl, rfl⟩
        case hw4 =>
          repeat (first | exact weak_nil | refine weak_same ?_ | refine weak_junk ?_)
    · have hx2 : x = N := by have := ge_of_lss g2; omega
      subst hx2
      conv => whnf
      repeat (first | (refine br.yes ?_; conv => whnf) | (refine br.no ?_; conv => whnf))
      rw [add_one (by omega)]
      refine hR hy1 _ _ _ _ ?hw5 trim_no ⟨by rw [Nat.mul_add, Nat.mul_one] <;> rfl, rfl⟩
      case hw5 =>
        repeat (first | exact weak_nil | refine weak_same ?_ | refine weak_junk ?_)
  · have hy2 : y = N := by have := ge_of_lss g1; omega
    subst hy2
    conv => whnf
    repeat (first | (refine br.yes ?_; conv => whnf) | (refine br.no ?_; conv => whnf))
    exact ⟨rfl, hK⟩

theorem g_DiscMask {a b c ra rb rc : Nat} {oa ob oc : Bool} {v u r y x : Int} (ha : getE m a = some ⟨oa, AV.int v, ra⟩) (hb : getE m b = some ⟨ob, AV.int u, rb⟩) (hc : getE m c = some ⟨oc, AV.int r, rc⟩)
    (hK : K (AV.bool (cmI .leq (dist y x v u) r)) m) : CallLeaf Try.prog w0 67 [AV.int y, AV.int x, .ptr a [], .ptr b [], .ptr c []] m K := by
  refine fn_go hmix h67 ?_
  conv => whnf
  repeat (first | (refine br.yes ?_; conv => whnf) | (refine br.no ?_; conv => whnf))
  rw [ha]
  conv => whnf
  repeat (first | (refine br.yes ?_; conv => whnf) | (refine br.no ?_; conv => whnf))
  rw [hb]
  conv => whnf
  repeat (first | (refine br.yes ?_; conv => whnf) | (refine br.no ?_; conv => whnf))
  refine q_keep (AV.int (dist y x v u)) (fun K' h => c_distance h) ?_
  conv => whnf
  repeat (first | (refine br.yes ?_; conv => whnf) | (refine br.no ?_; conv => whnf))
  rw [hc]
  conv => whnf
  repeat (first | (refine br.yes ?_; conv => whnf) | (refine br.no ?_; conv => whnf))
  exact hK

set_option maxRecDepth 20000 in
theorem rimpl_DiscMask {n v u r : Int} (hK : K (wc (maskR (isCtr n v u && inR r 0 1000) n (fun y x => cmI .leq (dist y x v u) r))) m) : CallLeaf Try.prog w0 36 [AV.int n, AV.int v, AV.int u, AV.int r] m K := call_nil rfl fun w0 => by
  refine fn_go hmix h36 ?_
  conv => whnf
  repeat (first | (refine br.yes ?_; conv => whnf) | (refine br.no ?_; conv => whnf))
  refine c_isCentre ?_
  conv => whnf
  repeat (first | (refine br.yes ?_; conv => whnf) | (refine br.no ?_; conv => whnf))
  refine br_intro (fun h0 => ?_) (fun h0 => ?_)
  · conv => whnf
    repeat (first | (refine br.yes ?_; conv => whnf) | (refine br.no ?_; conv => whnf))
    rw [maskR_no (by rw [notB_eq] at h0; simp at h0; simp [h0])] at hK
    exact ⟨rfl, hK⟩
  conv => whnf
  repeat (first | (refine br.yes ?_; conv => whnf) | (refine br.no ?_; conv => whnf))
  refine c_within ?_
  conv => whnf
  repeat (first | (refine br.yes ?_; conv => whnf) | (refine br.no ?_; conv => whnf))
  refine br_intro (fun h1 => ?_) (fun h1 => ?_)
  · conv => whnf
    repeat (first | (refine br.yes ?_; conv => whnf) | (refine br.no ?_; conv => whnf))
    rw [maskR_no (by rw [notB_eq] at h1; simp at h1; simp [h1])] at hK
    exact ⟨rfl, hK⟩
  conv => whnf
  repeat (first | (refine br.yes ?_; conv => whnf) | (refine br.no ?_; conv => whnf))
  have hok : (isCtr n v u && inR r 0 1000) = true := by rw [notB_eq] at h0 h1; simp at h0 h1; simp [h0, h1]
  have hok' := hok
  simp [isCtr] at hok'
  obtain ⟨N, rfl, hN8, hN0⟩ := side_nat (n := n) (by simp [hok'])
  have hNN := sq_le hN8
  rw [maskR_ok hok] at hK
  refine c_maskBy (g := fun y x => cmI .leq (dist y x v u) r) ⟨hN0, hN8⟩ (by kernel_rfl) (fun ext y x K hy hx hK => g_DiscMask (a := 0) (b := 1) (c := 2) rfl rfl rfl hK) ?_
  conv => whnf
  repeat (first | (refine br.yes ?_; conv => whnf) | (refine br.no ?_; conv => whnf))
  exact ⟨rfl, hK⟩

set_option maxRecDepth 20000 in
theorem ospec_DiscMask {n v u r : Int} (hK : K (wc (plusR (maskR (isCtr n v u && inR r 0 1000) n (fun y x => cmI .leq (dist y x v u) r)))) m) : CallLeaf Try.prog w0 17 [AV.int n, AV.int v, AV.int u, AV.int r] m K := call_nil rfl fun w0 => by
  refine fn_go hmix h17 ?_
  conv => whnf
  repeat (first | (refine br.yes ?_; conv => whnf) | (refine br.no ?_; conv => whnf))
  refine rspec_DiscMask ?_
  have hl := maskR_length (ok := isCtr n v u && inR r 0 1000) (n := n) (g := fun y x => cmI .leq (dist y x v u) r)
  unfold wc plusR at hK
  unfold wc
  generalize maskR (isCtr n v u && inR r 0 1000) n (fun y x => cmI .leq (dist y x v u) r) = R at hK hl ⊢
  conv => whnf
  repeat (first | (refine br.yes ?_; conv => whnf) | (refine br.no ?_; conv => whnf))
  refine c_l01PlusWave hl ?_
  conv => whnf
  repeat (first | (refine br.yes ?_; conv => whnf) | (refine br.no ?_; conv => whnf))
  exact ⟨rfl, hK⟩
set_option maxRecDepth 20000 in
theorem oimpl_DiscMask {n v u r : Int} (hK : K (wc (plusR (maskR (isCtr n v u && inR r 0 1000) n (fun y x => cmI .leq (dist y x v u) r)))) m) : CallLeaf Try.prog w0 18 [AV.int n, AV.int v, AV.int u, AV.int r] m K := call_nil rfl fun w0 => by
  refine fn_go hmix h18 ?_
  conv => whnf
  repeat (first | (refine br.yes ?_; conv => whnf) | (refine br.no ?_; conv => whnf))
  refine rimpl_DiscMask ?_
  have hl := maskR_length (ok := isCtr n v u && inR r 0 1000) (n := n) (g := fun y x => cmI .leq (dist y x v u) r)
  unfold wc plusR at hK
  unfold wc
  generalize maskR (isCtr n v u && inR r 0 1000) n (fun y x => cmI .leq (dist y x v u) r) = R at hK hl ⊢
  conv => whnf
  repeat (first | (refine br.yes ?_; conv => whnf) | (refine br.no ?_; conv => whnf))
  refine c_plainWave hl ?_
  conv => whnf
  repeat (first | (refine br.yes ?_; conv => whnf) | (refine br.no ?_; conv => whnf))
  exact ⟨rfl, hK⟩
set_option maxRecDepth 20000 in
theorem law_DiscMask {n v u r : Int} (hK : ∀ m, K (AV.bool true) m) : CallLeaf Try.prog w0 6 [AV.int n, AV.int v, AV.int u, AV.int r] [] K := by
  refine fn_go hmix h6 ?_
  conv => whnf
  repeat (first | (refine br.yes ?_; conv => whnf) | (refine br.no ?_; conv => whnf))
  obtain ⟨R, hR⟩ : ∃ R, R = plusR (maskR (isCtr n v u && inR r 0 1000) n (fun y x => cmI .leq (dist y x v u) r)) := ⟨_, rfl⟩
  refine ospec_DiscMask ?_
  rw [← hR]
  unfold wc
  conv => whnf
  repeat (first | (refine br.yes ?_; conv => whnf) | (refine br.no ?_; conv => whnf))
  refine oimpl_DiscMask ?_
  rw [← hR]
  unfold wc
  conv => whnf
  repeat (first | (refine br.yes ?_; conv => whnf) | (refine br.no ?_; conv => whnf))
  refine c_eqWave ?_
  conv => whnf
  repeat (first | (refine br.yes ?_; conv => whnf) | (refine br.no ?_; conv => whnf))
  refine br_false (by rw [notB_eq]; rfl) ?_
  conv => whnf
  repeat (first | (refine br.yes ?_; conv => whnf) | (refine br.no ?_; conv => whnf))
  refine br_false (neq_self _) ?_
  conv => whnf
  repeat (first | (refine br.yes ?_; conv => whnf) | (refine br.no ?_; conv => whnf))
  exact hK _

set_option maxRecDepth 20000 in
set_option maxHeartbeats 1600000 in
theorem rspec_ZoneMask {n v u q : Int} (hK : K (wc (maskR (isCtr n v u && inR q 1 1000) n (fun y x => cmI .eql (arI .rem .i64 (arI .quo .i64 (dist y x v u) q) 2) 0))) m) : CallLeaf Try.prog w0 37 [AV.int n, AV.int v, AV.int u, AV.int q] m K := call_nil rfl fun w0 => by
  refine fn_go hmix h37 ?_
  conv => whnf
  repeat (first | (refine br.yes ?_; conv => whnf) | (refine br.no ?_; conv => whnf))
  refine c_l03Centre ?_
  conv => whnf
  repeat (first | (refine br.yes ?_; conv => whnf) | (refine br.no ?_; conv => whnf))
  refine br_intro (fun h0 => ?_) (fun h0 => ?_)
  · conv => whnf
    repeat (first | (refine br.yes ?_; conv => whnf) | (refine br.no ?_; conv => whnf))
    rw [maskR_no (by rw [notB_eq] at h0; simp at h0; simp [h0])] at hK
    exact ⟨rfl, hK⟩
  conv => whnf
  repeat (first | (refine br.yes ?_; conv => whnf) | (refine br.no ?_; conv => whnf))
  refine c_l01In ?_
  conv => whnf
  repeat (first | (refine br.yes ?_; conv => whnf) | (refine br.no ?_; conv => whnf))
  refine br_intro (fun h1 => ?_) (fun h1 => ?_)
  · conv => whnf
    repeat (first | (refine br.yes ?_; conv => whnf) | (refine br.no ?_; conv => whnf))
    rw [maskR_no (by rw [notB_eq] at h1; simp at h1; simp [h1])] at hK
    exact ⟨rfl, hK⟩
  conv => whnf
  repeat (first | (refine br.yes ?_; conv => whnf) | (refine br.no ?_; conv => whnf))
  have hok : (isCtr n v u && inR q 1 1000) = true := by rw [notB_eq] at h0 h1; simp at h0 h1; simp [h0, h1]
  have hq : q ≠ 0 := by rw [notB_eq] at h1; simp [inR] at h1; omega
  have hok' := hok
  simp [isCtr] at hok'
  obtain ⟨N, rfl, hN8, hN0⟩ := side_nat (n := n) (by simp [hok'])
  have hNN := sq_le hN8
  rw [maskR_ok hok] at hK
  refine c_l01Empty ?_
  conv => whnf
  repeat (first | (refine br.yes ?_; conv => whnf) | (refine br.no ?_; conv => whnf))
  refine loop_inv N (fun y ts m => m = [⟨true, .st [AV.int 0, .ac 64 (List.replicate 64 (0, 0))], 0⟩, ⟨true, .st [AV.int N, .ac 64 (tabTo (maskV N (fun y x => cmI .eql (arI .rem .i64 (arI .quo .i64 (dist y x v u) q) 2) 0)) (N * y))], 0⟩] ∧ ts = [AV.int N, AV.int v, AV.int u, AV.int q, .junk, .junk, .junk, .junk, .ptr 0 [], AV.int 0, .ptr 1 [], AV.int y, .junk, .junk, .junk, .junk, .junk, .junk, .junk, .junk, .junk, .junk, .junk, .junk, .junk, .junk, .junk, .junk, .junk, .junk, .junk, .junk, .junk, .junk, .junk, .junk, .junk, .junk, .junk, .junk, .junk, .junk, .junk, .junk, .junk, .junk, .junk, .junk, .junk, .junk, .junk, .junk, .junk]) _ _ ?hw trim_no ⟨by rw [Nat.mul_zero, tabTo_zero] <;> rfl, rfl⟩ ?_
  case hw =>
    repeat (first | exact weak_nil | refine weak_same ?_ | refine weak_junk ?_)
  rintro y hy ts m' ⟨rfl, rfl⟩ R hR
  conv => whnf
  repeat (first | (refine br.yes ?_; conv => whnf) | (refine br.no ?_; conv => whnf))
  refine br_intro (fun g1 => ?_) (fun g1 => ?_)
  · have hy1 := lt_of_lss g1
    conv => whnf
    repeat (first | (refine br.yes ?_; conv => whnf) | (refine br.no ?_; conv => whnf))
    refine loop_inv N (fun x ts m => m = [⟨true, .st [AV.int 0, .ac 64 (List.replicate 64 (0, 0))], 0⟩, ⟨true, .st [AV.int N, .ac 64 (tabTo (maskV N (fun y x => cmI .eql (arI .rem .i64 (arI .quo .i64 (dist y x v u) q) 2) 0)) (N * y + x))], 0⟩] ∧ ts = [AV.int N, AV.int v, AV.int u, AV.int q, .junk, .junk, .junk, .junk, .ptr 0 [], AV.int 0, .ptr 1 [], AV.int y, AV.int x, .junk, .junk, .junk, .junk, .junk, .junk, .junk, .junk, .junk, .junk, .junk, .junk, .junk, .junk, .junk, .junk, .junk, .junk, .junk, .junk, .junk, .junk, .junk, .junk, .junk, .junk, .junk, .junk, .junk, .junk, .junk, .junk, .junk, .junk, .junk, .junk, .junk, .junk, .junk, .junk]) _ _ ?hw2 trim_no ⟨rfl, rfl⟩ ?_
    case hw2 =>
      repeat (first | exact weak_nil | refine weak_same ?_ | refine weak_junk ?_)
    rintro x hx ts m' ⟨rfl, rfl⟩ R2 hR2
    conv => whnf
    repeat (first | (refine br.yes ?_; conv => whnf) | (refine br.no ?_; conv => whnf))
    refine br_intro (fun g2 => ?_) (fun g2 => ?_)
    · have hx1 := lt_of_lss g2
      obtain ⟨d1, d2, d3⟩ := dims hy1 hx1 hN8
      have hv := maskV_at (g := fun y x => cmI .eql (arI .rem .i64 (arI .quo .i64 (dist y x v u) q) 2) 0) (y := y) hx1
      have e1 : arI .mul .i64 (N : Int) (y : Int) = ((N * y : Nat) : Int) := mul_nat (by omega) (by omega)
      have e2 : arI .add .i64 ((N * y : Nat) : Int) (x : Int) = ((N * y + x : Nat) : Int) := add_nat (by omega) (by omega)
      obtain ⟨k, hk⟩ : ∃ k, k = N * y + x := ⟨_, rfl⟩
      rw [← hk] at hv e2 d1
      conv => whnf
      repeat (first | (refine br.yes ?_; conv => whnf) | (refine br.no ?_; conv => whnf))
      refine c_l03Distance ?_
      conv => whnf
      repeat (first | (refine br.yes ?_; conv => whnf) | (refine br.no ?_; conv => whnf))
      refine ⟨side_in (hq), ?_⟩
      conv => whnf
      repeat (first | (refine br.yes ?_; conv => whnf) | (refine br.no ?_; conv => whnf))
      refine ⟨side_in (by decide), ?_⟩
      conv => whnf
      repeat (first | (refine br.yes ?_; conv => whnf) | (refine br.no ?_; conv => whnf))
      refine br_intro (fun g3 => ?_) (fun g3 => ?_)
      · simp only [g3, if_true] at hv
        conv => whnf
        repeat (first | (refine br.yes ?_; conv => whnf) | (refine br.no ?_; conv => whnf))
        rw [e1, e2]
        refine ⟨side_in ⟨by omega, by omega⟩, ?_⟩
        conv => whnf
        repeat (first | (refine br.yes ?_; conv => whnf) | (refine br.no ?_; conv => whnf))
        refine ⟨side_in (by rw [toN_nat]; exact (show k < 64 by omega)), ?_⟩
        conv => whnf
        repeat (first | (refine br.yes ?_; conv => whnf) | (refine br.no ?_; conv => whnf))
        rw [toN_nat, upd_eq, add_one (by omega), ← hk]
        refine hR2 hx1 _ _ _ _ ?hw3 trim_no ⟨by rw [← Nat.add_assoc, ← hk, ← tabTo_set hv] <;> rfl, rfl⟩
        case hw3 =>
          repeat (first | exact weak_nil | refine weak_same ?_ | refine weak_junk ?_)
      · simp only [g3, Bool.false_eq_true, if_false] at hv
        conv => whnf
        repeat (first | (refine br.yes ?_; conv => whnf) | (refine br.no ?_; conv => whnf))
        rw [add_one (by omega), ← hk]
        refine hR2 hx1 _ _ _ _ ?hw4 trim_no ⟨by rw [← Nat.add_assoc, ← hk, tabTo_skip hv] <;> rfl, rfl⟩
        case hw4 =>
          repeat (first | exact weak_nil | refine weak_same ?_ | refine weak_junk ?_)
    · have hx2 : x = N := by have := ge_of_lss g2; omega
      subst hx2
      conv => whnf
      repeat (first | (refine br.yes ?_; conv => whnf) | (refine br.no ?_; conv => whnf))
      rw [add_one (by omega)]
      refine hR hy1 _ _ _ _ ?hw5 trim_no ⟨by rw [Nat.mul_add, Nat.mul_one] <;> rfl, rfl⟩
      case hw5 =>
        repeat (first | exact weak_nil | refine weak_same ?_ | refine weak_junk ?_)
  · have hy2 : y = N := by have := ge_of_lss g1; omega
    subst hy2
    conv => whnf
    repeat (first | (refine br.yes ?_; conv => whnf) | (refine br.no ?_; conv => whnf))
    exact ⟨rfl, hK⟩

theorem g_ZoneMask {a b c ra rb rc : Nat} {oa ob oc : Bool} {v u q y x : Int} (ha : getE m a = some ⟨oa, AV.int v, ra⟩) (hb : getE m b = some ⟨ob, AV.int u, rb⟩) (hc : getE m c = some ⟨oc, AV.int q, rc⟩) (hq : q ≠ 0)
    (hK : K (AV.bool (cmI .eql (arI .rem .i64 (arI .quo .i64 (dist y x v u) q) 2) 0)) m) : CallLeaf Try.prog w0 69 [AV.int y, AV.int x, .ptr a [], .ptr b [], .ptr c []] m K := by
  refine fn_go hmix h69 ?_
  conv => whnf
  repeat (first | (refine br.yes ?_; conv => whnf) | (refine br.no ?_; conv => whnf))
  rw [ha]
  conv => whnf
  repeat (first | (refine br.yes ?_; conv => whnf) | (refine br.no ?_; conv => whnf))
  rw [hb]
  conv => whnf
  repeat (first | (refine br.yes ?_; conv => whnf) | (refine br.no ?_; conv => whnf))
  refine q_keep (AV.int (dist y x v u)) (fun K' h => c_distance h) ?_
  conv => whnf
  repeat (first | (refine br.yes ?_; conv => whnf) | (refine br.no ?_; conv => whnf))
  rw [hc]
  conv => whnf
  repeat (first | (refine br.yes ?_; conv => whnf) | (refine br.no ?_; conv => whnf))
  refine ⟨side_in hq, ?_⟩
  conv => whnf
  repeat (first | (refine br.yes ?_; conv => whnf) | (refine br.no ?_; conv => whnf))
  refine ⟨side_in (by decide), ?_⟩
  conv => whnf
  repeat (first | (refine br.yes ?_; conv => whnf) | (refine br.no ?_; conv => whnf))
  exact hK

set_option maxRecDepth 20000 in
theorem rimpl_ZoneMask {n v u q : Int} (hK : K (wc (maskR (isCtr n v u && inR q 1 1000) n (fun y x => cmI .eql (arI .rem .i64 (arI .quo .i64 (dist y x v u) q) 2) 0))) m) : CallLeaf Try.prog w0 38 [AV.int n, AV.int v, AV.int u, AV.int q] m K := call_nil rfl fun w0 => by
  refine fn_go hmix h38 ?_
  conv => whnf
  repeat (first | (refine br.yes ?_; conv => whnf) | (refine br.no ?_; conv => whnf))
  refine c_isCentre ?_
  conv => whnf
  repeat (first | (refine br.yes ?_; conv => whnf) | (refine br.no ?_; conv => whnf))
  refine br_intro (fun h0 => ?_) (fun h0 => ?_)
  · conv => whnf
    repeat (first | (refine br.yes ?_; conv => whnf) | (refine br.no ?_; conv => whnf))
    rw [maskR_no (by rw [notB_eq] at h0; simp at h0; simp [h0])] at hK
    exact ⟨rfl, hK⟩
  conv => whnf
  repeat (first | (refine br.yes ?_; conv => whnf) | (refine br.no ?_; conv => whnf))
  refine c_within ?_
  conv => whnf
  repeat (first | (refine br.yes ?_; conv => whnf) | (refine br.no ?_; conv => whnf))
  refine br_intro (fun h1 => ?_) (fun h1 => ?_)
  · conv => whnf
    repeat (first | (refine br.yes ?_; conv => whnf) | (refine br.no ?_; conv => whnf))
    rw [maskR_no (by rw [notB_eq] at h1; simp at h1; simp [h1])] at hK
    exact ⟨rfl, hK⟩
  conv => whnf
  repeat (first | (refine br.yes ?_; conv => whnf) | (refine br.no ?_; conv => whnf))
  have hok : (isCtr n v u && inR q 1 1000) = true := by rw [notB_eq] at h0 h1; simp at h0 h1; simp [h0, h1]
  have hq : q ≠ 0 := by rw [notB_eq] at h1; simp [inR] at h1; omega
  have hok' := hok
  simp [isCtr] at hok'
  obtain ⟨N, rfl, hN8, hN0⟩ := side_nat (n := n) (by simp [hok'])
  have hNN := sq_le hN8
  rw [maskR_ok hok] at hK
  refine c_maskBy (g := fun y x => cmI .eql (arI .rem .i64 (arI .quo .i64 (dist y x v u) q) 2) 0) ⟨hN0, hN8⟩ (by kernel_rfl) (fun ext y x K hy hx hK => g_ZoneMask (a := 0) (b := 1) (c := 2) rfl rfl rfl hq hK) ?_
  conv => whnf
  repeat (first | (refine br.yes ?_; conv => whnf) | (refine br.no ?_; conv => whnf))
  exact ⟨rfl, hK⟩

set_option maxRecDepth 20000 in
theorem ospec_ZoneMask {n v u q : Int} (hK : K (wc (plusR (maskR (isCtr n v u && inR q 1 1000) n (fun y x => cmI .eql (arI .rem .i64 (arI .quo .i64 (dist y x v u) q) 2) 0)))) m) : CallLeaf Try.prog w0 19 [AV.int n, AV.int v, AV.int u, AV.int q] m K := call_nil rfl fun w0 => by
  refine fn_go hmix h19 ?_
  conv => whnf
  repeat (first | (refine br.yes ?_; conv => whnf) | (refine br.no ?_; conv => whnf))
  refine rspec_ZoneMask ?_
  have hl := maskR_length (ok := isCtr n v u && inR q 1 1000) (n := n) (g := fun y x => cmI .eql (arI .rem .i64 (arI .quo .i64 (dist y x v u) q) 2) 0)
  unfold wc plusR at hK
  unfold wc
  generalize maskR (isCtr n v u && inR q 1 1000) n (fun y x => cmI .eql (arI .rem .i64 (arI .quo .i64 (dist y x v u) q) 2) 0) = R at hK hl ⊢
  conv => whnf
  repeat (first | (refine br.yes ?_; conv => whnf) | (refine br.no ?_; conv => whnf))
  refine c_l01PlusWave hl ?_
  conv => whnf
  repeat (first | (refine br.yes ?_; conv => whnf) | (refine br.no ?_; conv => whnf))
  exact ⟨rfl, hK⟩
set_option maxRecDepth 20000 in
theorem oimpl_ZoneMask {n v u q : Int} (hK : K (wc (plusR (maskR (isCtr n v u && inR q 1 1000) n (fun y x => cmI .eql (arI .rem .i64 (arI .quo .i64 (dist y x v u) q) 2) 0)))) m) : CallLeaf Try.prog w0 20 [AV.int n, AV.int v, AV.int u, AV.int q] m K := call_nil rfl fun w0 => by
  refine fn_go hmix h20 ?_
  conv => whnf
  repeat (first | (refine br.yes ?_; conv => whnf) | (refine br.no ?_; conv => whnf))
  refine rimpl_ZoneMask ?_
  have hl := maskR_length (ok := isCtr n v u && inR q 1 1000) (n := n) (g := fun y x => cmI .eql (arI .rem .i64 (arI .quo .i64 (dist y x v u) q) 2) 0)
  unfold wc plusR at hK
  unfold wc
  generalize maskR (isCtr n v u && inR q 1 1000) n (fun y x => cmI .eql (arI .rem .i64 (arI .quo .i64 (dist y x v u) q) 2) 0) = R at hK hl ⊢
  conv => whnf
  repeat (first | (refine br.yes ?_; conv => whnf) | (refine br.no ?_; conv => whnf))
  refine c_plainWave hl ?_
  conv => whnf
  repeat (first | (refine br.yes ?_; conv => whnf) | (refine br.no ?_; conv => whnf))
  exact ⟨rfl, hK⟩
set_option maxRecDepth 20000 in
theorem law_ZoneMask {n v u q : Int} (hK : ∀ m, K (AV.bool true) m) : CallLeaf Try.prog w0 7 [AV.int n, AV.int v, AV.int u, AV.int q] [] K := by
  refine fn_go hmix h7 ?_
  conv => whnf
  repeat (first | (refine br.yes ?_; conv => whnf) | (refine br.no ?_; conv => whnf))
  obtain ⟨R, hR⟩ : ∃ R, R = plusR (maskR (isCtr n v u && inR q 1 1000) n (fun y x => cmI .eql (arI .rem .i64 (arI .quo .i64 (dist y x v u) q) 2) 0)) := ⟨_, rfl⟩
  refine ospec_ZoneMask ?_
  rw [← hR]
  unfold wc
  conv => whnf
  repeat (first | (refine br.yes ?_; conv => whnf) | (refine br.no ?_; conv => whnf))
  refine oimpl_ZoneMask ?_
  rw [← hR]
  unfold wc
  conv => whnf
  repeat (first | (refine br.yes ?_; conv => whnf) | (refine br.no ?_; conv => whnf))
  refine c_eqWave ?_
  conv => whnf
  repeat (first | (refine br.yes ?_; conv => whnf) | (refine br.no ?_; conv => whnf))
  refine br_false (by rw [notB_eq]; rfl) ?_
  conv => whnf
  repeat (first | (refine br.yes ?_; conv => whnf) | (refine br.no ?_; conv => whnf))
  refine br_false (neq_self _) ?_
  conv => whnf
  repeat (first | (refine br.yes ?_; conv => whnf) | (refine br.no ?_; conv => whnf))
  exact hK _

theorem slit_nat {N : Nat} {x w : Int} (hN : N ≤ 8) (hN0 : 0 < N) (h1 : inR x 0 (arI .sub .i64 (N : Int) 1) = true) (h2 : inR w 0 (arI .sub .i64 (N : Int) x) = true) : ∃ X Y : Nat, x = X ∧ w = Y ∧ X + Y ≤ N ∧ X < N := by
  rw [sub_one hN0 (by omega)] at h1
  simp [inR] at h1
  rw [arI_sub, wrap_fits (by omega) (by omega)] at h2
  simp [inR] at h2
  exact ⟨x.toNat, w.toNat, by omega, by omega, by omega, by omega⟩
theorem slit_at {N X Y c : Nat} (hN : N ≤ 8) (h : X + Y ≤ N) : inR (c : Int) (X : Int) (arI .sub .i64 (arI .add .i64 (X : Int) (Y : Int)) 1) = (decide (X ≤ c) && decide (c < X + Y)) := by
  rw [add_nat (by omega) (by omega), arI_sub, wrap_fits (by omega) (by omega)]
  unfold inR
  congr 1
  · simp
  · apply decide_eq_decide.2; omega
set_option maxRecDepth 20000 in
set_option maxHeartbeats 1600000 in
theorem rspec_SlitMask {n x w : Int} (hK : K (wc (maskR (isSide n && inR x 0 (arI .sub .i64 n 1) && inR w 0 (arI .sub .i64 n x)) n (fun _ c => inR c x (arI .sub .i64 (arI .add .i64 x w) 1)))) m) : CallLeaf Try.prog w0 31 [AV.int n, AV.int x, AV.int w] m K := call_nil rfl fun w0 => by
  refine fn_go hmix h31 ?_
  conv => whnf
  repeat (first | (refine br.yes ?_; conv => whnf) | (refine br.no ?_; conv => whnf))
  refine c_l01Side ?_
  conv => whnf
  repeat (first | (refine br.yes ?_; conv => whnf) | (refine br.no ?_; conv => whnf))
  refine br_intro (fun h0 => ?_) (fun h0 => ?_)
  · conv => whnf
    repeat (first | (refine br.yes ?_; conv => whnf) | (refine br.no ?_; conv => whnf))
    rw [maskR_no (by rw [notB_eq] at h0; simp at h0; simp [h0])] at hK
    exact ⟨rfl, hK⟩
  conv => whnf
  repeat (first | (refine br.yes ?_; conv => whnf) | (refine br.no ?_; conv => whnf))
  refine c_l01In ?_
  conv => whnf
  repeat (first | (refine br.yes ?_; conv => whnf) | (refine br.no ?_; conv => whnf))
  refine br_intro (fun h1 => ?_) (fun h1 => ?_)
  · conv => whnf
    repeat (first | (refine br.yes ?_; conv => whnf) | (refine br.no ?_; conv => whnf))
    rw [maskR_no (by rw [notB_eq] at h1; simp at h1; simp [h1])] at hK
    exact ⟨rfl, hK⟩
  conv => whnf
  repeat (first | (refine br.yes ?_; conv => whnf) | (refine br.no ?_; conv => whnf))
  refine c_l01In ?_
  conv => whnf
  repeat (first | (refine br.yes ?_; conv => whnf) | (refine br.no ?_; conv => whnf))
  refine br_intro (fun h2 => ?_) (fun h2 => ?_)
  · conv => whnf
    repeat (first | (refine br.yes ?_; conv => whnf) | (refine br.no ?_; conv => whnf))
    rw [maskR_no (by rw [notB_eq] at h2; simp at h2; simp [h2])] at hK
    exact ⟨rfl, hK⟩
  conv => whnf
  repeat (first | (refine br.yes ?_; conv => whnf) | (refine br.no ?_; conv => whnf))
  have hok : (isSide n && inR x 0 (arI .sub .i64 n 1) && inR w 0 (arI .sub .i64 n x)) = true := by rw [notB_eq] at h0 h1 h2; simp at h0 h1 h2; simp [h0, h1, h2]
  have hok' := hok
  simp [isCtr] at hok'
  obtain ⟨N, rfl, hN8, hN0⟩ := side_nat (n := n) (by simp [hok'])
  have hNN := sq_le hN8
  rw [maskR_ok hok] at hK
  obtain ⟨X, Y, rfl, rfl, hXY, hX⟩ := slit_nat hN8 hN0 hok'.1.2 hok'.2
  obtain ⟨G, hG⟩ : ∃ G, @Eq (Nat → Nat → Bool) G (fun _ c => inR c (X : Int) (arI .sub .i64 (arI .add .i64 (X : Int) (Y : Int)) 1)) := ⟨_, rfl⟩
  have hat : ∀ y c, G y c = (decide (X ≤ c) && decide (c < X + Y)) := fun y c => by rw [hG]; exact slit_at hN8 hXY
  rw [← hG] at hK
  refine c_l01Empty ?_
  conv => whnf
  repeat (first | (refine br.yes ?_; conv => whnf) | (refine br.no ?_; conv => whnf))
  refine loop_inv N (fun y ts m => m = [⟨true, .st [AV.int 0, .ac 64 (List.replicate 64 (0, 0))], 0⟩, ⟨true, .st [AV.int N, .ac 64 (tabTo (maskV N G) (N * y))], 0⟩] ∧ ts = [AV.int N, AV.int X, AV.int Y, .junk, .junk, .junk, .ptr 0 [], AV.int 0, .ptr 1 [], AV.int y, .junk, .junk, .junk, .junk, .junk, .junk, .junk, .junk, .junk, .junk, .junk, .junk, .junk, .junk, .junk, .junk, .junk, .junk, .junk, .junk, .junk, .junk, .junk, .junk, .junk, .junk, .junk, .junk, .junk, .junk, .junk, .junk, .junk, .junk, .junk, .junk, .junk, .junk, .junk, .junk, .junk, .junk, .junk]) _ _ ?hw trim_no ⟨by rw [Nat.mul_zero, tabTo_zero] <;> rfl, rfl⟩ ?_
  case hw =>
    repeat (first | exact weak_nil | refine weak_same ?_ | refine weak_junk ?_)
  rintro y hy ts m' ⟨rfl, rfl⟩ R hR
  conv => whnf
  repeat (first | (refine br.yes ?_; conv => whnf) | (refine br.no ?_; conv => whnf))
  refine br_intro (fun g1 => ?_) (fun g1 => ?_)
  · have hy1 := lt_of_lss g1
    obtain ⟨d1, d2, d3⟩ := dims hy1 hX hN8
    have s1 : tabTo (maskV N G) (N * y + X) = tabTo (maskV N G) (N * y) := tabTo_skips (by omega) (fun k k1 k2 => by
      obtain ⟨c, rfl⟩ : ∃ c, k = N * y + c := ⟨k - N * y, by omega⟩
      rw [maskV_at (by omega), hat]
      simp; omega)
    have s2 : tabTo (maskV N G) (N * y + N) = tabTo (maskV N G) (N * y + (X + Y)) := tabTo_skips (by omega) (fun k k1 k2 => by
      obtain ⟨c, rfl⟩ : ∃ c, k = N * y + c := ⟨k - N * y, by omega⟩
      rw [maskV_at (by omega), hat]
      simp; omega)
    conv => whnf
    repeat (first | (refine br.yes ?_; conv => whnf) | (refine br.no ?_; conv => whnf))
    refine loop_inv Y (fun i ts m => m = [⟨true, .st [AV.int 0, .ac 64 (List.replicate 64 (0, 0))], 0⟩, ⟨true, .st [AV.int N, .ac 64 (tabTo (maskV N G) (N * y + (X + i)))], 0⟩] ∧ ts = [AV.int N, AV.int X, AV.int Y, .junk, .junk, .junk, .ptr 0 [], AV.int 0, .ptr 1 [], AV.int y, AV.int (X + i : Nat), .junk, .junk, .junk, .junk, .junk, .junk, .junk, .junk, .junk, .junk, .junk, .junk, .junk, .junk, .junk, .junk, .junk, .junk, .junk, .junk, .junk, .junk, .junk, .junk, .junk, .junk, .junk, .junk, .junk, .junk, .junk, .junk, .junk, .junk, .junk, .junk, .junk, .junk, .junk, .junk, .junk, .junk]) _ _ ?hw2 trim_no ⟨by rw [← s1] <;> rfl, rfl⟩ ?_
    case hw2 =>
      repeat (first | exact weak_nil | refine weak_same ?_ | refine weak_junk ?_)
    rintro i hi ts m' ⟨rfl, rfl⟩ R2 hR2
    have e0 : arI .add .i64 (X : Int) (Y : Int) = ((X + Y : Nat) : Int) := add_nat (by omega) (by omega)
    conv => whnf
    repeat (first | (refine br.yes ?_; conv => whnf) | (refine br.no ?_; conv => whnf))
    rw [e0]
    refine br_intro (fun g2 => ?_) (fun g2 => ?_)
    · have hx1 : X + i < X + Y := lt_of_lss g2
      have hv := maskV_at (g := G) (y := y) (show X + i < N by omega)
      simp only [hat, show X ≤ X + i by omega, hx1, decide_true, Bool.and_self, if_true] at hv
      have e1 : arI .mul .i64 (N : Int) (y : Int) = ((N * y : Nat) : Int) := mul_nat (by omega) (by omega)
      have e2 : arI .add .i64 ((N * y : Nat) : Int) ((X + i : Nat) : Int) = ((N * y + (X + i) : Nat) : Int) := add_nat (by omega) (by omega)
      obtain ⟨k, hk⟩ : ∃ k, k = N * y + (X + i) := ⟨_, rfl⟩
      rw [← hk] at hv e2
      have d4 : k < 64 := by omega
      conv => whnf
      repeat (first | (refine br.yes ?_; conv => whnf) | (refine br.no ?_; conv => whnf))
      rw [e1, e2]
      refine ⟨side_in ⟨by omega, by omega⟩, ?_⟩
      conv => whnf
      repeat (first | (refine br.yes ?_; conv => whnf) | (refine br.no ?_; conv => whnf))
      refine ⟨side_in (by rw [toN_nat]; exact d4), ?_⟩
      conv => whnf
      repeat (first | (refine br.yes ?_; conv => whnf) | (refine br.no ?_; conv => whnf))
      rw [toN_nat, upd_eq, add_one (by omega), ← hk]
      refine hR2 (by omega) _ _ _ _ ?hw3 trim_no ⟨by rw [← Nat.add_assoc X, ← Nat.add_assoc (N * y), ← hk, ← tabTo_set hv] <;> rfl, rfl⟩
      case hw3 =>
        repeat (first | exact weak_nil | refine weak_same ?_ | refine weak_junk ?_)
    · have hx2 : i = Y := by have : X + Y ≤ X + i := ge_of_lss g2
                             omega
      subst hx2
      conv => whnf
      repeat (first | (refine br.yes ?_; conv => whnf) | (refine br.no ?_; conv => whnf))
      rw [add_one (by omega)]
      refine hR hy1 _ _ _ _ ?hw5 trim_no ⟨by rw [Nat.mul_add, Nat.mul_one, s2] <;> rfl, rfl⟩
      case hw5 =>
        repeat (first | exact weak_nil | refine weak_same ?_ | refine weak_junk ?_)
  · have hy2 : y = N := by have := ge_of_lss g1; omega
    subst hy2
    conv => whnf
    repeat (first | (refine br.yes ?_; conv => whnf) | (refine br.no ?_; conv => whnf))
    exact ⟨rfl, hK⟩
theorem g_SlitMask {a b ra rb : Nat} {oa ob : Bool} {x w y c : Int} (ha : getE m a = some ⟨oa, AV.int x, ra⟩) (hb : getE m b = some ⟨ob, AV.int w, rb⟩)
    (hK : K (AV.bool (inR c x (arI .sub .i64 (arI .add .i64 x w) 1))) m) : CallLeaf Try.prog w0 62 [AV.int y, AV.int c, .ptr a [], .ptr b []] m K := by
  refine fn_go hmix h62 ?_
  conv => whnf
  repeat (first | (refine br.yes ?_; conv => whnf) | (refine br.no ?_; conv => whnf))
  rw [ha]
  conv => whnf
  repeat (first | (refine br.yes ?_; conv => whnf) | (refine br.no ?_; conv => whnf))
  rw [ha]
  conv => whnf
  repeat (first | (refine br.yes ?_; conv => whnf) | (refine br.no ?_; conv => whnf))
  rw [hb]
  conv => whnf
  repeat (first | (refine br.yes ?_; conv => whnf) | (refine br.no ?_; conv => whnf))
  refine c_within ?_
  conv => whnf
  repeat (first | (refine br.yes ?_; conv => whnf) | (refine br.no ?_; conv => whnf))
  exact hK

set_option maxRecDepth 20000 in
theorem rimpl_SlitMask {n x w : Int} (hK : K (wc (maskR (isSide n && inR x 0 (arI .sub .i64 n 1) && inR w 0 (arI .sub .i64 n x)) n (fun _ c => inR c x (arI .sub .i64 (arI .add .i64 x w) 1)))) m) : CallLeaf Try.prog w0 32 [AV.int n, AV.int x, AV.int w] m K := call_nil rfl fun w0 => by
  refine fn_go hmix h32 ?_
  conv => whnf
  repeat (first | (refine br.yes ?_; conv => whnf) | (refine br.no ?_; conv => whnf))
  refine c_isSide ?_
  conv => whnf
  repeat (first | (refine br.yes ?_; conv => whnf) | (refine br.no ?_; conv => whnf))
  refine br_intro (fun h0 => ?_) (fun h0 => ?_)
  · conv => whnf
    repeat (first | (refine br.yes ?_; conv => whnf) | (refine br.no ?_; conv => whnf))
    rw [maskR_no (by rw [notB_eq] at h0; simp at h0; simp [h0])] at hK
    exact ⟨rfl, hK⟩
  conv => whnf
  repeat (first | (refine br.yes ?_; conv => whnf) | (refine br.no ?_; conv => whnf))
  refine c_within ?_
  conv => whnf
  repeat (first | (refine br.yes ?_; conv => whnf) | (refine br.no ?_; conv => whnf))
  refine br_intro (fun h1 => ?_) (fun h1 => ?_)
  · conv => whnf
    repeat (first | (refine br.yes ?_; conv => whnf) | (refine br.no ?_; conv => whnf))
    rw [maskR_no (by rw [notB_eq] at h1; simp at h1; simp [h1])] at hK
    exact ⟨rfl, hK⟩
  conv => whnf
  repeat (first | (refine br.yes ?_; conv => whnf) | (refine br.no ?_; conv => whnf))
  refine c_within ?_
  conv => whnf
  repeat (first | (refine br.yes ?_; conv => whnf) | (refine br.no ?_; conv => whnf))
  refine br_intro (fun h2 => ?_) (fun h2 => ?_)
  · conv => whnf
    repeat (first | (refine br.yes ?_; conv => whnf) | (refine br.no ?_; conv => whnf))
    rw [maskR_no (by rw [notB_eq] at h2; simp at h2; simp [h2])] at hK
    exact ⟨rfl, hK⟩
  conv => whnf
  repeat (first | (refine br.yes ?_; conv => whnf) | (refine br.no ?_; conv => whnf))
  have hok : (isSide n && inR x 0 (arI .sub .i64 n 1) && inR w 0 (arI .sub .i64 n x)) = true := by rw [notB_eq] at h0 h1 h2; simp at h0 h1 h2; simp [h0, h1, h2]
  have hok' := hok
  simp [isCtr] at hok'
  obtain ⟨N, rfl, hN8, hN0⟩ := side_nat (n := n) (by simp [hok'])
  have hNN := sq_le hN8
  rw [maskR_ok hok] at hK
  refine c_maskBy (g := fun _ c => inR c x (arI .sub .i64 (arI .add .i64 x w) 1)) ⟨hN0, hN8⟩ (by kernel_rfl) (fun ext y x K hy hx hK => g_SlitMask (a := 0) (b := 1) rfl rfl hK) ?_
  conv => whnf
  repeat (first | (refine br.yes ?_; conv => whnf) | (refine br.no ?_; conv => whnf))
  exact ⟨rfl, hK⟩

set_option maxRecDepth 20000 in
theorem ospec_SlitMask {n x w : Int} (hK : K (wc (plusR (maskR (isSide n && inR x 0 (arI .sub .i64 n 1) && inR w 0 (arI .sub .i64 n x)) n (fun _ c => inR c x (arI .sub .i64 (arI .add .i64 x w) 1))))) m) : CallLeaf Try.prog w0 13 [AV.int n, AV.int x, AV.int w] m K := call_nil rfl fun w0 => by
  refine fn_go hmix h13 ?_
  conv => whnf
  repeat (first | (refine br.yes ?_; conv => whnf) | (refine br.no ?_; conv => whnf))
  refine rspec_SlitMask ?_
  have hl := maskR_length (ok := isSide n && inR x 0 (arI .sub .i64 n 1) && inR w 0 (arI .sub .i64 n x)) (n := n) (g := fun _ c => inR c x (arI .sub .i64 (arI .add .i64 x w) 1))
  unfold wc plusR at hK
  unfold wc
  generalize maskR (isSide n && inR x 0 (arI .sub .i64 n 1) && inR w 0 (arI .sub .i64 n x)) n (fun _ c => inR c x (arI .sub .i64 (arI .add .i64 x w) 1)) = R at hK hl ⊢
  conv => whnf
  repeat (first | (refine br.yes ?_; conv => whnf) | (refine br.no ?_; conv => whnf))
  refine c_l01PlusWave hl ?_
  conv => whnf
  repeat (first | (refine br.yes ?_; conv => whnf) | (refine br.no ?_; conv => whnf))
  exact ⟨rfl, hK⟩
set_option maxRecDepth 20000 in
theorem oimpl_SlitMask {n x w : Int} (hK : K (wc (plusR (maskR (isSide n && inR x 0 (arI .sub .i64 n 1) && inR w 0 (arI .sub .i64 n x)) n (fun _ c => inR c x (arI .sub .i64 (arI .add .i64 x w) 1))))) m) : CallLeaf Try.prog w0 14 [AV.int n, AV.int x, AV.int w] m K := call_nil rfl fun w0 => by
  refine fn_go hmix h14 ?_
  conv => whnf
  repeat (first | (refine br.yes ?_; conv => whnf) | (refine br.no ?_; conv => whnf))
  refine rimpl_SlitMask ?_
  have hl := maskR_length (ok := isSide n && inR x 0 (arI .sub .i64 n 1) && inR w 0 (arI .sub .i64 n x)) (n := n) (g := fun _ c => inR c x (arI .sub .i64 (arI .add .i64 x w) 1))
  unfold wc plusR at hK
  unfold wc
  generalize maskR (isSide n && inR x 0 (arI .sub .i64 n 1) && inR w 0 (arI .sub .i64 n x)) n (fun _ c => inR c x (arI .sub .i64 (arI .add .i64 x w) 1)) = R at hK hl ⊢
  conv => whnf
  repeat (first | (refine br.yes ?_; conv => whnf) | (refine br.no ?_; conv => whnf))
  refine c_plainWave hl ?_
  conv => whnf
  repeat (first | (refine br.yes ?_; conv => whnf) | (refine br.no ?_; conv => whnf))
  exact ⟨rfl, hK⟩
set_option maxRecDepth 20000 in
theorem law_SlitMask {n x w : Int} (hK : ∀ m, K (AV.bool true) m) : CallLeaf Try.prog w0 4 [AV.int n, AV.int x, AV.int w] [] K := by
  refine fn_go hmix h4 ?_
  conv => whnf
  repeat (first | (refine br.yes ?_; conv => whnf) | (refine br.no ?_; conv => whnf))
  obtain ⟨R, hR⟩ : ∃ R, R = plusR (maskR (isSide n && inR x 0 (arI .sub .i64 n 1) && inR w 0 (arI .sub .i64 n x)) n (fun _ c => inR c x (arI .sub .i64 (arI .add .i64 x w) 1))) := ⟨_, rfl⟩
  refine ospec_SlitMask ?_
  rw [← hR]
  unfold wc
  conv => whnf
  repeat (first | (refine br.yes ?_; conv => whnf) | (refine br.no ?_; conv => whnf))
  refine oimpl_SlitMask ?_
  rw [← hR]
  unfold wc
  conv => whnf
  repeat (first | (refine br.yes ?_; conv => whnf) | (refine br.no ?_; conv => whnf))
  refine c_eqWave ?_
  conv => whnf
  repeat (first | (refine br.yes ?_; conv => whnf) | (refine br.no ?_; conv => whnf))
  refine br_false (by rw [notB_eq]; rfl) ?_
  conv => whnf
  repeat (first | (refine br.yes ?_; conv => whnf) | (refine br.no ?_; conv => whnf))
  refine br_false (neq_self _) ?_
  conv => whnf
  repeat (first | (refine br.yes ?_; conv => whnf) | (refine br.no ?_; conv => whnf))
  exact hK _

end
end Go.Proofs.Ytbjpnhmempokoaa
