/- Contracts of functions, by a walk each. -/
import Derived.Test.YtfoflddjcijaeaaWal
namespace Go.Proofs.Ytfoflddjcijaeaa
open Go Go.Fw
section
variable {w0 : World} {m : MS} {K : AV → MS → Prop}
/-! the number of ones, and the Walsh function of the other program -/
def on1 (x : Int) : Int := arI .add .u64 (arI .and .u64 (shI .shr .u64 x 1) 6148914691236517205) (arI .and .u64 x 6148914691236517205)
def on2 (x : Int) : Int := arI .add .u64 (arI .and .u64 (shI .shr .u64 x 2) 3689348814741910323) (arI .and .u64 x 3689348814741910323)
def on3 (x : Int) : Int := arI .and .u64 (arI .add .u64 (shI .shr .u64 x 4) x) 1085102592571150095
def on4 (x s : Int) : Int := arI .add .u64 x (shI .shr .u64 x s)
def ones (x : Int) : Int := arI .and .i64 (wrI .i64 (on4 (on4 (on4 (on3 (on2 (on1 x))) 8) 16) 32)) 127
set_option maxRecDepth 100000 in
theorem c_OnesCount64 {x : Int} (hK : K (AV.int (ones x)) m) : CallLeaf Try.prog w0 112 [.raw (.int .u64 x)] m K := by
  refine fn_go hmix h112 ?_
  conv => whnf
  repeat (first | (refine br.yes ?_; conv => whnf) | (refine br.no ?_; conv => whnf))
  refine ⟨side_in (by decide), ?_⟩
  conv => whnf
  repeat (first | (refine br.yes ?_; conv => whnf) | (refine br.no ?_; conv => whnf))
  refine ⟨side_in (by decide), ?_⟩
  conv => whnf
  repeat (first | (refine br.yes ?_; conv => whnf) | (refine br.no ?_; conv => whnf))
  refine ⟨side_in (by decide), ?_⟩
  conv => whnf
  repeat (first | (refine br.yes ?_; conv => whnf) | (refine br.no ?_; conv => whnf))
  refine ⟨side_in (by decide), ?_⟩
  conv => whnf
  repeat (first | (refine br.yes ?_; conv => whnf) | (refine br.no ?_; conv => whnf))
  refine ⟨side_in (by decide), ?_⟩
  conv => whnf
  repeat (first | (refine br.yes ?_; conv => whnf) | (refine br.no ?_; conv => whnf))
  refine ⟨side_in (by decide), ?_⟩
  conv => whnf
  repeat (first | (refine br.yes ?_; conv => whnf) | (refine br.no ?_; conv => whnf))
  exact hK
theorem ones_odd {b : Nat} (hb : b < 64) : cmI .eql (arI .rem .i64 (ones (wrI .u64 (b : Int))) 2) 0 = !oddF 7 b := by
  have h : ∀ b : Fin 64, cmI .eql (arI .rem .i64 (ones (wrI .u64 ((b : Nat) : Int))) 2) 0 = !oddF 7 (b : Nat) := by decide +kernel
  exact h ⟨b, hb⟩
set_option maxRecDepth 100000 in
theorem c_walsh {k j : Nat} (hk : k < 64) (hj : j < 64) (hK : K (.flt .f32 (wal k j)) m) : CallLeaf Try.prog w0 102 [AV.int k, AV.int j] m K := by
  have h := ones_odd (and_lt (k := k) hj)
  refine fn_go hmix h102 ?_
  conv => whnf
  repeat (first | (refine br.yes ?_; conv => whnf) | (refine br.no ?_; conv => whnf))
  rw [and_nat hk hj]
  refine c_OnesCount64 ?_
  conv => whnf
  repeat (first | (refine br.yes ?_; conv => whnf) | (refine br.no ?_; conv => whnf))
  refine ⟨side_in (by decide), ?_⟩
  conv => whnf
  repeat (first | (refine br.yes ?_; conv => whnf) | (refine br.no ?_; conv => whnf))
  refine br_intro (fun h1 => ?_) (fun h1 => ?_)
  · conv => whnf
    repeat (first | (refine br.yes ?_; conv => whnf) | (refine br.no ?_; conv => whnf))
    rw [h] at h1
    have e : wal k j = 1065353216 := by unfold wal; simp at h1; rw [h1]; rfl
    rw [← e]; exact hK
  · conv => whnf
    repeat (first | (refine br.yes ?_; conv => whnf) | (refine br.no ?_; conv => whnf))
    rw [h] at h1
    have e : wal k j = 3212836864 := by unfold wal; simp at h1; rw [h1]; rfl
    rw [← e]; exact hK
end
end Go.Proofs.Ytfoflddjcijaeaa
