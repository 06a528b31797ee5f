/- What the functions of integers alone answer. -/
import Derived.Test.YtfkbgfpidolhhaaCode
namespace Go.Proofs.Ytfkbgfpidolhhaa
open Go Go.Fw
section
variable {w0 : World} {m : MS} {K : AV → MS → Prop}
/-- between two bounds -/
def inR (x lo hi : Int) : Bool := decide (lo ≤ x) && decide (x ≤ hi)
theorem inR_t {x lo hi : Int} (h : cmI .geq x lo = true) : inR x lo hi = cmI .leq x hi := by
  rw [cmI_geq] at h; rw [cmI_leq]; simp at h; simp [inR, h]
theorem inR_f {x lo hi : Int} (h : cmI .geq x lo = false) : inR x lo hi = false := by
  rw [cmI_geq] at h; simp at h; simp [inR]; omega
theorem c40 {x lo hi : Int} (hK : K (AV.bool (inR x lo hi)) m) : CallLeaf Try.prog w0 40 [AV.int x, AV.int lo, AV.int hi] m K := by
  refine fn_go hmix h40 ?_
  conv => whnf
  refine br_intro (fun h => ?_) (fun h => ?_)
  · conv => whnf
    rw [inR_t h] at hK; exact hK
  · conv => whnf
    rw [inR_f h] at hK; exact hK
theorem c47 {x lo hi : Int} (hK : K (AV.bool (inR x lo hi)) m) : CallLeaf Try.prog w0 47 [AV.int x, AV.int lo, AV.int hi] m K := by
  refine fn_go hmix h47 ?_
  conv => whnf
  refine br_intro (fun h => ?_) (fun h => ?_)
  · conv => whnf
    rw [inR_t h] at hK; exact hK
  · conv => whnf
    rw [inR_f h] at hK; exact hK
def less (a b : Int) : Int := arI .sub .i64 (arI .rem .i64 (arI .add .i64 (arI .rem .i64 (arI .add .i64 (arI .sub .i64 b a) 32) 64) 64) 64) 32
theorem side_lit {p : Prop} (h : p) : Side p := side_in h
theorem c53 {x : Int} (hK : K (AV.int (arI .rem .i64 (arI .add .i64 (arI .rem .i64 x 64) 64) 64)) m) : CallLeaf Try.prog w0 53 [AV.int x] m K := by
  refine fn_go hmix h53 ?_
  conv => whnf
  refine ⟨side_in (by decide), ?_⟩
  conv => whnf
  refine ⟨side_in (by decide), ?_⟩
  conv => whnf
  exact hK
theorem c54 {x y : Int} (hy : y ≠ 0) (hK : K (AV.int (arI .rem .i64 (arI .add .i64 (arI .rem .i64 x y) y) y)) m) : CallLeaf Try.prog w0 54 [AV.int x, AV.int y] m K := by
  refine fn_go hmix h54 ?_
  conv => whnf
  refine ⟨side_in hy, ?_⟩
  conv => whnf
  refine ⟨side_in hy, ?_⟩
  conv => whnf
  exact hK
theorem c41 {a b : Int} (hK : K (AV.int (less a b)) m) : CallLeaf Try.prog w0 41 [AV.int a, AV.int b] m K := by
  refine fn_go hmix h41 ?_
  conv => whnf
  refine c53 ?_
  conv => whnf
  exact hK
theorem c43 {a b : Int} (hK : K (AV.int (less a b)) m) : CallLeaf Try.prog w0 43 [AV.int a, AV.int b] m K := by
  refine fn_go hmix h43 ?_
  conv => whnf
  refine c54 (by decide) ?_
  conv => whnf
  exact hK
theorem c42 {x : Int} (hK : K (AV.bool (inR x (-100000) 100000)) m) : CallLeaf Try.prog w0 42 [AV.int x] m K := by
  refine fn_go hmix h42 ?_
  conv => whnf
  refine c47 ?_
  conv => whnf
  exact hK
/-- heights both -/
def hts (a b : Int) : Bool := inR a (-100000) 100000 && inR b (-100000) 100000
theorem c13 {a b : Int} (h1 : hts a b = true → K (.tup [AV.int (less a b), AV.int 0]) m) (h2 : hts a b = false → K (.tup [AV.int 0, AV.int 2]) m) : CallLeaf Try.prog w0 13 [AV.int a, AV.int b] m K := by
  refine fn_go hmix h13 ?_
  conv => whnf
  refine c40 ?_
  conv => whnf
  refine br_intro (fun h => ?_) (fun h => ?_)
  · conv => whnf
    exact h2 (by rw [notB_eq] at h; simp at h; simp [hts, h])
  · conv => whnf
    refine c40 ?_
    conv => whnf
    refine br_intro (fun h' => ?_) (fun h' => ?_)
    · conv => whnf
      exact h2 (by rw [notB_eq] at h'; simp at h'; simp [hts, h'])
    · conv => whnf
      refine c41 ?_
      conv => whnf
      exact h1 (by rw [notB_eq] at h h'; simp at h h'; simp [hts, h, h'])
theorem c14 {a b : Int} (h1 : hts a b = true → K (.tup [AV.int (less a b), AV.int 0]) m) (h2 : hts a b = false → K (.tup [AV.int 0, AV.int 2]) m) : CallLeaf Try.prog w0 14 [AV.int a, AV.int b] m K := by
  refine fn_go hmix h14 ?_
  conv => whnf
  refine c42 ?_
  conv => whnf
  refine br_intro (fun h => ?_) (fun h => ?_)
  · conv => whnf
    exact h2 (by rw [notB_eq] at h; simp at h; simp [hts, h])
  · conv => whnf
    refine c42 ?_
    conv => whnf
    refine br_intro (fun h' => ?_) (fun h' => ?_)
    · conv => whnf
      exact h2 (by rw [notB_eq] at h'; simp at h'; simp [hts, h'])
    · conv => whnf
      refine c43 ?_
      conv => whnf
      exact h1 (by rw [notB_eq] at h h'; simp at h h'; simp [hts, h, h'])
theorem neq_self (x : Int) : cmI .neq x x = false := by rw [cmI_neq]; simp
theorem c4 {a b : Int} (hK : K (AV.bool true) m) : CallLeaf Try.prog w0 4 [AV.int a, AV.int b] m K := by
  refine fn_go hmix h4 ?_
  conv => whnf
  refine c13 (fun h => ?_) (fun h => ?_)
  · conv => whnf
    refine c14 (fun h' => ?_) (fun h' => by rw [h] at h'; cases h')
    conv => whnf
    refine br_false (neq_self _) ?_
    conv => whnf
    refine br_false (neq_self _) ?_
    conv => whnf
    exact hK
  · conv => whnf
    refine c14 (fun h' => by rw [h] at h'; cases h') (fun h' => ?_)
    conv => whnf
    refine br_false (neq_self _) ?_
    conv => whnf
    refine br_false (neq_self _) ?_
    conv => whnf
    exact hK
end
end Go.Proofs.Ytfkbgfpidolhhaa
