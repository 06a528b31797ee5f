/- What the functions of integers alone answer. -/
import Derived.Test.YtfkbgfpidolhhaaCode
namespace Go.Proofs.Ytfkbgfpidolhhaa
open Go Go.Fw
section
variable {w0 : World} {m : MS} {K : AV → MS → Prop}
/-- between two bounds -/
def inR (x lo hi : Int) : Bool := decide (lo ≤ x) && decide (x ≤ hi)
theorem inR_t {x lo hi : Int} (h : cmI .geq x lo = true) : inR x lo hi = cmI .leq x hi := by
  rw [cmI_geq] at h; rw [cmI_leq]; simp at h; simp [inR, h]
theorem inR_f {x lo hi : Int} (h : cmI .geq x lo = false) : inR x lo hi = false := by
  rw [cmI_geq] at h; simp at h; simp [inR]; omega
theorem c40 {x lo hi : Int} (hK : K (AV.bool (inR x lo hi)) m) : CallLeaf Try.prog w0 40 [AV.int x, AV.int lo, AV.int hi] m K := by
  refine fn_go hmix h40 ?_
  conv => whnf
  repeat (first | (refine br.yes ?_; conv => whnf) | (refine br.no ?_; conv => whnf))
  refine br_intro (fun h => ?_) (fun h => ?_)
  · conv => whnf
    repeat (first | (refine br.yes ?_; conv => whnf) | (refine br.no ?_; conv => whnf))
    rw [inR_t h] at hK; exact hK
  · conv => whnf
    repeat (first | (refine br.yes ?_; conv => whnf) | (refine br.no ?_; conv => whnf))
    rw [inR_f h] at hK; exact hK
theorem c47 {x lo hi : Int} (hK : K (AV.bool (inR x lo hi)) m) : CallLeaf Try.prog w0 47 [AV.int x, AV.int lo, AV.int hi] m K := by
  refine fn_go hmix h47 ?_
  conv => whnf
  repeat (first | (refine br.yes ?_; conv => whnf) | (refine br.no ?_; conv => whnf))
  refine br_intro (fun h => ?_) (fun h => ?_)
  · conv => whnf
    repeat (first | (refine br.yes ?_; conv => whnf) | (refine br.no ?_; conv => whnf))
    rw [inR_t h] at hK; exact hK
  · conv => whnf
    repeat (first | (refine br.yes ?_; conv => whnf) | (refine br.no ?_; conv => whnf))
    rw [inR_f h] at hK; exact hK
def less (a b : Int) : Int := arI .sub .i64 (arI .rem .i64 (arI .add .i64 (arI .rem .i64 (arI .add .i64 (arI .sub .i64 b a) 32) 64) 64) 64) 32
theorem side_lit {p : Prop} (h : p) : Side p := side_in h
theorem c53 {x : Int} (hK : K (AV.int (arI .rem .i64 (arI .add .i64 (arI .rem .i64 x 64) 64) 64)) m) : CallLeaf Try.prog w0 53 [AV.int x] m K := by
  refine fn_go hmix h53 ?_
  conv => whnf
  repeat (first | (refine br.yes ?_; conv => whnf) | (refine br.no ?_; conv => whnf))
  refine ⟨side_in (by decide), ?_⟩
  conv => whnf
  repeat (first | (refine br.yes ?_; conv => whnf) | (refine br.no ?_; conv => whnf))
  refine ⟨side_in (by decide), ?_⟩
  conv => whnf
  repeat (first | (refine br.yes ?_; conv => whnf) | (refine br.no ?_; conv => whnf))
  exact hK
theorem c54 {x y : Int} (hy : y ≠ 0) (hK : K (AV.int (arI .rem .i64 (arI .add .i64 (arI .rem .i64 x y) y) y)) m) : CallLeaf Try.prog w0 54 [AV.int x, AV.int y] m K := by
  refine fn_go hmix h54 ?_
  conv => whnf
  repeat (first | (refine br.yes ?_; conv => whnf) | (refine br.no ?_; conv => whnf))
  refine ⟨side_in hy, ?_⟩
  conv => whnf
  repeat (first | (refine br.yes ?_; conv => whnf) | (refine br.no ?_; conv => whnf))
  refine ⟨side_in hy, ?_⟩
  conv => whnf
  repeat (first | (refine br.yes ?_; conv => whnf) | (refine br.no ?_; conv => whnf))
  exact hK
theorem c41 {a b : Int} (hK : K (AV.int (less a b)) m) : CallLeaf Try.prog w0 41 [AV.int a, AV.int b] m K := by
  refine fn_go hmix h41 ?_
  conv => whnf
  repeat (first | (refine br.yes ?_; conv => whnf) | (refine br.no ?_; conv => whnf))
  refine c53 ?_
  conv => whnf
  repeat (first | (refine br.yes ?_; conv => whnf) | (refine br.no ?_; conv => whnf))
  exact hK
theorem c43 {a b : Int} (hK : K (AV.int (less a b)) m) : CallLeaf Try.prog w0 43 [AV.int a, AV.int b] m K := by
  refine fn_go hmix h43 ?_
  conv => whnf
  repeat (first | (refine br.yes ?_; conv => whnf) | (refine br.no ?_; conv => whnf))
  refine c54 (by decide) ?_
  conv => whnf
  repeat (first | (refine br.yes ?_; conv => whnf) | (refine br.no ?_; conv => whnf))
  exact hK
theorem c42 {x : Int} (hK : K (AV.bool (inR x (-100000) 100000)) m) : CallLeaf Try.prog w0 42 [AV.int x] m K := by
  refine fn_go hmix h42 ?_
  conv => whnf
  repeat (first | (refine br.yes ?_; conv => whnf) | (refine br.no ?_; conv => whnf))
  refine c47 ?_
  conv => whnf
  repeat (first | (refine br.yes ?_; conv => whnf) | (refine br.no ?_; conv => whnf))
  exact hK
/-- heights both -/
def hts (a b : Int) : Bool := inR a (-100000) 100000 && inR b (-100000) 100000
theorem c13 {a b : Int} (h1 : hts a b = true → K (.tup [AV.int (less a b), AV.int 0]) m) (h2 : hts a b = false → K (.tup [AV.int 0, AV.int 2]) m) : CallLeaf Try.prog w0 13 [AV.int a, AV.int b] m K := by
  refine fn_go hmix h13 ?_
  conv => whnf
  repeat (first | (refine br.yes ?_; conv => whnf) | (refine br.no ?_; conv => whnf))
  refine c40 ?_
  conv => whnf
  repeat (first | (refine br.yes ?_; conv => whnf) | (refine br.no ?_; conv => whnf))
  refine br_intro (fun h => ?_) (fun h => ?_)
  · conv => whnf
    repeat (first | (refine br.yes ?_; conv => whnf) | (refine br.no ?_; conv => whnf))
    exact h2 (by rw [notB_eq] at h; simp at h; simp [hts, h])
  · conv => whnf
    repeat (first | (refine br.yes ?_; conv => whnf) | (refine br.no ?_; conv => whnf))
    refine c40 ?_
    conv => whnf
    repeat (first | (refine br.yes ?_; conv => whnf) | (refine br.no ?_; conv => whnf))
    refine br_intro (fun h' => ?_) (fun h' => ?_)
    · conv => whnf
      repeat (first | (refine br.yes ?_; conv => whnf) | (refine br.no ?_; conv => whnf))
      exact h2 (by rw [notB_eq] at h'; simp at h'; simp [hts, h'])
    · conv => whnf
      repeat (first | (refine br.yes ?_; conv => whnf) | (refine br.no ?_; conv => whnf))
      refine c41 ?_
      conv => whnf
      repeat (first | (refine br.yes ?_; conv => whnf) | (refine br.no ?_; conv => whnf))
      exact h1 (by rw [notB_eq] at h h'; simp at h h'; simp [hts, h, h'])
theorem c14 {a b : Int} (h1 : hts a b = true → K (.tup [AV.int (less a b), AV.int 0]) m) (h2 : hts a b = false → K (.tup [AV.int 0, AV.int 2]) m) : CallLeaf Try.prog w0 14 [AV.int a, AV.int b] m K := by
  refine fn_go hmix h14 ?_
  conv => whnf
  repeat (first | (refine br.yes ?_; conv => whnf) | (refine br.no ?_; conv => whnf))
  refine c42 ?_
  conv => whnf
  repeat (first | (refine br.yes ?_; conv => whnf) | (refine br.no ?_; conv => whnf))
  refine br_intro (fun h => ?_) (fun h => ?_)
  · conv => whnf
    repeat (first | (refine br.yes ?_; conv => whnf) | (refine br.no ?_; conv => whnf))
    exact h2 (by rw [notB_eq] at h; simp at h; simp [hts, h])
  · conv => whnf
    repeat (first | (refine br.yes ?_; conv => whnf) | (refine br.no ?_; conv => whnf))
    refine c42 ?_
    conv => whnf
    repeat (first | (refine br.yes ?_; conv => whnf) | (refine br.no ?_; conv => whnf))
    refine br_intro (fun h' => ?_) (fun h' => ?_)
    · conv => whnf
      repeat (first | (refine br.yes ?_; conv => whnf) | (refine br.no ?_; conv => whnf))
      exact h2 (by rw [notB_eq] at h'; simp at h'; simp [hts, h'])
    · conv => whnf
      repeat (first | (refine br.yes ?_; conv => whnf) | (refine br.no ?_; conv => whnf))
      refine c43 ?_
      conv => whnf
      repeat (first | (refine br.yes ?_; conv => whnf) | (refine br.no ?_; conv => whnf))
      exact h1 (by rw [notB_eq] at h h'; simp at h h'; simp [hts, h, h'])
theorem neq_self (x : Int) : cmI .neq x x = false := by rw [cmI_neq]; simp
theorem c4 {a b : Int} (hK : K (AV.bool true) m) : CallLeaf Try.prog w0 4 [AV.int a, AV.int b] m K := by
  refine fn_go hmix h4 ?_
  conv => whnf
  repeat (first | (refine br.yes ?_; conv => whnf) | (refine br.no ?_; conv => whnf))
  refine c13 (fun h => ?_) (fun h => ?_)
  · conv => whnf
    repeat (first | (refine br.yes ?_; conv => whnf) | (refine br.no ?_; conv => whnf))
    refine c14 (fun h' => ?_) (fun h' => by rw [h] at h'; cases h')
    conv => whnf
    repeat (first | (refine br.yes ?_; conv => whnf) | (refine br.no ?_; conv => whnf))
    refine br_false (neq_self _) ?_
    conv => whnf
    repeat (first | (refine br.yes ?_; conv => whnf) | (refine br.no ?_; conv => whnf))
    refine br_false (neq_self _) ?_
    conv => whnf
    repeat (first | (refine br.yes ?_; conv => whnf) | (refine br.no ?_; conv => whnf))
    exact hK
  · conv => whnf
    repeat (first | (refine br.yes ?_; conv => whnf) | (refine br.no ?_; conv => whnf))
    refine c14 (fun h' => by rw [h] at h'; cases h') (fun h' => ?_)
    conv => whnf
    repeat (first | (refine br.yes ?_; conv => whnf) | (refine br.no ?_; conv => whnf))
    refine br_false (neq_self _) ?_
    conv => whnf
    repeat (first | (refine br.yes ?_; conv => whnf) | (refine br.no ?_; conv => whnf))
    refine br_false (neq_self _) ?_
    conv => whnf
    repeat (first | (refine br.yes ?_; conv => whnf) | (refine br.no ?_; conv => whnf))
    exact hK
theorem K_bool {a b : Bool} (hK : K (AV.bool a) m) (h : a = b) : K (AV.bool b) m := h ▸ hK
theorem K_int {a b : Int} (hK : K (AV.int a) m) (h : a = b) : K (AV.int b) m := h ▸ hK
/-- a side of a grid -/
def isSide (n : Int) : Bool := decide (n = 1) || decide (n = 2) || decide (n = 4) || decide (n = 8)
theorem c44 {n : Int} (hK : K (AV.bool (isSide n)) m) : CallLeaf Try.prog w0 44 [AV.int n] m K := by
  refine fn_go hmix h44 ?_
  conv => whnf
  repeat (first | (refine br.yes ?_; conv => whnf) | (refine br.no ?_; conv => whnf))
  refine br_intro (fun h1 => ?_) (fun h1 => ?_)
  · conv => whnf
    repeat (first | (refine br.yes ?_; conv => whnf) | (refine br.no ?_; conv => whnf))
    exact K_bool hK (by rw [cmI_eql] at h1; simp at h1; simp [isSide, h1])
  conv => whnf
  repeat (first | (refine br.yes ?_; conv => whnf) | (refine br.no ?_; conv => whnf))
  refine br_intro (fun h2 => ?_) (fun h2 => ?_)
  · conv => whnf
    repeat (first | (refine br.yes ?_; conv => whnf) | (refine br.no ?_; conv => whnf))
    exact K_bool hK (by rw [cmI_eql] at h2; simp at h2; simp [isSide, h2])
  conv => whnf
  repeat (first | (refine br.yes ?_; conv => whnf) | (refine br.no ?_; conv => whnf))
  refine br_intro (fun h3 => ?_) (fun h3 => ?_)
  · conv => whnf
    repeat (first | (refine br.yes ?_; conv => whnf) | (refine br.no ?_; conv => whnf))
    exact K_bool hK (by rw [cmI_eql] at h3; simp at h3; simp [isSide, h3])
  conv => whnf
  repeat (first | (refine br.yes ?_; conv => whnf) | (refine br.no ?_; conv => whnf))
  exact K_bool hK (by rw [cmI_eql] at *; simp at h1 h2 h3; simp [isSide, h1, h2, h3])
theorem c46 {n : Int} (hK : K (AV.bool (isSide n)) m) : CallLeaf Try.prog w0 46 [AV.int n] m K := by
  refine fn_go hmix h46 ?_
  conv => whnf
  repeat (first | (refine br.yes ?_; conv => whnf) | (refine br.no ?_; conv => whnf))
  refine br_intro (fun h1 => ?_) (fun h1 => ?_)
  · conv => whnf
    repeat (first | (refine br.yes ?_; conv => whnf) | (refine br.no ?_; conv => whnf))
    exact K_bool hK (by rw [cmI_eql] at h1; simp at h1; simp [isSide, h1])
  conv => whnf
  repeat (first | (refine br.yes ?_; conv => whnf) | (refine br.no ?_; conv => whnf))
  refine br_intro (fun h2 => ?_) (fun h2 => ?_)
  · conv => whnf
    repeat (first | (refine br.yes ?_; conv => whnf) | (refine br.no ?_; conv => whnf))
    exact K_bool hK (by rw [cmI_eql] at h2; simp at h2; simp [isSide, h2])
  conv => whnf
  repeat (first | (refine br.yes ?_; conv => whnf) | (refine br.no ?_; conv => whnf))
  refine br_intro (fun h3 => ?_) (fun h3 => ?_)
  · conv => whnf
    repeat (first | (refine br.yes ?_; conv => whnf) | (refine br.no ?_; conv => whnf))
    exact K_bool hK (by rw [cmI_eql] at h3; simp at h3; simp [isSide, h3])
  conv => whnf
  repeat (first | (refine br.yes ?_; conv => whnf) | (refine br.no ?_; conv => whnf))
  exact K_bool hK (by rw [cmI_eql] at *; simp at h1 h2 h3; simp [isSide, h1, h2, h3])
def folded (n k : Int) : Int := if n = 1 ∨ k < arI .quo .i64 n 2 then k else arI .sub .i64 k n
theorem c45 {n k : Int} (hK : K (AV.int (folded n k)) m) : CallLeaf Try.prog w0 45 [AV.int n, AV.int k] m K := by
  refine fn_go hmix h45 ?_
  conv => whnf
  repeat (first | (refine br.yes ?_; conv => whnf) | (refine br.no ?_; conv => whnf))
  refine br_intro (fun h1 => ?_) (fun h1 => ?_)
  · conv => whnf
    repeat (first | (refine br.yes ?_; conv => whnf) | (refine br.no ?_; conv => whnf))
    exact K_int hK (by rw [cmI_eql] at h1; simp at h1; simp [folded, h1])
  · conv => whnf
    repeat (first | (refine br.yes ?_; conv => whnf) | (refine br.no ?_; conv => whnf))
    refine ⟨side_in (by decide), ?_⟩
    conv => whnf
    repeat (first | (refine br.yes ?_; conv => whnf) | (refine br.no ?_; conv => whnf))
    refine br_intro (fun h2 => ?_) (fun h2 => ?_)
    · conv => whnf
      repeat (first | (refine br.yes ?_; conv => whnf) | (refine br.no ?_; conv => whnf))
      exact K_int hK (by rw [cmI_lss] at h2; simp at h2; simp [folded, h2])
    · conv => whnf
      repeat (first | (refine br.yes ?_; conv => whnf) | (refine br.no ?_; conv => whnf))
      exact K_int hK (by rw [cmI_lss] at h2; rw [cmI_eql] at h1; simp at h1 h2; rw [folded, if_neg (by omega)])
theorem c48 {n k : Int} (hK : K (AV.int (folded n k)) m) : CallLeaf Try.prog w0 48 [AV.int n, AV.int k] m K := by
  refine fn_go hmix h48 ?_
  conv => whnf
  repeat (first | (refine br.yes ?_; conv => whnf) | (refine br.no ?_; conv => whnf))
  refine br_intro (fun h1 => ?_) (fun h1 => ?_)
  · conv => whnf
    repeat (first | (refine br.yes ?_; conv => whnf) | (refine br.no ?_; conv => whnf))
    exact K_int hK (by rw [cmI_eql] at h1; simp at h1; simp [folded, h1])
  · conv => whnf
    repeat (first | (refine br.yes ?_; conv => whnf) | (refine br.no ?_; conv => whnf))
    refine ⟨side_in (by decide), ?_⟩
    conv => whnf
    repeat (first | (refine br.yes ?_; conv => whnf) | (refine br.no ?_; conv => whnf))
    refine br_intro (fun h2 => ?_) (fun h2 => ?_)
    · conv => whnf
      repeat (first | (refine br.yes ?_; conv => whnf) | (refine br.no ?_; conv => whnf))
      exact K_int hK (by rw [cmI_lss] at h2; simp at h2; simp [folded, h2])
    · conv => whnf
      repeat (first | (refine br.yes ?_; conv => whnf) | (refine br.no ?_; conv => whnf))
      exact K_int hK (by rw [cmI_lss] at h2; rw [cmI_eql] at h1; simp at h1 h2; rw [folded, if_neg (by omega)])
def freqOk (n k : Int) : Bool := isSide n && inR k 0 (arI .sub .i64 n 1)
theorem c15 {n k : Int} (h1 : freqOk n k = true → K (.tup [AV.int (folded n k), AV.int 0]) m) (h2 : freqOk n k = false → K (.tup [AV.int 0, AV.int 2]) m) : CallLeaf Try.prog w0 15 [AV.int n, AV.int k] m K := by
  refine fn_go hmix h15 ?_
  conv => whnf
  repeat (first | (refine br.yes ?_; conv => whnf) | (refine br.no ?_; conv => whnf))
  refine c44 ?_
  conv => whnf
  repeat (first | (refine br.yes ?_; conv => whnf) | (refine br.no ?_; conv => whnf))
  refine br_intro (fun h => ?_) (fun h => ?_)
  · conv => whnf
    repeat (first | (refine br.yes ?_; conv => whnf) | (refine br.no ?_; conv => whnf))
    exact h2 (by rw [notB_eq] at h; simp at h; simp [freqOk, h])
  · conv => whnf
    repeat (first | (refine br.yes ?_; conv => whnf) | (refine br.no ?_; conv => whnf))
    refine c40 ?_
    conv => whnf
    repeat (first | (refine br.yes ?_; conv => whnf) | (refine br.no ?_; conv => whnf))
    refine br_intro (fun h' => ?_) (fun h' => ?_)
    · conv => whnf
      repeat (first | (refine br.yes ?_; conv => whnf) | (refine br.no ?_; conv => whnf))
      exact h2 (by rw [notB_eq] at h'; simp at h'; simp [freqOk, h'])
    · conv => whnf
      repeat (first | (refine br.yes ?_; conv => whnf) | (refine br.no ?_; conv => whnf))
      refine c45 ?_
      conv => whnf
      repeat (first | (refine br.yes ?_; conv => whnf) | (refine br.no ?_; conv => whnf))
      exact h1 (by rw [notB_eq] at h h'; simp at h h'; simp [freqOk, h, h'])
theorem c16 {n k : Int} (h1 : freqOk n k = true → K (.tup [AV.int (folded n k), AV.int 0]) m) (h2 : freqOk n k = false → K (.tup [AV.int 0, AV.int 2]) m) : CallLeaf Try.prog w0 16 [AV.int n, AV.int k] m K := by
  refine fn_go hmix h16 ?_
  conv => whnf
  repeat (first | (refine br.yes ?_; conv => whnf) | (refine br.no ?_; conv => whnf))
  refine c46 ?_
  conv => whnf
  repeat (first | (refine br.yes ?_; conv => whnf) | (refine br.no ?_; conv => whnf))
  refine br_intro (fun h => ?_) (fun h => ?_)
  · conv => whnf
    repeat (first | (refine br.yes ?_; conv => whnf) | (refine br.no ?_; conv => whnf))
    exact h2 (by rw [notB_eq] at h; simp at h; simp [freqOk, h])
  · conv => whnf
    repeat (first | (refine br.yes ?_; conv => whnf) | (refine br.no ?_; conv => whnf))
    refine c47 ?_
    conv => whnf
    repeat (first | (refine br.yes ?_; conv => whnf) | (refine br.no ?_; conv => whnf))
    refine br_intro (fun h' => ?_) (fun h' => ?_)
    · conv => whnf
      repeat (first | (refine br.yes ?_; conv => whnf) | (refine br.no ?_; conv => whnf))
      exact h2 (by rw [notB_eq] at h'; simp at h'; simp [freqOk, h'])
    · conv => whnf
      repeat (first | (refine br.yes ?_; conv => whnf) | (refine br.no ?_; conv => whnf))
      refine c48 ?_
      conv => whnf
      repeat (first | (refine br.yes ?_; conv => whnf) | (refine br.no ?_; conv => whnf))
      exact h1 (by rw [notB_eq] at h h'; simp at h h'; simp [freqOk, h, h'])
theorem c5 {a b : Int} (hK : K (AV.bool true) m) : CallLeaf Try.prog w0 5 [AV.int a, AV.int b] m K := by
  refine fn_go hmix h5 ?_
  conv => whnf
  repeat (first | (refine br.yes ?_; conv => whnf) | (refine br.no ?_; conv => whnf))
  refine c15 (fun h => ?_) (fun h => ?_)
  · conv => whnf
    repeat (first | (refine br.yes ?_; conv => whnf) | (refine br.no ?_; conv => whnf))
    refine c16 (fun h' => ?_) (fun h' => by rw [h] at h'; cases h')
    conv => whnf
    repeat (first | (refine br.yes ?_; conv => whnf) | (refine br.no ?_; conv => whnf))
    refine br_false (neq_self _) ?_
    conv => whnf
    repeat (first | (refine br.yes ?_; conv => whnf) | (refine br.no ?_; conv => whnf))
    refine br_false (neq_self _) ?_
    conv => whnf
    repeat (first | (refine br.yes ?_; conv => whnf) | (refine br.no ?_; conv => whnf))
    exact hK
  · conv => whnf
    repeat (first | (refine br.yes ?_; conv => whnf) | (refine br.no ?_; conv => whnf))
    refine c16 (fun h' => by rw [h] at h'; cases h') (fun h' => ?_)
    conv => whnf
    repeat (first | (refine br.yes ?_; conv => whnf) | (refine br.no ?_; conv => whnf))
    refine br_false (neq_self _) ?_
    conv => whnf
    repeat (first | (refine br.yes ?_; conv => whnf) | (refine br.no ?_; conv => whnf))
    refine br_false (neq_self _) ?_
    conv => whnf
    repeat (first | (refine br.yes ?_; conv => whnf) | (refine br.no ?_; conv => whnf))
    exact hK
theorem c3 (hK : K (AV.bool true) m) : CallLeaf Try.prog w0 3 [] m K := by
  refine fn_go hmix h3 ?_
  conv => whnf
  repeat (first | (refine br.yes ?_; conv => whnf) | (refine br.no ?_; conv => whnf))
  exact hK
end
end Go.Proofs.Ytfkbgfpidolhhaa
