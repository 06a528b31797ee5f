/- Contracts of the grid of places. -/
import Derived.Test.YtfkbgfpidolhhaaConC
namespace Go.Proofs.Ytfkbgfpidolhhaa
open Go Go.Fw
section
variable {w0 : World} {m : MS} {K : AV → MS → Prop}
/-! the grid of places -/
def okAt (s : Int) (r c : Nat) : Bool := decide ((r : Int).tmod s = 0) && decide ((c : Int).tmod s = 0)
def rowTo (s : Int) (r c : Nat) : List (Int × Int) := ((List.range c).filter fun j => okAt s r j).map fun (j : Nat) => ((r : Int), (j : Int))
def gridTo (s : Int) (n r c : Nat) : List (Int × Int) := ((List.range r).flatMap fun i => rowTo s i n) ++ rowTo s r c
theorem rowTo_succ (s : Int) (r c : Nat) : rowTo s r (c + 1) = rowTo s r c ++ if okAt s r c then [((r : Int), (c : Int))] else [] := by
  unfold rowTo
  rw [List.range_succ, List.filter_append, List.map_append]
  congr 1
  cases h : okAt s r c <;> simp [List.filter, h]
theorem gridTo_yes {s : Int} {n r c : Nat} (h : okAt s r c = true) : gridTo s n r (c + 1) = gridTo s n r c ++ [((r : Int), (c : Int))] := by
  unfold gridTo; rw [rowTo_succ, h]; simp
theorem gridTo_no {s : Int} {n r c : Nat} (h : okAt s r c = false) : gridTo s n r (c + 1) = gridTo s n r c := by
  unfold gridTo; rw [rowTo_succ, h]; simp
theorem gridTo_row (s : Int) (n r : Nat) : gridTo s n (r + 1) 0 = gridTo s n r n := by
  unfold gridTo; rw [List.range_succ]; simp [rowTo]
theorem rowTo_length (s : Int) (r c : Nat) : (rowTo s r c).length ≤ c := by
  unfold rowTo; rw [List.length_map]
  exact Nat.le_trans (List.length_filter_le _ _) (by simp)
theorem gridTo_length (s : Int) (n r c : Nat) : (gridTo s n r c).length ≤ r * n + c := by
  unfold gridTo
  rw [List.length_append]
  have h1 := rowTo_length s r c
  have h2 : ((List.range r).flatMap fun i => rowTo s i n).length ≤ r * n := by
    induction r with
    | zero => simp
    | succ r ih =>
      rw [List.range_succ, List.flatMap_append, List.length_append]
      simp only [List.flatMap_cons, List.flatMap_nil, List.append_nil]
      have := ih (rowTo_length s r c)
      have := rowTo_length s r n
      rw [Nat.succ_mul]; omega
  omega
theorem side_nat {n : Int} (h : isSide n = true) : ∃ N : Nat, n = N ∧ N ≤ 8 ∧ 0 < N := by
  simp [isSide] at h
  exact ⟨n.toNat, by omega, by omega, by omega⟩
set_option maxRecDepth 20000 in
theorem c21 {n s : Int} {K : AV → MS → Prop} (k1 : (isSide n && decide (1 ≤ s)) = false → K (.tup [nilS 1, AV.int 2]) [])
    (k2 : ∀ (N cap : Nat), n = N → (isSide n && decide (1 ≤ s)) = true → 20 < (gridTo s N N 0).length → K (.tup [nilS 1, AV.int 2]) [⟨true, .ap (gridTo s N N 0).length (gridTo s N N 0), cap * 2⟩])
    (k3 : ∀ (N cap : Nat), n = N → (isSide n && decide (1 ≤ s)) = true → (gridTo s N N 0).length ≤ 20 → K (.tup [.sl 0 [] 2 0 (gridTo s N N 0).length cap, AV.int 0]) [⟨true, .ap (gridTo s N N 0).length (gridTo s N N 0), cap * 2⟩]) : CallLeaf Try.prog w0 21 [AV.int n, AV.int s] [] K := by
  refine fn_go hmix h21 ?_
  conv => whnf
  repeat (first | (refine br.yes ?_; conv => whnf) | (refine br.no ?_; conv => whnf))
  refine c44 ?_
  conv => whnf
  repeat (first | (refine br.yes ?_; conv => whnf) | (refine br.no ?_; conv => whnf))
  refine br_intro (fun h => ?_) (fun h => ?_)
  · conv => whnf
    repeat (first | (refine br.yes ?_; conv => whnf) | (refine br.no ?_; conv => whnf))
    exact k1 (by rw [notB_eq] at h; simp at h; simp [h])
  conv => whnf
  repeat (first | (refine br.yes ?_; conv => whnf) | (refine br.no ?_; conv => whnf))
  refine br_intro (fun h2 => ?_) (fun h2 => ?_)
  · conv => whnf
    repeat (first | (refine br.yes ?_; conv => whnf) | (refine br.no ?_; conv => whnf))
    exact k1 (by rw [cmI_lss] at h2; simp at h2; simp; intro _; omega)
  conv => whnf
  repeat (first | (refine br.yes ?_; conv => whnf) | (refine br.no ?_; conv => whnf))
  have hs1 : 1 ≤ s := by rw [cmI_lss] at h2; simp at h2; omega
  have hok0 : (isSide n && decide (1 ≤ s)) = true := by rw [notB_eq] at h; simp at h; simp [h, hs1]
  obtain ⟨N, rfl, hN8, hN0⟩ := side_nat (n := n) (by rw [notB_eq] at h; simpa using h)
  refine loop_inv N (fun r ts m => ∃ cap, m = [⟨true, .ap (gridTo s N r 0).length (gridTo s N r 0), cap * 2⟩] ∧ ts = [AV.int N, AV.int s, .junk, .junk, nilS 1, AV.int 0, .sl 0 [] 2 0 (gridTo s N r 0).length cap, AV.int r, .junk, .junk, .junk, .junk, .junk, .junk, .junk, .junk, .junk, .junk, .junk, .junk, .junk, .junk, .junk, .junk, .junk, .junk, .junk, .junk, .junk, .junk, .junk, .junk, .junk, .junk, .junk, .junk, .junk, .junk, .junk, .junk, .junk, .junk, .junk, .junk, .junk, .junk, .junk]) _ _ ?hw (.inl rfl) ⟨0, rfl, rfl⟩ ?_
  case hw =>
    repeat (first | exact weak_nil | refine weak_same ?_ | refine weak_junk ?_)
  rintro r hr ts m ⟨cap, rfl, rfl⟩ R hR
  conv => whnf
  repeat (first | (refine br.yes ?_; conv => whnf) | (refine br.no ?_; conv => whnf))
  refine br_intro (fun h3 => ?_) (fun h3 => ?_)
  · have hr1 := lt_of_lss h3
    conv => whnf
    repeat (first | (refine br.yes ?_; conv => whnf) | (refine br.no ?_; conv => whnf))
    refine loop_inv N (fun c ts m => ∃ cap, m = [⟨true, .ap (gridTo s N r c).length (gridTo s N r c), cap * 2⟩] ∧ ts = [AV.int N, AV.int s, .junk, .junk, nilS 1, AV.int 0, .sl 0 [] 2 0 (gridTo s N r c).length cap, AV.int r, AV.int c, .junk, .junk, .junk, .junk, .junk, .junk, .junk, .junk, .junk, .junk, .junk, .junk, .junk, .junk, .junk, .junk, .junk, .junk, .junk, .junk, .junk, .junk, .junk, .junk, .junk, .junk, .junk, .junk, .junk, .junk, .junk, .junk, .junk, .junk, .junk, .junk, .junk, .junk]) _ _ ?hw2 (.inl rfl) ⟨cap, rfl, rfl⟩ ?_
    case hw2 =>
      repeat (first | exact weak_nil | refine weak_same ?_ | refine weak_junk ?_)
    rintro c hc ts m ⟨cap, rfl, rfl⟩ R2 hR2
    conv => whnf
    repeat (first | (refine br.yes ?_; conv => whnf) | (refine br.no ?_; conv => whnf))
    refine br_intro (fun h4 => ?_) (fun h4 => ?_)
    · have hc1 := lt_of_lss h4
      conv => whnf
      repeat (first | (refine br.yes ?_; conv => whnf) | (refine br.no ?_; conv => whnf))
      refine ⟨side_in (by omega), ?_⟩
      conv => whnf
      repeat (first | (refine br.yes ?_; conv => whnf) | (refine br.no ?_; conv => whnf))
      refine br_intro (fun h5 => ?_) (fun h5 => ?_)
      · conv => whnf
        repeat (first | (refine br.yes ?_; conv => whnf) | (refine br.no ?_; conv => whnf))
        refine ⟨side_in (by omega), ?_⟩
        conv => whnf
        repeat (first | (refine br.yes ?_; conv => whnf) | (refine br.no ?_; conv => whnf))
        refine br_intro (fun h6 => ?_) (fun h6 => ?_)
        · conv => whnf
          repeat (first | (refine br.yes ?_; conv => whnf) | (refine br.no ?_; conv => whnf))
          have hok : okAt s r c = true := by rw [cmI_eql, arI_rem] at h5 h6; simp at h5 h6; simp [okAt, h5, h6]
          have hlen := gridTo_length s N r c
          have hbd : r * N + c ≤ 1048000 := by
            have : r * N ≤ 8 * 8 := Nat.mul_le_mul (by omega) hN8
            omega
          refine ⟨side_in ⟨by decide, rfl, rfl, by omega, rfl⟩, fun cap' => ?_⟩
          conv => whnf
          repeat (first | (refine br.yes ?_; conv => whnf) | (refine br.no ?_; conv => whnf))
          have e1 : addN (gridTo s N r c).length 1 = (gridTo s N r (c + 1)).length := by rw [gridTo_yes hok, addN_eq]; simp
          rw [add_one (by omega), e1]
          have e2 := gridTo_yes (n := N) hok
          refine hR2 hc1 _ _ _ [⟨true, .ap (gridTo s N r (c + 1)).length (gridTo s N r c ++ [((r : Int), (c : Int))]), cap' * 2⟩] ?hw3 ?tr3 ⟨cap', by rw [e2], rfl⟩
          case hw3 =>
            repeat (first | exact weak_nil | refine weak_same ?_ | refine weak_junk ?_)
          case tr3 =>
            exact .inr ⟨1, by simp, rfl, rfl, rfl⟩
        · conv => whnf
          repeat (first | (refine br.yes ?_; conv => whnf) | (refine br.no ?_; conv => whnf))
          have hok : okAt s r c = false := by rw [cmI_eql, arI_rem] at h5 h6; simp at h5 h6; simp [okAt, h5, h6]
          rw [add_one (by omega), ← gridTo_no hok]
          refine hR2 hc1 _ _ _ _ ?hw4 (.inl rfl) ⟨cap, rfl, rfl⟩
          case hw4 =>
            repeat (first | exact weak_nil | refine weak_same ?_ | refine weak_junk ?_)
      · conv => whnf
        repeat (first | (refine br.yes ?_; conv => whnf) | (refine br.no ?_; conv => whnf))
        have hok : okAt s r c = false := by rw [cmI_eql, arI_rem] at h5; simp at h5; simp [okAt, h5]
        rw [add_one (by omega), ← gridTo_no hok]
        refine hR2 hc1 _ _ _ _ ?hw5 (.inl rfl) ⟨cap, rfl, rfl⟩
        case hw5 =>
          repeat (first | exact weak_nil | refine weak_same ?_ | refine weak_junk ?_)
    · have hc2 := ge_of_lss h4
      have : c = N := by omega
      subst this
      conv => whnf
      repeat (first | (refine br.yes ?_; conv => whnf) | (refine br.no ?_; conv => whnf))
      rw [add_one (by omega), ← gridTo_row]
      refine hR hr1 _ _ _ _ ?hw6 (.inl rfl) ⟨cap, rfl, rfl⟩
      case hw6 =>
        repeat (first | exact weak_nil | refine weak_same ?_ | refine weak_junk ?_)
  · have hr2 := ge_of_lss h3
    have : r = N := by omega
    subst this
    conv => whnf
    repeat (first | (refine br.yes ?_; conv => whnf) | (refine br.no ?_; conv => whnf))
    refine br_intro (fun h7 => ?_) (fun h7 => ?_)
    · conv => whnf
      repeat (first | (refine br.yes ?_; conv => whnf) | (refine br.no ?_; conv => whnf))
      exact k2 r cap rfl hok0 (by rw [cmI_gtr] at h7; simp at h7; omega)
    · conv => whnf
      repeat (first | (refine br.yes ?_; conv => whnf) | (refine br.no ?_; conv => whnf))
      exact k3 r cap rfl hok0 (by rw [cmI_gtr] at h7; simp at h7; omega)
set_option maxRecDepth 20000 in
theorem c22a {n s : Int} {K : AV → MS → Prop} (k1 : (isSide n && decide (1 ≤ s)) = false → K (.tup [nilS 1, AV.int 2]) [])
    (k2 : ∀ (N cap : Nat), n = N → (isSide n && decide (1 ≤ s)) = true → 20 < (gridTo s N N 0).length → K (.tup [nilS 1, AV.int 2]) [⟨true, .ap (gridTo s N N 0).length (gridTo s N N 0), cap * 2⟩])
    (k3 : ∀ (N cap : Nat), n = N → (isSide n && decide (1 ≤ s)) = true → (gridTo s N N 0).length ≤ 20 → K (.tup [.sl 0 [] 2 0 (gridTo s N N 0).length cap, AV.int 0]) [⟨true, .ap (gridTo s N N 0).length (gridTo s N N 0), cap * 2⟩]) : CallLeaf Try.prog w0 22 [AV.int n, AV.int s] [] K := by
  refine fn_go hmix h22 ?_
  conv => whnf
  repeat (first | (refine br.yes ?_; conv => whnf) | (refine br.no ?_; conv => whnf))
  refine c46 ?_
  conv => whnf
  repeat (first | (refine br.yes ?_; conv => whnf) | (refine br.no ?_; conv => whnf))
  refine br_intro (fun h => ?_) (fun h => ?_)
  · conv => whnf
    repeat (first | (refine br.yes ?_; conv => whnf) | (refine br.no ?_; conv => whnf))
    exact k1 (by rw [notB_eq] at h; simp at h; simp [h])
  conv => whnf
  repeat (first | (refine br.yes ?_; conv => whnf) | (refine br.no ?_; conv => whnf))
  refine br_intro (fun h2 => ?_) (fun h2 => ?_)
  · conv => whnf
    repeat (first | (refine br.yes ?_; conv => whnf) | (refine br.no ?_; conv => whnf))
    exact k1 (by rw [cmI_lss] at h2; simp at h2; simp; intro _; omega)
  conv => whnf
  repeat (first | (refine br.yes ?_; conv => whnf) | (refine br.no ?_; conv => whnf))
  have hs1 : 1 ≤ s := by rw [cmI_lss] at h2; simp at h2; omega
  have hok0 : (isSide n && decide (1 ≤ s)) = true := by rw [notB_eq] at h; simp at h; simp [h, hs1]
  obtain ⟨N, rfl, hN8, hN0⟩ := side_nat (n := n) (by rw [notB_eq] at h; simpa using h)
  refine loop_inv N (fun r ts m => ∃ cap, m = [⟨true, .ap (gridTo s N r 0).length (gridTo s N r 0), cap * 2⟩] ∧ ts = [AV.int N, AV.int s, .junk, .junk, nilS 1, AV.int 0, .sl 0 [] 2 0 (gridTo s N r 0).length cap, .junk, .junk, .junk, .junk, .junk, .junk, .junk, .junk, .junk, .junk, AV.int N, AV.int r, .junk, .junk, .junk, .junk, .junk, .junk, .junk, .junk, .junk, .junk, .junk, .junk, .junk, .junk, .junk, .junk, .junk, .junk, .junk, .junk, .junk, .junk, .junk, .junk, .junk, .junk, .junk, .junk]) _ _ ?hw (.inl rfl) ⟨0, rfl, rfl⟩ ?_
  case hw =>
    repeat (first | exact weak_nil | refine weak_same ?_ | refine weak_junk ?_)
  rintro r hr ts m ⟨cap, rfl, rfl⟩ R hR
  conv => whnf
  repeat (first | (refine br.yes ?_; conv => whnf) | (refine br.no ?_; conv => whnf))
  refine br_intro (fun h3 => ?_) (fun h3 => ?_)
  · have hr1 := lt_of_lss h3
    conv => whnf
    repeat (first | (refine br.yes ?_; conv => whnf) | (refine br.no ?_; conv => whnf))
    refine loop_inv N (fun c ts m => ∃ cap, m = [⟨true, .ap (gridTo s N r c).length (gridTo s N r c), cap * 2⟩] ∧ ts = [AV.int N, AV.int s, .junk, .junk, nilS 1, AV.int 0, .sl 0 [] 2 0 (gridTo s N r c).length cap, AV.int r, .junk, .junk, .junk, .junk, .junk, .junk, .junk, .junk, .junk, AV.int N, AV.int r, .junk, .junk, AV.int N, AV.int c, .junk, .junk, .junk, .junk, .junk, .junk, .junk, .junk, .junk, .junk, .junk, .junk, .junk, .junk, .junk, .junk, .junk, .junk, .junk, .junk, .junk, .junk, .junk, .junk]) _ _ ?hw2 (.inl rfl) ⟨cap, rfl, rfl⟩ ?_
    case hw2 =>
      repeat (first | exact weak_nil | refine weak_same ?_ | refine weak_junk ?_)
    rintro c hc ts m ⟨cap, rfl, rfl⟩ R2 hR2
    conv => whnf
    repeat (first | (refine br.yes ?_; conv => whnf) | (refine br.no ?_; conv => whnf))
    refine br_intro (fun h4 => ?_) (fun h4 => ?_)
    · have hc1 := lt_of_lss h4
      conv => whnf
      repeat (first | (refine br.yes ?_; conv => whnf) | (refine br.no ?_; conv => whnf))
      refine ⟨side_in (by omega), ?_⟩
      conv => whnf
      repeat (first | (refine br.yes ?_; conv => whnf) | (refine br.no ?_; conv => whnf))
      refine br_intro (fun h5 => ?_) (fun h5 => ?_)
      · conv => whnf
        repeat (first | (refine br.yes ?_; conv => whnf) | (refine br.no ?_; conv => whnf))
        refine ⟨side_in (by omega), ?_⟩
        conv => whnf
        repeat (first | (refine br.yes ?_; conv => whnf) | (refine br.no ?_; conv => whnf))
        refine br_intro (fun h6 => ?_) (fun h6 => ?_)
        · conv => whnf
          repeat (first | (refine br.yes ?_; conv => whnf) | (refine br.no ?_; conv => whnf))
          have hok : okAt s r c = true := by rw [cmI_eql, arI_rem] at h5 h6; simp at h5 h6; simp [okAt, h5, h6]
          have hlen := gridTo_length s N r c
          have hbd : r * N + c ≤ 1048000 := by
            have : r * N ≤ 8 * 8 := Nat.mul_le_mul (by omega) hN8
            omega
          refine ⟨side_in ⟨by decide, rfl, rfl, by omega, rfl⟩, fun cap' => ?_⟩
          conv => whnf
          repeat (first | (refine br.yes ?_; conv => whnf) | (refine br.no ?_; conv => whnf))
          have e1 : addN (gridTo s N r c).length 1 = (gridTo s N r (c + 1)).length := by rw [gridTo_yes hok, addN_eq]; simp
          rw [add_one (by omega), e1]
          have e2 := gridTo_yes (n := N) hok
          refine hR2 hc1 _ _ _ [⟨true, .ap (gridTo s N r (c + 1)).length (gridTo s N r c ++ [((r : Int), (c : Int))]), cap' * 2⟩] ?hw3 ?tr3 ⟨cap', by rw [e2], rfl⟩
          case hw3 =>
            repeat (first | exact weak_nil | refine weak_same ?_ | refine weak_junk ?_)
          case tr3 =>
            exact .inr ⟨1, by simp, rfl, rfl, rfl⟩
        · conv => whnf
          repeat (first | (refine br.yes ?_; conv => whnf) | (refine br.no ?_; conv => whnf))
          have hok : okAt s r c = false := by rw [cmI_eql, arI_rem] at h5 h6; simp at h5 h6; simp [okAt, h5, h6]
          rw [add_one (by omega), ← gridTo_no hok]
          refine hR2 hc1 _ _ _ _ ?hw4 (.inl rfl) ⟨cap, rfl, rfl⟩
          case hw4 =>
            repeat (first | exact weak_nil | refine weak_same ?_ | refine weak_junk ?_)
      · conv => whnf
        repeat (first | (refine br.yes ?_; conv => whnf) | (refine br.no ?_; conv => whnf))
        have hok : okAt s r c = false := by rw [cmI_eql, arI_rem] at h5; simp at h5; simp [okAt, h5]
        rw [add_one (by omega), ← gridTo_no hok]
        refine hR2 hc1 _ _ _ _ ?hw5 (.inl rfl) ⟨cap, rfl, rfl⟩
        case hw5 =>
          repeat (first | exact weak_nil | refine weak_same ?_ | refine weak_junk ?_)
    · have hc2 := ge_of_lss h4
      have : c = N := by omega
      subst this
      conv => whnf
      repeat (first | (refine br.yes ?_; conv => whnf) | (refine br.no ?_; conv => whnf))
      rw [add_one (by omega), ← gridTo_row]
      refine hR hr1 _ _ _ _ ?hw6 (.inl rfl) ⟨cap, rfl, rfl⟩
      case hw6 =>
        repeat (first | exact weak_nil | refine weak_same ?_ | refine weak_junk ?_)
  · have hr2 := ge_of_lss h3
    have : r = N := by omega
    subst this
    conv => whnf
    repeat (first | (refine br.yes ?_; conv => whnf) | (refine br.no ?_; conv => whnf))
    refine br_intro (fun h7 => ?_) (fun h7 => ?_)
    · conv => whnf
      repeat (first | (refine br.yes ?_; conv => whnf) | (refine br.no ?_; conv => whnf))
      exact k2 r cap rfl hok0 (by rw [cmI_gtr] at h7; simp at h7; omega)
    · conv => whnf
      repeat (first | (refine br.yes ?_; conv => whnf) | (refine br.no ?_; conv => whnf))
      exact k3 r cap rfl hok0 (by rw [cmI_gtr] at h7; simp at h7; omega)
set_option maxRecDepth 20000 in
theorem c22b {n0 r0 : Nat} {x0 : List (Int × Int)} {n s : Int} {K : AV → MS → Prop} (k1 : (isSide n && decide (1 ≤ s)) = false → K (.tup [nilS 1, AV.int 2]) [⟨true, .ap n0 x0, r0⟩])
    (k2 : ∀ (N cap : Nat), n = N → (isSide n && decide (1 ≤ s)) = true → 20 < (gridTo s N N 0).length → K (.tup [nilS 1, AV.int 2]) [⟨true, .ap n0 x0, r0⟩, ⟨true, .ap (gridTo s N N 0).length (gridTo s N N 0), cap * 2⟩])
    (k3 : ∀ (N cap : Nat), n = N → (isSide n && decide (1 ≤ s)) = true → (gridTo s N N 0).length ≤ 20 → K (.tup [.sl 1 [] 2 0 (gridTo s N N 0).length cap, AV.int 0]) [⟨true, .ap n0 x0, r0⟩, ⟨true, .ap (gridTo s N N 0).length (gridTo s N N 0), cap * 2⟩]) : CallLeaf Try.prog w0 22 [AV.int n, AV.int s] [⟨true, .ap n0 x0, r0⟩] K := by
  refine fn_go hmix h22 ?_
  conv => whnf
  repeat (first | (refine br.yes ?_; conv => whnf) | (refine br.no ?_; conv => whnf))
  refine c46 ?_
  conv => whnf
  repeat (first | (refine br.yes ?_; conv => whnf) | (refine br.no ?_; conv => whnf))
  refine br_intro (fun h => ?_) (fun h => ?_)
  · conv => whnf
    repeat (first | (refine br.yes ?_; conv => whnf) | (refine br.no ?_; conv => whnf))
    exact k1 (by rw [notB_eq] at h; simp at h; simp [h])
  conv => whnf
  repeat (first | (refine br.yes ?_; conv => whnf) | (refine br.no ?_; conv => whnf))
  refine br_intro (fun h2 => ?_) (fun h2 => ?_)
  · conv => whnf
    repeat (first | (refine br.yes ?_; conv => whnf) | (refine br.no ?_; conv => whnf))
    exact k1 (by rw [cmI_lss] at h2; simp at h2; simp; intro _; omega)
  conv => whnf
  repeat (first | (refine br.yes ?_; conv => whnf) | (refine br.no ?_; conv => whnf))
  have hs1 : 1 ≤ s := by rw [cmI_lss] at h2; simp at h2; omega
  have hok0 : (isSide n && decide (1 ≤ s)) = true := by rw [notB_eq] at h; simp at h; simp [h, hs1]
  obtain ⟨N, rfl, hN8, hN0⟩ := side_nat (n := n) (by rw [notB_eq] at h; simpa using h)
  refine loop_inv N (fun r ts m => ∃ cap, m = [⟨true, .ap n0 x0, r0⟩, ⟨true, .ap (gridTo s N r 0).length (gridTo s N r 0), cap * 2⟩] ∧ ts = [AV.int N, AV.int s, .junk, .junk, nilS 1, AV.int 0, .sl 1 [] 2 0 (gridTo s N r 0).length cap, .junk, .junk, .junk, .junk, .junk, .junk, .junk, .junk, .junk, .junk, AV.int N, AV.int r, .junk, .junk, .junk, .junk, .junk, .junk, .junk, .junk, .junk, .junk, .junk, .junk, .junk, .junk, .junk, .junk, .junk, .junk, .junk, .junk, .junk, .junk, .junk, .junk, .junk, .junk, .junk, .junk]) _ _ ?hw (.inl rfl) ⟨0, rfl, rfl⟩ ?_
  case hw =>
    repeat (first | exact weak_nil | refine weak_same ?_ | refine weak_junk ?_)
  rintro r hr ts m ⟨cap, rfl, rfl⟩ R hR
  conv => whnf
  repeat (first | (refine br.yes ?_; conv => whnf) | (refine br.no ?_; conv => whnf))
  refine br_intro (fun h3 => ?_) (fun h3 => ?_)
  · have hr1 := lt_of_lss h3
    conv => whnf
    repeat (first | (refine br.yes ?_; conv => whnf) | (refine br.no ?_; conv => whnf))
    refine loop_inv N (fun c ts m => ∃ cap, m = [⟨true, .ap n0 x0, r0⟩, ⟨true, .ap (gridTo s N r c).length (gridTo s N r c), cap * 2⟩] ∧ ts = [AV.int N, AV.int s, .junk, .junk, nilS 1, AV.int 0, .sl 1 [] 2 0 (gridTo s N r c).length cap, AV.int r, .junk, .junk, .junk, .junk, .junk, .junk, .junk, .junk, .junk, AV.int N, AV.int r, .junk, .junk, AV.int N, AV.int c, .junk, .junk, .junk, .junk, .junk, .junk, .junk, .junk, .junk, .junk, .junk, .junk, .junk, .junk, .junk, .junk, .junk, .junk, .junk, .junk, .junk, .junk, .junk, .junk]) _ _ ?hw2 (.inl rfl) ⟨cap, rfl, rfl⟩ ?_
    case hw2 =>
      repeat (first | exact weak_nil | refine weak_same ?_ | refine weak_junk ?_)
    rintro c hc ts m ⟨cap, rfl, rfl⟩ R2 hR2
    conv => whnf
    repeat (first | (refine br.yes ?_; conv => whnf) | (refine br.no ?_; conv => whnf))
    refine br_intro (fun h4 => ?_) (fun h4 => ?_)
    · have hc1 := lt_of_lss h4
      conv => whnf
      repeat (first | (refine br.yes ?_; conv => whnf) | (refine br.no ?_; conv => whnf))
      refine ⟨side_in (by omega), ?_⟩
      conv => whnf
      repeat (first | (refine br.yes ?_; conv => whnf) | (refine br.no ?_; conv => whnf))
      refine br_intro (fun h5 => ?_) (fun h5 => ?_)
      · conv => whnf
        repeat (first | (refine br.yes ?_; conv => whnf) | (refine br.no ?_; conv => whnf))
        refine ⟨side_in (by omega), ?_⟩
        conv => whnf
        repeat (first | (refine br.yes ?_; conv => whnf) | (refine br.no ?_; conv => whnf))
        refine br_intro (fun h6 => ?_) (fun h6 => ?_)
        · conv => whnf
          repeat (first | (refine br.yes ?_; conv => whnf) | (refine br.no ?_; conv => whnf))
          have hok : okAt s r c = true := by rw [cmI_eql, arI_rem] at h5 h6; simp at h5 h6; simp [okAt, h5, h6]
          have hlen := gridTo_length s N r c
          have hbd : r * N + c ≤ 1048000 := by
            have : r * N ≤ 8 * 8 := Nat.mul_le_mul (by omega) hN8
            omega
          refine ⟨side_in ⟨by decide, rfl, rfl, by omega, rfl⟩, fun cap' => ?_⟩
          conv => whnf
          repeat (first | (refine br.yes ?_; conv => whnf) | (refine br.no ?_; conv => whnf))
          have e1 : addN (gridTo s N r c).length 1 = (gridTo s N r (c + 1)).length := by rw [gridTo_yes hok, addN_eq]; simp
          rw [add_one (by omega), e1]
          have e2 := gridTo_yes (n := N) hok
          refine hR2 hc1 _ _ _ [⟨true, .ap n0 x0, r0⟩, ⟨true, .ap (gridTo s N r (c + 1)).length (gridTo s N r c ++ [((r : Int), (c : Int))]), cap' * 2⟩] ?hw3 ?tr3 ⟨cap', by rw [e2], rfl⟩
          case hw3 =>
            repeat (first | exact weak_nil | refine weak_same ?_ | refine weak_junk ?_)
          case tr3 =>
            exact .inr ⟨2, by simp, rfl, rfl, rfl⟩
        · conv => whnf
          repeat (first | (refine br.yes ?_; conv => whnf) | (refine br.no ?_; conv => whnf))
          have hok : okAt s r c = false := by rw [cmI_eql, arI_rem] at h5 h6; simp at h5 h6; simp [okAt, h5, h6]
          rw [add_one (by omega), ← gridTo_no hok]
          refine hR2 hc1 _ _ _ _ ?hw4 (.inl rfl) ⟨cap, rfl, rfl⟩
          case hw4 =>
            repeat (first | exact weak_nil | refine weak_same ?_ | refine weak_junk ?_)
      · conv => whnf
        repeat (first | (refine br.yes ?_; conv => whnf) | (refine br.no ?_; conv => whnf))
        have hok : okAt s r c = false := by rw [cmI_eql, arI_rem] at h5; simp at h5; simp [okAt, h5]
        rw [add_one (by omega), ← gridTo_no hok]
        refine hR2 hc1 _ _ _ _ ?hw5 (.inl rfl) ⟨cap, rfl, rfl⟩
        case hw5 =>
          repeat (first | exact weak_nil | refine weak_same ?_ | refine weak_junk ?_)
    · have hc2 := ge_of_lss h4
      have : c = N := by omega
      subst this
      conv => whnf
      repeat (first | (refine br.yes ?_; conv => whnf) | (refine br.no ?_; conv => whnf))
      rw [add_one (by omega), ← gridTo_row]
      refine hR hr1 _ _ _ _ ?hw6 (.inl rfl) ⟨cap, rfl, rfl⟩
      case hw6 =>
        repeat (first | exact weak_nil | refine weak_same ?_ | refine weak_junk ?_)
  · have hr2 := ge_of_lss h3
    have : r = N := by omega
    subst this
    conv => whnf
    repeat (first | (refine br.yes ?_; conv => whnf) | (refine br.no ?_; conv => whnf))
    refine br_intro (fun h7 => ?_) (fun h7 => ?_)
    · conv => whnf
      repeat (first | (refine br.yes ?_; conv => whnf) | (refine br.no ?_; conv => whnf))
      exact k2 r cap rfl hok0 (by rw [cmI_gtr] at h7; simp at h7; omega)
    · conv => whnf
      repeat (first | (refine br.yes ?_; conv => whnf) | (refine br.no ?_; conv => whnf))
      exact k3 r cap rfl hok0 (by rw [cmI_gtr] at h7; simp at h7; omega)
set_option maxRecDepth 20000 in
theorem c22c {n0 r0 : Nat} {x0 : List (Int × Int)} {n1 r1 : Nat} {x1 : List (Int × Int)} {n s : Int} {K : AV → MS → Prop} (k1 : (isSide n && decide (1 ≤ s)) = false → K (.tup [nilS 1, AV.int 2]) [⟨true, .ap n0 x0, r0⟩, ⟨true, .ap n1 x1, r1⟩])
    (k2 : ∀ (N cap : Nat), n = N → (isSide n && decide (1 ≤ s)) = true → 20 < (gridTo s N N 0).length → K (.tup [nilS 1, AV.int 2]) [⟨true, .ap n0 x0, r0⟩, ⟨true, .ap n1 x1, r1⟩, ⟨true, .ap (gridTo s N N 0).length (gridTo s N N 0), cap * 2⟩])
    (k3 : ∀ (N cap : Nat), n = N → (isSide n && decide (1 ≤ s)) = true → (gridTo s N N 0).length ≤ 20 → K (.tup [.sl 2 [] 2 0 (gridTo s N N 0).length cap, AV.int 0]) [⟨true, .ap n0 x0, r0⟩, ⟨true, .ap n1 x1, r1⟩, ⟨true, .ap (gridTo s N N 0).length (gridTo s N N 0), cap * 2⟩]) : CallLeaf Try.prog w0 22 [AV.int n, AV.int s] [⟨true, .ap n0 x0, r0⟩, ⟨true, .ap n1 x1, r1⟩] K := by
  refine fn_go hmix h22 ?_
  conv => whnf
  repeat (first | (refine br.yes ?_; conv => whnf) | (refine br.no ?_; conv => whnf))
  refine c46 ?_
  conv => whnf
  repeat (first | (refine br.yes ?_; conv => whnf) | (refine br.no ?_; conv => whnf))
  refine br_intro (fun h => ?_) (fun h => ?_)
  · conv => whnf
    repeat (first | (refine br.yes ?_; conv => whnf) | (refine br.no ?_; conv => whnf))
    exact k1 (by rw [notB_eq] at h; simp at h; simp [h])
  conv => whnf
  repeat (first | (refine br.yes ?_; conv => whnf) | (refine br.no ?_; conv => whnf))
  refine br_intro (fun h2 => ?_) (fun h2 => ?_)
  · conv => whnf
    repeat (first | (refine br.yes ?_; conv => whnf) | (refine br.no ?_; conv => whnf))
    exact k1 (by rw [cmI_lss] at h2; simp at h2; simp; intro _; omega)
  conv => whnf
  repeat (first | (refine br.yes ?_; conv => whnf) | (refine br.no ?_; conv => whnf))
  have hs1 : 1 ≤ s := by rw [cmI_lss] at h2; simp at h2; omega
  have hok0 : (isSide n && decide (1 ≤ s)) = true := by rw [notB_eq] at h; simp at h; simp [h, hs1]
  obtain ⟨N, rfl, hN8, hN0⟩ := side_nat (n := n) (by rw [notB_eq] at h; simpa using h)
  refine loop_inv N (fun r ts m => ∃ cap, m = [⟨true, .ap n0 x0, r0⟩, ⟨true, .ap n1 x1, r1⟩, ⟨true, .ap (gridTo s N r 0).length (gridTo s N r 0), cap * 2⟩] ∧ ts = [AV.int N, AV.int s, .junk, .junk, nilS 1, AV.int 0, .sl 2 [] 2 0 (gridTo s N r 0).length cap, .junk, .junk, .junk, .junk, .junk, .junk, .junk, .junk, .junk, .junk, AV.int N, AV.int r, .junk, .junk, .junk, .junk, .junk, .junk, .junk, .junk, .junk, .junk, .junk, .junk, .junk, .junk, .junk, .junk, .junk, .junk, .junk, .junk, .junk, .junk, .junk, .junk, .junk, .junk, .junk, .junk]) _ _ ?hw (.inl rfl) ⟨0, rfl, rfl⟩ ?_
  case hw =>
    repeat (first | exact weak_nil | refine weak_same ?_ | refine weak_junk ?_)
  rintro r hr ts m ⟨cap, rfl, rfl⟩ R hR
  conv => whnf
  repeat (first | (refine br.yes ?_; conv => whnf) | (refine br.no ?_; conv => whnf))
  refine br_intro (fun h3 => ?_) (fun h3 => ?_)
  · have hr1 := lt_of_lss h3
    conv => whnf
    repeat (first | (refine br.yes ?_; conv => whnf) | (refine br.no ?_; conv => whnf))
    refine loop_inv N (fun c ts m => ∃ cap, m = [⟨true, .ap n0 x0, r0⟩, ⟨true, .ap n1 x1, r1⟩, ⟨true, .ap (gridTo s N r c).length (gridTo s N r c), cap * 2⟩] ∧ ts = [AV.int N, AV.int s, .junk, .junk, nilS 1, AV.int 0, .sl 2 [] 2 0 (gridTo s N r c).length cap, AV.int r, .junk, .junk, .junk, .junk, .junk, .junk, .junk, .junk, .junk, AV.int N, AV.int r, .junk, .junk, AV.int N, AV.int c, .junk, .junk, .junk, .junk, .junk, .junk, .junk, .junk, .junk, .junk, .junk, .junk, .junk, .junk, .junk, .junk, .junk, .junk, .junk, .junk, .junk, .junk, .junk, .junk]) _ _ ?hw2 (.inl rfl) ⟨cap, rfl, rfl⟩ ?_
    case hw2 =>
      repeat (first | exact weak_nil | refine weak_same ?_ | refine weak_junk ?_)
    rintro c hc ts m ⟨cap, rfl, rfl⟩ R2 hR2
    conv => whnf
    repeat (first | (refine br.yes ?_; conv => whnf) | (refine br.no ?_; conv => whnf))
    refine br_intro (fun h4 => ?_) (fun h4 => ?_)
    · have hc1 := lt_of_lss h4
      conv => whnf
      repeat (first | (refine br.yes ?_; conv => whnf) | (refine br.no ?_; conv => whnf))
      refine ⟨side_in (by omega), ?_⟩
      conv => whnf
      repeat (first | (refine br.yes ?_; conv => whnf) | (refine br.no ?_; conv => whnf))
      refine br_intro (fun h5 => ?_) (fun h5 => ?_)
      · conv => whnf
        repeat (first | (refine br.yes ?_; conv => whnf) | (refine br.no ?_; conv => whnf))
        refine ⟨side_in (by omega), ?_⟩
        conv => whnf
        repeat (first | (refine br.yes ?_; conv => whnf) | (refine br.no ?_; conv => whnf))
        refine br_intro (fun h6 => ?_) (fun h6 => ?_)
        · conv => whnf
          repeat (first | (refine br.yes ?_; conv => whnf) | (refine br.no ?_; conv => whnf))
          have hok : okAt s r c = true := by rw [cmI_eql, arI_rem] at h5 h6; simp at h5 h6; simp [okAt, h5, h6]
          have hlen := gridTo_length s N r c
          have hbd : r * N + c ≤ 1048000 := by
            have : r * N ≤ 8 * 8 := Nat.mul_le_mul (by omega) hN8
            omega
          refine ⟨side_in ⟨by decide, rfl, rfl, by omega, rfl⟩, fun cap' => ?_⟩
          conv => whnf
          repeat (first | (refine br.yes ?_; conv => whnf) | (refine br.no ?_; conv => whnf))
          have e1 : addN (gridTo s N r c).length 1 = (gridTo s N r (c + 1)).length := by rw [gridTo_yes hok, addN_eq]; simp
          rw [add_one (by omega), e1]
          have e2 := gridTo_yes (n := N) hok
          refine hR2 hc1 _ _ _ [⟨true, .ap n0 x0, r0⟩, ⟨true, .ap n1 x1, r1⟩, ⟨true, .ap (gridTo s N r (c + 1)).length (gridTo s N r c ++ [((r : Int), (c : Int))]), cap' * 2⟩] ?hw3 ?tr3 ⟨cap', by rw [e2], rfl⟩
          case hw3 =>
            repeat (first | exact weak_nil | refine weak_same ?_ | refine weak_junk ?_)
          case tr3 =>
            exact .inr ⟨3, by simp, rfl, rfl, rfl⟩
        · conv => whnf
          repeat (first | (refine br.yes ?_; conv => whnf) | (refine br.no ?_; conv => whnf))
          have hok : okAt s r c = false := by rw [cmI_eql, arI_rem] at h5 h6; simp at h5 h6; simp [okAt, h5, h6]
          rw [add_one (by omega), ← gridTo_no hok]
          refine hR2 hc1 _ _ _ _ ?hw4 (.inl rfl) ⟨cap, rfl, rfl⟩
          case hw4 =>
            repeat (first | exact weak_nil | refine weak_same ?_ | refine weak_junk ?_)
      · conv => whnf
        repeat (first | (refine br.yes ?_; conv => whnf) | (refine br.no ?_; conv => whnf))
        have hok : okAt s r c = false := by rw [cmI_eql, arI_rem] at h5; simp at h5; simp [okAt, h5]
        rw [add_one (by omega), ← gridTo_no hok]
        refine hR2 hc1 _ _ _ _ ?hw5 (.inl rfl) ⟨cap, rfl, rfl⟩
        case hw5 =>
          repeat (first | exact weak_nil | refine weak_same ?_ | refine weak_junk ?_)
    · have hc2 := ge_of_lss h4
      have : c = N := by omega
      subst this
      conv => whnf
      repeat (first | (refine br.yes ?_; conv => whnf) | (refine br.no ?_; conv => whnf))
      rw [add_one (by omega), ← gridTo_row]
      refine hR hr1 _ _ _ _ ?hw6 (.inl rfl) ⟨cap, rfl, rfl⟩
      case hw6 =>
        repeat (first | exact weak_nil | refine weak_same ?_ | refine weak_junk ?_)
  · have hr2 := ge_of_lss h3
    have : r = N := by omega
    subst this
    conv => whnf
    repeat (first | (refine br.yes ?_; conv => whnf) | (refine br.no ?_; conv => whnf))
    refine br_intro (fun h7 => ?_) (fun h7 => ?_)
    · conv => whnf
      repeat (first | (refine br.yes ?_; conv => whnf) | (refine br.no ?_; conv => whnf))
      exact k2 r cap rfl hok0 (by rw [cmI_gtr] at h7; simp at h7; omega)
    · conv => whnf
      repeat (first | (refine br.yes ?_; conv => whnf) | (refine br.no ?_; conv => whnf))
      exact k3 r cap rfl hok0 (by rw [cmI_gtr] at h7; simp at h7; omega)

theorem c52 {a b c d : Int} (hK : K (AV.bool (decide ((a, b) = (c, d)))) m) : CallLeaf Try.prog w0 52 [.st [AV.int a, AV.int b], .st [AV.int c, AV.int d]] m K := by
  refine call_keep ?_
  refine fn_go hmix h52 ?_
  conv => whnf
  repeat (first | (refine br.yes ?_; conv => whnf) | (refine br.no ?_; conv => whnf))
  rw [newK_eq]
  conv => whnf
  repeat (first | (refine br.yes ?_; conv => whnf) | (refine br.no ?_; conv => whnf))
  rw [newK_eq]
  conv => whnf
  repeat (first | (refine br.yes ?_; conv => whnf) | (refine br.no ?_; conv => whnf))
  rw [getE_left getE_last]
  conv => whnf
  repeat (first | (refine br.yes ?_; conv => whnf) | (refine br.no ?_; conv => whnf))
  rw [getE_last]
  conv => whnf
  repeat (first | (refine br.yes ?_; conv => whnf) | (refine br.no ?_; conv => whnf))
  refine br_intro (fun h => ?_) (fun h => ?_)
  · conv => whnf
    repeat (first | (refine br.yes ?_; conv => whnf) | (refine br.no ?_; conv => whnf))
    exact ⟨by simp, rfl, K_bool hK (by rw [cmI_neq] at h; simp at h; simp [h])⟩
  conv => whnf
  repeat (first | (refine br.yes ?_; conv => whnf) | (refine br.no ?_; conv => whnf))
  rw [getE_left getE_last]
  conv => whnf
  repeat (first | (refine br.yes ?_; conv => whnf) | (refine br.no ?_; conv => whnf))
  rw [getE_last]
  conv => whnf
  repeat (first | (refine br.yes ?_; conv => whnf) | (refine br.no ?_; conv => whnf))
  refine br_intro (fun h2 => ?_) (fun h2 => ?_)
  · conv => whnf
    repeat (first | (refine br.yes ?_; conv => whnf) | (refine br.no ?_; conv => whnf))
    exact ⟨by simp, rfl, K_bool hK (by rw [cmI_neq] at h2; simp at h2; simp [h2])⟩
  conv => whnf
  repeat (first | (refine br.yes ?_; conv => whnf) | (refine br.no ?_; conv => whnf))
  exact ⟨by simp, rfl, K_bool hK (by rw [cmI_neq] at h h2; simp at h h2; simp [h, h2])⟩
theorem c23 {i j n1 n2 c1 c2 r1 r2 : Nat} {o1 o2 : Bool} {xs ys : List (Int × Int)} (hi : getE m i = some ⟨o1, .ap n1 xs, r1⟩) (hj : getE m j = some ⟨o2, .ap n2 ys, r2⟩) (hx : xs.length = n1) (hy : ys.length = n2) (hn : n1 ≤ 4611686018427387904)
    (hK : K (AV.bool (decide (xs = ys))) m) : CallLeaf Try.prog w0 23 [.sl i [] 2 0 n1 c1, .sl j [] 2 0 n2 c2] m K := by
  refine fn_go hmix h23 ?_
  conv => whnf
  repeat (first | (refine br.yes ?_; conv => whnf) | (refine br.no ?_; conv => whnf))
  refine br_intro (fun h => ?_) (fun h => ?_)
  · conv => whnf
    repeat (first | (refine br.yes ?_; conv => whnf) | (refine br.no ?_; conv => whnf))
    exact K_bool hK (by rw [cmI_neq] at h; simp at h; simp; intro hh; subst hh; omega)
  conv => whnf
  repeat (first | (refine br.yes ?_; conv => whnf) | (refine br.no ?_; conv => whnf))
  have hnn : n1 = n2 := by rw [cmI_neq] at h; simp at h; omega
  refine loop_inv n1 (fun k ts m' => m' = m ∧ ts = [.sl i [] 2 0 n1 c1, .sl j [] 2 0 n2 c2, .junk, .junk, AV.bool false, AV.int k, .junk, .junk, .junk, .junk, .junk, .junk, .junk, .junk, .junk, .junk, .junk, .junk, .junk, .junk, .junk, .junk, .junk, .junk, .junk, .junk, .junk] ∧ ∀ p, p < k → xs.getD p (0, 0) = ys.getD p (0, 0)) _ _ ?hw trim_no ⟨rfl, rfl, by intro p hp; omega⟩ ?_
  case hw =>
    repeat (first | exact weak_nil | refine weak_same ?_ | refine weak_junk ?_)
  rintro k hk ts m' ⟨rfl, rfl, hpre⟩ R hR
  conv => whnf
  repeat (first | (refine br.yes ?_; conv => whnf) | (refine br.no ?_; conv => whnf))
  refine br_intro (fun h1 => ?_) (fun h1 => ?_)
  · conv => whnf
    repeat (first | (refine br.yes ?_; conv => whnf) | (refine br.no ?_; conv => whnf))
    have hk1 := lt_of_lss h1
    refine ⟨side_in ⟨by omega, by omega⟩, ?_⟩
    conv => whnf
    repeat (first | (refine br.yes ?_; conv => whnf) | (refine br.no ?_; conv => whnf))
    rw [hi]
    conv => whnf
    repeat (first | (refine br.yes ?_; conv => whnf) | (refine br.no ?_; conv => whnf))
    refine ⟨side_in (at_lt hk1), ?_⟩
    conv => whnf
    repeat (first | (refine br.yes ?_; conv => whnf) | (refine br.no ?_; conv => whnf))
    refine ⟨side_in ⟨by omega, by omega⟩, ?_⟩
    conv => whnf
    repeat (first | (refine br.yes ?_; conv => whnf) | (refine br.no ?_; conv => whnf))
    rw [hj]
    conv => whnf
    repeat (first | (refine br.yes ?_; conv => whnf) | (refine br.no ?_; conv => whnf))
    refine ⟨side_in (at_lt (by omega)), ?_⟩
    rw [nth_at, nth_at]
    conv => whnf
    repeat (first | (refine br.yes ?_; conv => whnf) | (refine br.no ?_; conv => whnf))
    refine q_keep _ (fun K' hK' => c52 hK') ?_
    conv => whnf
    repeat (first | (refine br.yes ?_; conv => whnf) | (refine br.no ?_; conv => whnf))
    refine br_intro (fun h2 => ?_) (fun h2 => ?_)
    · conv => whnf
      repeat (first | (refine br.yes ?_; conv => whnf) | (refine br.no ?_; conv => whnf))
      refine K_bool hK ?_
      rw [notB_eq] at h2
      simp at h2
      simp
      intro hh; subst hh
      rcases h2 with h2 | h2 <;> exact h2 rfl
    · conv => whnf
      repeat (first | (refine br.yes ?_; conv => whnf) | (refine br.no ?_; conv => whnf))
      rw [add_one (by omega)]
      refine hR hk1 _ _ _ _ ?hw2 trim_no ⟨rfl, rfl, fun p hp => ?_⟩
      case hw2 =>
        repeat (first | exact weak_nil | refine weak_same ?_ | refine weak_junk ?_)
      rw [notB_eq] at h2
      simp at h2
      rcases Nat.lt_or_ge p k with hlt | hge
      · exact hpre p hlt
      · have : p = k := by omega
        subst this
        simpa using Prod.ext h2.1 h2.2
  · conv => whnf
    repeat (first | (refine br.yes ?_; conv => whnf) | (refine br.no ?_; conv => whnf))
    have hk2 := ge_of_lss h1
    refine K_bool hK ?_
    have : k = n1 := by omega
    subst this
    simp only [decide_eq_true_eq]
    exact ext_getD (by omega) (fun p hp => hpre p (by omega))
theorem c23n (hK : K (AV.bool true) m) : CallLeaf Try.prog w0 23 [nilS 1, nilS 1] m K := by
  refine fn_go hmix h23 ?_
  conv => whnf
  repeat (first | (refine br.yes ?_; conv => whnf) | (refine br.no ?_; conv => whnf))
  refine br_false (by rw [cmI_neq]; simp) ?_
  conv => whnf
  repeat (first | (refine br.yes ?_; conv => whnf) | (refine br.no ?_; conv => whnf))
  refine loop_inv 0 (fun k ts m' => m' = m ∧ ts = [nilS 1, nilS 1, .junk, .junk, AV.bool false, AV.int 0, .junk, .junk, .junk, .junk, .junk, .junk, .junk, .junk, .junk, .junk, .junk, .junk, .junk, .junk, .junk, .junk, .junk, .junk, .junk, .junk, .junk]) _ _ ?hw trim_no ⟨rfl, rfl⟩ ?_
  case hw =>
    repeat (first | exact weak_nil | refine weak_same ?_ | refine weak_junk ?_)
  rintro k hk ts m' ⟨rfl, rfl⟩ R hR
  conv => whnf
  repeat (first | (refine br.yes ?_; conv => whnf) | (refine br.no ?_; conv => whnf))
  refine br_false (by rw [cmI_lss]; simp) ?_
  conv => whnf
  repeat (first | (refine br.yes ?_; conv => whnf) | (refine br.no ?_; conv => whnf))
  exact hK
/-- the marks that a test writes -/
def Marks (k : Int) (xs : List (Int × Int)) : Prop := ∀ p, p < xs.length → xs.getD p (0, 0) = (k + 2 * p, k + 2 * p + 1)
theorem add_lit {x : Int} (h1 : -4611686018427387904 ≤ x) (h2 : x ≤ 4611686018427387904) : arI .add .i64 x 1 = x + 1 := by rw [arI_add, wrap_fits (by omega) (by omega)]
theorem c24 {i n c r : Nat} {k : Int} {xs : List (Int × Int)} (hi : getE m i = some ⟨true, .ap n xs, r⟩) (hx : xs.length = n) (hn : n ≤ 1048576) (hk0 : 0 ≤ k ∧ k ≤ 1048576)
    (hK : ∀ ys : List (Int × Int), ys.length = n → Marks k ys → setEK m i ⟨true, .ap n ys, r⟩ fun m => K (AV.int (k + 2 * n)) m) : CallLeaf Try.prog w0 24 [.sl i [] 2 0 n c, AV.int k] m K := by
  refine fn_go hmix h24 ?_
  conv => whnf
  repeat (first | (refine br.yes ?_; conv => whnf) | (refine br.no ?_; conv => whnf))
  refine loop_inv n (fun j ts m' => ∃ ys : List (Int × Int), ys.length = n ∧ (∀ p, p < j → ys.getD p (0, 0) = (k + 2 * p, k + 2 * p + 1)) ∧ m' = setM m i ⟨true, .ap n ys, r⟩ ∧ ts = [.sl i [] 2 0 n c, AV.int (k + 2 * j), .junk, .junk, AV.int 0, AV.int j, .junk, .junk, .junk, .junk, .junk, .junk, .junk, .junk, .junk, .junk, .junk, .junk, .junk, .junk, .junk, .junk, .junk, .junk, .junk, .junk, .junk]) [.sl i [] 2 0 n c, AV.int k, .junk, .junk, AV.int 0, AV.int 0, .junk, .junk, .junk, .junk, .junk, .junk, .junk, .junk, .junk, .junk, .junk, .junk, .junk, .junk, .junk, .junk, .junk, .junk, .junk, .junk, .junk] _ ?hw trim_no ⟨xs, hx, by intro p hp; omega, (setM_self hi).symm, by simp⟩ ?_
  case hw =>
    repeat (first | exact weak_nil | refine weak_same ?_ | refine weak_junk ?_)
  rintro j hj ts M ⟨ys, hy, hpre, hM, rfl⟩ R hR
  have hi1 : getE M i = some ⟨true, .ap n ys, r⟩ := by rw [hM]; exact getE_set hi
  obtain ⟨z, hz⟩ : ∃ z : Int, z = k + 2 * (j : Int) := ⟨_, rfl⟩
  rw [← hz]
  conv => whnf
  repeat (first | (refine br.yes ?_; conv => whnf) | (refine br.no ?_; conv => whnf))
  refine br_intro (fun h1 => ?_) (fun h1 => ?_)
  · have hj1 := lt_of_lss h1
    conv => whnf
    repeat (first | (refine br.yes ?_; conv => whnf) | (refine br.no ?_; conv => whnf))
    refine ⟨side_in ⟨by omega, by omega⟩, ?_⟩
    simp only [snocK, putK, setK]
    simp only [aops, aopX, aop, evK, getK, snocK, putK, setK]
    conv => whnf
    repeat (first | (refine br.yes ?_; conv => whnf) | (refine br.no ?_; conv => whnf))
    rw [hi1]
    conv => whnf
    repeat (first | (refine br.yes ?_; conv => whnf) | (refine br.no ?_; conv => whnf))
    refine ⟨side_in (at_lt hj1), ?_⟩
    conv => whnf
    repeat (first | (refine br.yes ?_; conv => whnf) | (refine br.no ?_; conv => whnf))
    rw [setEK_M]
    conv => whnf
    repeat (first | (refine br.yes ?_; conv => whnf) | (refine br.no ?_; conv => whnf))
    refine ⟨side_in ⟨by omega, by omega⟩, ?_⟩
    simp only [snocK, putK, setK]
    simp only [aops, aopX, aop, evK, getK, snocK, putK, setK]
    conv => whnf
    repeat (first | (refine br.yes ?_; conv => whnf) | (refine br.no ?_; conv => whnf))
    rw [getE_set hi1]
    conv => whnf
    repeat (first | (refine br.yes ?_; conv => whnf) | (refine br.no ?_; conv => whnf))
    refine ⟨side_in (at_lt hj1), ?_⟩
    conv => whnf
    repeat (first | (refine br.yes ?_; conv => whnf) | (refine br.no ?_; conv => whnf))
    rw [setEK_M]
    conv => whnf
    repeat (first | (refine br.yes ?_; conv => whnf) | (refine br.no ?_; conv => whnf))
    have e1 : arI .add .i64 z 1 = z + 1 := add_lit (by omega) (by omega)
    have e2 : arI .add .i64 (z + 1) 1 = k + 2 * ((j + 1 : Nat) : Int) := by rw [add_lit (by omega) (by omega)]; omega
    rw [e1, e2, add_one (by omega), nth_at, nth_at, upd_at, upd_at, set_set_ms, hM, set_set_ms]
    refine hR hj1 _ _ _ _ ?hw2 trim_no ⟨(ys.set j (k + 2 * j, k + 2 * j + 1)), by simp [hy], fun p hp => ?_, ?_, rfl⟩
    case hw2 =>
      repeat (first | exact weak_nil | refine weak_same ?_ | refine weak_junk ?_)
    · by_cases hpj : j = p
      · subst hpj; rw [getD_set_self (by omega)]
      · rw [getD_set_other hpj]; exact hpre p (by omega)
    · rw [getD_set_self (by omega), List.set_set, hz]
  · have hj2 := ge_of_lss h1
    have : j = n := by omega
    subst this
    conv => whnf
    repeat (first | (refine br.yes ?_; conv => whnf) | (refine br.no ?_; conv => whnf))
    rw [hM, hz]
    have hK := hK ys hy (fun p hp => hpre p (by omega))
    rw [setEK_M] at hK
    exact hK
theorem c24n {k : Int} (hK : K (AV.int k) m) : CallLeaf Try.prog w0 24 [nilS 1, AV.int k] m K := by
  refine fn_go hmix h24 ?_
  conv => whnf
  repeat (first | (refine br.yes ?_; conv => whnf) | (refine br.no ?_; conv => whnf))
  refine loop_inv 0 (fun j ts m' => m' = m ∧ ts = [nilS 1, AV.int k, .junk, .junk, AV.int 0, AV.int 0, .junk, .junk, .junk, .junk, .junk, .junk, .junk, .junk, .junk, .junk, .junk, .junk, .junk, .junk, .junk, .junk, .junk, .junk, .junk, .junk, .junk]) _ _ ?hw trim_no ⟨rfl, rfl⟩ ?_
  case hw =>
    repeat (first | exact weak_nil | refine weak_same ?_ | refine weak_junk ?_)
  rintro j hj ts m' ⟨rfl, rfl⟩ R hR
  conv => whnf
  repeat (first | (refine br.yes ?_; conv => whnf) | (refine br.no ?_; conv => whnf))
  refine br_false (by rw [cmI_lss]; simp) ?_
  conv => whnf
  repeat (first | (refine br.yes ?_; conv => whnf) | (refine br.no ?_; conv => whnf))
  exact hK
theorem c25n {k : Int} (hK : K (AV.int k) m) : CallLeaf Try.prog w0 25 [nilS 1, AV.int k] m K := by
  refine fn_go hmix h25 ?_
  conv => whnf
  repeat (first | (refine br.yes ?_; conv => whnf) | (refine br.no ?_; conv => whnf))
  refine loop_inv 0 (fun j ts m' => m' = m ∧ ts = [nilS 1, AV.int k, .junk, .junk, AV.int 0, AV.int 0, .junk, .junk, .junk, .junk, .junk, .junk, .junk, .junk, .junk, .junk, .junk, .junk, .junk, .junk, .junk, .junk, .junk, .junk, .junk, .junk, .junk, .junk, .junk, .junk, .junk]) _ _ ?hw trim_no ⟨rfl, rfl⟩ ?_
  case hw =>
    repeat (first | exact weak_nil | refine weak_same ?_ | refine weak_junk ?_)
  rintro j hj ts m' ⟨rfl, rfl⟩ R hR
  conv => whnf
  repeat (first | (refine br.yes ?_; conv => whnf) | (refine br.no ?_; conv => whnf))
  refine br_false (by rw [cmI_lss]; simp) ?_
  conv => whnf
  repeat (first | (refine br.yes ?_; conv => whnf) | (refine br.no ?_; conv => whnf))
  exact hK
theorem c25 {i n c r : Nat} {o : Bool} {k : Int} {xs : List (Int × Int)} (hi : getE m i = some ⟨o, .ap n xs, r⟩) (hx : xs.length = n) (hn : n ≤ 1048576) (hk0 : 0 ≤ k ∧ k ≤ 1048576) (hm : Marks k xs)
    (hK : K (AV.int (k + 2 * n)) m) : CallLeaf Try.prog w0 25 [.sl i [] 2 0 n c, AV.int k] m K := by
  refine fn_go hmix h25 ?_
  conv => whnf
  repeat (first | (refine br.yes ?_; conv => whnf) | (refine br.no ?_; conv => whnf))
  refine loop_inv n (fun j ts m' => m' = m ∧ ts = [.sl i [] 2 0 n c, AV.int (k + 2 * j), .junk, .junk, AV.int 0, AV.int j, .junk, .junk, .junk, .junk, .junk, .junk, .junk, .junk, .junk, .junk, .junk, .junk, .junk, .junk, .junk, .junk, .junk, .junk, .junk, .junk, .junk, .junk, .junk, .junk, .junk]) [.sl i [] 2 0 n c, AV.int k, .junk, .junk, AV.int 0, AV.int 0, .junk, .junk, .junk, .junk, .junk, .junk, .junk, .junk, .junk, .junk, .junk, .junk, .junk, .junk, .junk, .junk, .junk, .junk, .junk, .junk, .junk, .junk, .junk, .junk, .junk] _ ?hw trim_no ⟨rfl, by simp⟩ ?_
  case hw =>
    repeat (first | exact weak_nil | refine weak_same ?_ | refine weak_junk ?_)
  rintro j hj ts m' ⟨rfl, rfl⟩ R hR
  conv => whnf
  repeat (first | (refine br.yes ?_; conv => whnf) | (refine br.no ?_; conv => whnf))
  refine br_intro (fun h1 => ?_) (fun h1 => ?_)
  · have hj1 := lt_of_lss h1
    have hmj := hm j (by omega)
    conv => whnf
    repeat (first | (refine br.yes ?_; conv => whnf) | (refine br.no ?_; conv => whnf))
    refine ⟨side_in ⟨by omega, by omega⟩, ?_⟩
    conv => whnf
    repeat (first | (refine br.yes ?_; conv => whnf) | (refine br.no ?_; conv => whnf))
    rw [hi]
    conv => whnf
    repeat (first | (refine br.yes ?_; conv => whnf) | (refine br.no ?_; conv => whnf))
    refine ⟨side_in (at_lt hj1), ?_⟩
    rw [nth_at, hmj]
    conv => whnf
    repeat (first | (refine br.yes ?_; conv => whnf) | (refine br.no ?_; conv => whnf))
    refine br_false (by rw [cmI_neq]; simp) ?_
    conv => whnf
    repeat (first | (refine br.yes ?_; conv => whnf) | (refine br.no ?_; conv => whnf))
    refine ⟨side_in ⟨by omega, by omega⟩, ?_⟩
    conv => whnf
    repeat (first | (refine br.yes ?_; conv => whnf) | (refine br.no ?_; conv => whnf))
    rw [hi]
    conv => whnf
    repeat (first | (refine br.yes ?_; conv => whnf) | (refine br.no ?_; conv => whnf))
    refine ⟨side_in (at_lt hj1), ?_⟩
    have e1 : arI .add .i64 (k + 2 * (j : Int)) 1 = k + 2 * j + 1 := add_lit (by omega) (by omega)
    have e2 : arI .add .i64 (k + 2 * (j : Int) + 1) 1 = k + 2 * ((j + 1 : Nat) : Int) := by rw [add_lit (by omega) (by omega)]; omega
    rw [nth_at, hmj, e1]
    conv => whnf
    repeat (first | (refine br.yes ?_; conv => whnf) | (refine br.no ?_; conv => whnf))
    refine br_false (by rw [cmI_neq]; simp) ?_
    conv => whnf
    repeat (first | (refine br.yes ?_; conv => whnf) | (refine br.no ?_; conv => whnf))
    rw [e2, add_one (by omega)]
    refine hR hj1 _ _ _ _ ?hw2 trim_no ⟨rfl, rfl⟩
    case hw2 =>
      repeat (first | exact weak_nil | refine weak_same ?_ | refine weak_junk ?_)
  · have hj2 := ge_of_lss h1
    have : j = n := by omega
    subst this
    conv => whnf
    repeat (first | (refine br.yes ?_; conv => whnf) | (refine br.no ?_; conv => whnf))
    exact hK
end
end Go.Proofs.Ytfkbgfpidolhhaa
