/- Contracts of functions, by a walk each. -/
import Derived.Test.YtfoflddjcijaeaaCom3
namespace Go.Proofs.Ytfoflddjcijaeaa
open Go Go.Fw
section
variable {w0 : World} {m : MS} {K : AV → MS → Prop}
theorem c_maskBy1 {q f r : Nat} {o b : Bool} {caps : List AV} {y x i : Int} (hq : getE m q = some ⟨o, .fn f caps, r⟩) (hf : fnHas Try.prog f = true)
    (hc : ∀ K : AV → MS → Prop, K (AV.bool b) m → CallLeaf Try.prog w0 f (AV.int y :: AV.int x :: caps) m K)
    (hK : K (.cpx .f32 (if b = true then 1065353216 else 0) 0) m) : CallLeaf Try.prog w0 107 [AV.int y, AV.int x, AV.int i, .ptr q []] m K := by
  refine fn_go hmix h107 ?_
  conv => whnf
  repeat (first | (refine br.yes ?_; conv => whnf) | (refine br.no ?_; conv => whnf))
  rw [hq]
  conv => whnf
  repeat (first | (refine br.yes ?_; conv => whnf) | (refine br.no ?_; conv => whnf))
  refine ⟨side_in hf, ?_⟩
  conv => whnf
  repeat (first | (refine br.yes ?_; conv => whnf) | (refine br.no ?_; conv => whnf))
  refine hc _ ?_
  conv => whnf
  repeat (first | (refine br.yes ?_; conv => whnf) | (refine br.no ?_; conv => whnf))
  refine br_intro (fun h => ?_) (fun h => ?_)
  · conv => whnf
    repeat (first | (refine br.yes ?_; conv => whnf) | (refine br.no ?_; conv => whnf))
    simpa [h] using hK
  · conv => whnf
    repeat (first | (refine br.yes ?_; conv => whnf) | (refine br.no ?_; conv => whnf))
    simpa [h] using hK
def maskV (N : Nat) (g : Nat → Nat → Bool) (k : Nat) : Nat × Nat := if g (k / N) (k % N) = true then (1065353216, 0) else (0, 0)
theorem maskV_at {N : Nat} {g : Nat → Nat → Bool} {y x : Nat} (h : x < N) : maskV N g (N * y + x) = if g y x = true then (1065353216, 0) else (0, 0) := by
  unfold maskV
  rw [Nat.mul_add_div (by omega), Nat.mul_add_mod, Nat.mod_eq_of_lt h, Nat.div_eq_of_lt h, Nat.add_zero]
theorem get_in (m ext : MS) (a b : Ent) : getE ((m ++ [a, b]) ++ ext) m.length = some a := getE_left (get_fst m a b)
set_option maxRecDepth 20000 in
theorem c_maskBy {N f : Nat} {caps : List AV} {g : Nat → Nat → Bool} (hN : 0 < N ∧ N ≤ 8) (hf : fnHas Try.prog f = true)
    (hc : ∀ (ext : MS) (y x : Nat) (K : AV → MS → Prop), y < N → x < N → K (AV.bool (g y x)) (m ++ ext) → CallLeaf Try.prog w0 f (AV.int y :: AV.int x :: caps) (m ++ ext) K)
    (hK : K (.st [AV.int N, .ac 64 (tabTo (maskV N g) (N * N))]) m) : CallLeaf Try.prog w0 84 [AV.int N, .fn f caps] m K := by
  refine call_keep ?_
  refine fn_go hmix h84 ?_
  conv => whnf
  repeat (first | (refine br.yes ?_; conv => whnf) | (refine br.no ?_; conv => whnf))
  rw [newK_eq]
  conv => whnf
  repeat (first | (refine br.yes ?_; conv => whnf) | (refine br.no ?_; conv => whnf))
  rw [new_one]
  conv => whnf
  repeat (first | (refine br.yes ?_; conv => whnf) | (refine br.no ?_; conv => whnf))
  refine c_waveBy hN (by kernel_rfl) (val := maskV N g) (fun ext k K hk hK => ?_) ?_
  · refine c_maskBy1 (get_in _ _ _ _) hf (b := g (k / N) (k % N)) (fun K' hK' => ?_) ?_
    · rw [List.append_assoc] at hK' ⊢
      exact hc _ _ _ _ (Nat.div_lt_of_lt_mul hk) (Nat.mod_lt _ hN.1) hK'
    · unfold maskV at hK
      cases hb : g (k / N) (k % N) with
      | true => simpa [hb] using hK
      | false => simpa [hb] using hK
  conv => whnf
  repeat (first | (refine br.yes ?_; conv => whnf) | (refine br.no ?_; conv => whnf))
  rw [get_snd]
  conv => whnf
  repeat (first | (refine br.yes ?_; conv => whnf) | (refine br.no ?_; conv => whnf))
  rw [set_snd]
  conv => whnf
  repeat (first | (refine br.yes ?_; conv => whnf) | (refine br.no ?_; conv => whnf))
  rw [get_snd]
  conv => whnf
  repeat (first | (refine br.yes ?_; conv => whnf) | (refine br.no ?_; conv => whnf))
  exact ⟨take_back _ _, rfl, hK⟩
/-- what a mask's maker answers -/
def maskR (ok : Bool) (n : Int) (g : Nat → Nat → Bool) : Int × List (Nat × Nat) × Int := if ok = true then (n, tabTo (maskV n.toNat g) (n.toNat * n.toNat), 0) else (0, List.replicate 64 (0, 0), 2)
theorem maskR_no {ok : Bool} {n : Int} {g : Nat → Nat → Bool} (h : ok = false) : maskR ok n g = (0, List.replicate 64 (0, 0), 2) := by simp [maskR, h]
theorem maskR_ok {ok : Bool} {N : Nat} {g : Nat → Nat → Bool} (h : ok = true) : maskR ok N g = ((N : Int), tabTo (maskV N g) (N * N), 0) := by simp [maskR, h]
theorem maskR_length {ok : Bool} {n : Int} {g : Nat → Nat → Bool} : (maskR ok n g).2.1.length = 64 := by
  unfold maskR
  cases ok with
  | true => exact tabTo_length _ _
  | false => simp
/-- a wave and a code -/
def wc (R : Int × List (Nat × Nat) × Int) : AV := .tup [.st [AV.int R.1, .ac 64 R.2.1], AV.int R.2.2]
def plusR (R : Int × List (Nat × Nat) × Int) : Int × List (Nat × Nat) × Int := (R.1, R.2.1.map plusC, R.2.2)
theorem tabTo_skips {val : Nat → Nat × Nat} {a b : Nat} (hab : a ≤ b) (h : ∀ k, a ≤ k → k < b → val k = (0, 0)) : tabTo val b = tabTo val a := by
  induction b with
  | zero => have : a = 0 := by omega
            subst this; rfl
  | succ b ih =>
    by_cases hb : a = b + 1
    · subst hb; rfl
    · rw [tabTo_skip (h b (by omega) (by omega))]
      exact ih (by omega) (fun k h1 h2 => h k h1 (by omega))
theorem dims {N y x : Nat} (hy : y < N) (hx : x < N) (hN : N ≤ 8) : N * y + x < 64 ∧ N * y ≤ 64 ∧ N * y + N ≤ 64 := by
  have h1 : N * (y + 1) ≤ 8 * 8 := Nat.mul_le_mul hN (by omega)
  rw [Nat.mul_add] at h1
  omega
end
end Go.Proofs.Ytfoflddjcijaeaa
