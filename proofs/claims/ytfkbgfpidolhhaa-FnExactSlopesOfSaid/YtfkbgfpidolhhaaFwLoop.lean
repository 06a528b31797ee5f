import Derived.Test.YtfkbgfpidolhhaaFwRow
namespace Go.Fw
open Go
/-! what the operations on symbols answer -/
theorem cmI_eql (x y : Int) : cmI .eql x y = decide (x = y) := by unfold cmI; simp [BEq.beq]
theorem cmI_neq (x y : Int) : cmI .neq x y = decide (x ≠ y) := by unfold cmI; by_cases h : x = y <;> simp [h]
theorem cmI_lss (x y : Int) : cmI .lss x y = decide (x < y) := by unfold cmI; rfl
theorem cmI_leq (x y : Int) : cmI .leq x y = decide (x ≤ y) := by unfold cmI; rfl
theorem cmI_gtr (x y : Int) : cmI .gtr x y = decide (x > y) := by unfold cmI; rfl
theorem cmI_geq (x y : Int) : cmI .geq x y = decide (x ≥ y) := by unfold cmI; rfl
theorem arI_add (x y : Int) : arI .add .i64 x y = IntKind.i64.wrap (x + y) := by unfold arI; rfl
theorem arI_sub (x y : Int) : arI .sub .i64 x y = IntKind.i64.wrap (x - y) := by unfold arI; rfl
theorem arI_mul (x y : Int) : arI .mul .i64 x y = IntKind.i64.wrap (x * y) := by unfold arI; rfl
theorem arI_quo (x y : Int) : arI .quo .i64 x y = IntKind.i64.wrap (x.tdiv y) := by unfold arI; rfl
theorem arI_rem (x y : Int) : arI .rem .i64 x y = x.tmod y := by unfold arI; rfl
theorem notB_eq (b : Bool) : notB b = !b := by unfold notB; rfl
theorem andB_eq (a b : Bool) : andB a b = (a && b) := by unfold andB; rfl
theorem eqB_eq (a b : Bool) : eqB a b = (a == b) := by unfold eqB; rfl
theorem addN_eq (x y : Nat) : addN x y = x + y := by unfold addN; rfl
theorem subN_eq (x y : Nat) : subN x y = x - y := by unfold subN; rfl
theorem mulN_eq (x y : Nat) : mulN x y = x * y := by unfold mulN; rfl
theorem toN_eq (x : Int) : toN x = x.toNat := by unfold toN; rfl
theorem nth_eq {α : Type} (xs : List α) (i : Nat) (d : α) : nth xs i d = xs.getD i d := by unfold nth; rfl
theorem upd_eq {α : Type} (xs : List α) (i : Nat) (v : α) : upd xs i v = xs.set i v := by unfold upd; rfl
theorem wrap_fits {x : Int} (h1 : -9223372036854775808 ≤ x) (h2 : x ≤ 9223372036854775807) : IntKind.i64.wrap x = x := by
  simp [IntKind.wrap, IntKind.signed, IntKind.bits]
  omega
theorem br_true {b : Bool} {p q : Prop} (h : b = true) (hp : p) : br b p q := by subst h; exact .yes hp
theorem br_false {b : Bool} {p q : Prop} (h : b = false) (hq : q) : br b p q := by subst h; exact .no hq
theorem weak_nil : Weak [] [] := trivial
theorem weak_same {x : AV} {xs ys : List AV} (h : Weak xs ys) : Weak (x :: xs) (x :: ys) := ⟨.inl rfl, h⟩
theorem weak_junk {x : AV} {xs ys : List AV} (h : Weak xs ys) : Weak (x :: xs) (.junk :: ys) := ⟨.inr rfl, h⟩
theorem trim_no {nb : Nat} {ts : TS} {m : MS} : Trim nb ts m m := .inl rfl
/-- A loop of at most so many rounds, by what holds ahead of each. -/
theorem loop_inv {nb : Nat} {body : TS → MS → (DExit → TS → MS → Prop) → Prop} {ts : TS} {m : MS} {K : DExit → TS → MS → Prop} (N : Nat) (I : Nat → TS → MS → Prop) (ts0 : TS) (m0 : MS) (hw : Weak ts ts0) (ht : Trim nb ts0 m m0) (h0 : I 0 ts0 m0)
    (hs : ∀ i, i ≤ N → ∀ ts m, I i ts m → ∀ R : TS → MS → Prop, (i < N → ∀ ts m ts' m', Weak ts ts' → Trim nb ts' m m' → I (i + 1) ts' m' → R ts m) →
      body ts m fun e ts m => match e with
        | .normal => R ts m
        | .ret => K .ret ts m
        | .exit j => K (.exit j) ts m) : LoopLeaf nb body ts m K := by
  refine ⟨N + 1, ?_⟩
  have key : ∀ d i ts m ts' m', i + d = N → Weak ts ts' → Trim nb ts' m m' → I i ts' m' → rounds nb body K (d + 1) ts m := by
    intro d
    induction d with
    | zero =>
      intro i ts m ts' m' hi hw ht h
      refine ⟨ts', m', hw, ht, ?_⟩
      exact hs i (by omega) ts' m' h (rounds nb body K 0) (fun hlt => by omega)
    | succ d ih =>
      intro i ts m ts' m' hi hw ht h
      refine ⟨ts', m', hw, ht, ?_⟩
      exact hs i (by omega) ts' m' h (rounds nb body K (d + 1)) (fun hlt ts m ts' m' hw ht h => ih (i + 1) ts m ts' m' (by omega) hw ht h)
  exact key N 0 ts m ts0 m0 (by omega) hw ht h0
theorem nth_at {α : Type} (xs : List α) (k : Nat) (d : α) : nth xs (addN 0 (toN (k : Int))) d = xs.getD k d := by rw [nth_eq, addN_eq, toN_eq]; simp
theorem at_lt {k n : Nat} (h : k < n) : addN 0 (toN (k : Int)) < n := by rw [addN_eq, toN_eq]; simpa using h
theorem add_one {k : Nat} (h : k ≤ 4611686018427387904) : arI .add .i64 (k : Int) 1 = ((k + 1 : Nat) : Int) := by
  rw [arI_add, wrap_fits (by omega) (by omega)]; rfl
/-! blocks added behind some that are not looked into -/
theorem getE_left {m l : MS} {i : Nat} {e : Ent} (h : getE m i = some e) : getE (m ++ l) i = some e := by
  rw [getE_eq] at h ⊢
  rw [List.getElem?_append_left (getElem?_lt h)]; exact h
theorem getE_last {m : MS} {e : Ent} : getE (m ++ [e]) m.length = some e := by rw [getE_eq]; simp
theorem setEK_last {m : MS} {e e' : Ent} {k : MS → Prop} : setEK (m ++ [e]) m.length e' k = k (m ++ [e']) := by rw [setEK_eq]; simp
theorem toN_nat (n : Nat) : toN (n : Int) = n := by rw [toN_eq]; simp
theorem mulN_one (n : Nat) : mulN n 1 = n := by rw [mulN_eq]; omega
theorem mulN_i (n : Nat) : mulN n (eszE .i) = n := mulN_one n
theorem mulN_f (n : Nat) : mulN n (eszE .f) = n := mulN_one n
theorem mulN_p (n : Nat) : mulN n (eszE .p) = n * 2 := by rw [mulN_eq]; rfl
theorem lt_of_lss {k n : Nat} (h : cmI .lss (k : Int) (n : Int) = true) : k < n := by rw [cmI_lss] at h; simpa using h
theorem ge_of_lss {k n : Nat} (h : cmI .lss (k : Int) (n : Int) = false) : n ≤ k := by rw [cmI_lss] at h; simpa using h
theorem ext_getD {α : Type} {xs ys : List α} {d : α} (hl : xs.length = ys.length) (h : ∀ p, p < xs.length → xs.getD p d = ys.getD p d) : xs = ys := by
  apply List.ext_getElem hl
  intro p h1 h2
  have := h p h1
  simpa [h1, h2] using this
theorem upd_at {α : Type} (xs : List α) (k : Nat) (v : α) : upd xs (addN 0 (toN (k : Int))) v = xs.set k v := by rw [upd_eq, addN_eq, toN_eq]; simp
theorem getD_set_self {α : Type} {xs : List α} {k : Nat} {v d : α} (h : k < xs.length) : (xs.set k v).getD k d = v := by simp [h]
theorem getD_set_other {α : Type} {xs : List α} {k j : Nat} {v d : α} (h : k ≠ j) : (xs.set k v).getD j d = xs.getD j d := by simp [List.getElem?_set_ne h]
end Go.Fw
