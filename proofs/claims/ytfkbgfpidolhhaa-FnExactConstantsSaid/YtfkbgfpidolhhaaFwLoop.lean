import Derived.Test.YtfkbgfpidolhhaaFwRow
namespace Go.Fw
open Go
/-! what the operations on symbols answer -/
theorem cmI_eql (x y : Int) : cmI .eql x y = decide (x = y) := by unfold cmI; simp [BEq.beq]
theorem cmI_neq (x y : Int) : cmI .neq x y = decide (x ≠ y) := by unfold cmI; by_cases h : x = y <;> simp [h]
theorem cmI_lss (x y : Int) : cmI .lss x y = decide (x < y) := by unfold cmI; rfl
theorem cmI_leq (x y : Int) : cmI .leq x y = decide (x ≤ y) := by unfold cmI; rfl
theorem cmI_gtr (x y : Int) : cmI .gtr x y = decide (x > y) := by unfold cmI; rfl
theorem cmI_geq (x y : Int) : cmI .geq x y = decide (x ≥ y) := by unfold cmI; rfl
theorem arI_add (x y : Int) : arI .add .i64 x y = IntKind.i64.wrap (x + y) := by unfold arI; rfl
theorem arI_sub (x y : Int) : arI .sub .i64 x y = IntKind.i64.wrap (x - y) := by unfold arI; rfl
theorem arI_mul (x y : Int) : arI .mul .i64 x y = IntKind.i64.wrap (x * y) := by unfold arI; rfl
theorem arI_quo (x y : Int) : arI .quo .i64 x y = IntKind.i64.wrap (x.tdiv y) := by unfold arI; rfl
theorem arI_rem (x y : Int) : arI .rem .i64 x y = x.tmod y := by unfold arI; rfl
theorem notB_eq (b : Bool) : notB b = !b := by unfold notB; rfl
theorem andB_eq (a b : Bool) : andB a b = (a && b) := by unfold andB; rfl
theorem eqB_eq (a b : Bool) : eqB a b = (a == b) := by unfold eqB; rfl
theorem addN_eq (x y : Nat) : addN x y = x + y := by unfold addN; rfl
theorem subN_eq (x y : Nat) : subN x y = x - y := by unfold subN; rfl
theorem mulN_eq (x y : Nat) : mulN x y = x * y := by unfold mulN; rfl
theorem toN_eq (x : Int) : toN x = x.toNat := by unfold toN; rfl
theorem nth_eq {α : Type} (xs : List α) (i : Nat) (d : α) : nth xs i d = xs.getD i d := by unfold nth; rfl
theorem upd_eq {α : Type} (xs : List α) (i : Nat) (v : α) : upd xs i v = xs.set i v := by unfold upd; rfl
theorem wrap_fits {x : Int} (h1 : -9223372036854775808 ≤ x) (h2 : x ≤ 9223372036854775807) : IntKind.i64.wrap x = x := by
  simp [IntKind.wrap, IntKind.signed, IntKind.bits]
  omega
theorem br_true {b : Bool} {p q : Prop} (h : b = true) (hp : p) : br b p q := by subst h; exact hp
theorem br_false {b : Bool} {p q : Prop} (h : b = false) (hq : q) : br b p q := by subst h; exact hq
end Go.Fw
