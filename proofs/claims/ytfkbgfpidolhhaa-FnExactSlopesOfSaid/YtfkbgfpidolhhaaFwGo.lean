import Derived.Test.YtfkbgfpidolhhaaFwFn
namespace Go.Fw
open Go
def padK : Nat → List AV → (List AV → Prop) → Prop
  | 0, [], k => k []
  | 0, _ :: _, _ => False
  | n + 1, [], k => padK n [] fun l => k (undefA :: l)
  | n + 1, x :: xs, k => padK n xs fun l => k (x :: l)
theorem padK_eq : ∀ (n : Nat) (args : List AV) (k : List AV → Prop), padK n args k → k (args ++ List.replicate (n - args.length) undefA)
  | 0, [], k, h => h
  | 0, _ :: _, _, h => h.elim
  | n + 1, [], k, h => by
    have := padK_eq n [] _ h
    simpa [List.replicate_succ] using this
  | n + 1, x :: xs, k, h => by
    have := padK_eq n xs _ h
    simpa using this
def fnB (P : Program) (w0 : World) (D : DFn) (args : List AV) (m : MS) (K : AV → MS → Prop) : Prop := padK D.ntmps args fun ts => fnA P w0 D ts m K
theorem fn_go {P : Program} {w0 : World} {f : Nat} {D : DFn} {args : List AV} {m : MS} {K : AV → MS → Prop} (hm : P.follows .mixedOrders = true) (hD : decFn P f = some D) (h : fnB P w0 D args m K) : CallLeaf P w0 f args m K :=
  fn_sound hm hD (padK_eq _ _ _ h)
end Go.Fw
