/- A walk in pieces: the code that is still to come stays closed, so that the kernel need not look into it. -/
import Derived.Test.YtfkbgfpidolhhaaFwNum3
namespace Go.Fw
open Go
structure AW (P : Program) (w0 : World) (nb : Nat) (c : DCode) (ts : TS) (m : MS) (K : DExit → TS → MS → Prop) : Prop where
  out : awp P w0 nb c ts m K
theorem aw_eq {P : Program} {w0 : World} {nb : Nat} {c : DCode} {ts : TS} {m : MS} {K : DExit → TS → MS → Prop} : AW P w0 nb c ts m K = awp P w0 nb c ts m K := propext ⟨fun h => h.out, fun h => ⟨h⟩⟩
theorem AW.cut {P : Program} {w0 : World} {nb : Nat} {a b : DCode} {ts : TS} {m : MS} {K : DExit → TS → MS → Prop}
    (h : awp P w0 nb a ts m fun e ts m => match e with
      | .normal => AW P w0 nb b ts m K
      | .ret => K .ret ts m
      | .exit i => K (.exit i) ts m) : AW P w0 nb (.seq a b) ts m K := by
  simp only [aw_eq] at h
  exact ⟨h⟩
theorem AW.cond {P : Program} {w0 : World} {nb : Nat} {c : DOpd} {t e : DCode} {ts : TS} {m : MS} {K : DExit → TS → MS → Prop}
    (h : evK ts c fun c => match c with
      | .raw (.bool b) => br b (AW P w0 nb t ts m K) (AW P w0 nb e ts m K)
      | _ => False) : AW P w0 nb (.cond c t e) ts m K := by
  simp only [aw_eq] at h
  exact ⟨h⟩
theorem fn_cut {P : Program} {w0 : World} {f : Nat} {D : DFn} {args : List AV} {m : MS} {K : AV → MS → Prop} (hm : P.follows .mixedOrders = true) (hD : decFn P f = some D)
    (h : padK D.ntmps args fun ts => AW P w0 m.length D.code ts m fun e ts m => match e with
      | .exit _ => False
      | _ => resK ts m D.res fun l => match l with
        | [v] => K v m
        | l => K (.tup l) m) : CallLeaf P w0 f args m K := by
  refine fn_go hm hD ?_
  simp only [aw_eq] at h
  exact h
/-- A loop's rounds, walked in pieces. -/
theorem loop_cut {P : Program} {w0 : World} {nb : Nat} {b : DCode} {ts : TS} {m : MS} {K : DExit → TS → MS → Prop} (h : LoopLeaf nb (fun ts m K => AW P w0 nb b ts m K) ts m K) : LoopLeaf nb (fun ts m K => awp P w0 nb b ts m K) ts m K := by
  simp only [aw_eq] at h
  exact h
end Go.Fw
