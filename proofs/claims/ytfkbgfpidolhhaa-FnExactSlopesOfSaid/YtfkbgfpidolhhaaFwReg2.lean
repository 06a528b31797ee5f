import Derived.Test.YtfkbgfpidolhhaaFwReg
namespace Go.Fw
open Go
section
variable {P : Program} {w0 : World} {ow : List Nat} {Q : Exit → Act → World → Prop}
variable {L : Locs} {m : MS}

theorem evD_congr {ts ts' : TS} {x : DOpd} (h : ∀ r ∈ rdO x, getL ts r = getL ts' r) : evD ts x = evD ts' x := by
  cases x with
  | t n => exact h n (by simp [rdO])
  | c a => rfl
theorem evDs_congr {ts ts' : TS} : ∀ {xs : List DOpd}, (∀ r ∈ rdOs xs, getL ts r = getL ts' r) → xs.map (evD ts) = xs.map (evD ts')
  | [], _ => rfl
  | x :: xs, h => by
    rw [List.map_cons, List.map_cons, evD_congr (fun r hr => h r (by simp [rdOs, hr])), evDs_congr (fun r hr => h r (by simp [rdOs, hr]))]
theorem fillK_congr {ts ts' : TS} {K : List AV → Prop} : ∀ (ps : List (Nat × Nat × Nat × DOpd)) (zs : List AV), (∀ r ∈ rdOs (ps.map fun p => p.2.2.2), getL ts r = getL ts' r) → fillK ts zs ps K = fillK ts' zs ps K
  | [], zs, _ => rfl
  | (i, off, sz, x) :: ps, zs, h => by
    simp only [fillK, evK_eq, setK_eq]
    rw [evD_congr (ts' := ts') (x := x) (fun r hr => h r (by simp [rdOs, hr]))]
    have := fun zs => fillK_congr (K := K) ps zs (fun r hr => h r (by simp [rdOs, hr]))
    simp only [this]
theorem aop_congr {ts ts' : TS} {op : DOp} {K : AV → MS → Prop} (hc : ∀ r ∈ readsOf op, getL ts r = getL ts' r) : aop P w0 op ts m K = aop P w0 op ts' m K := by
  cases op with
  | mv x | un _ x | cvI _ x | cvF _ x | cvC _ x | load _ _ x | box x | fad x _ _ | len x | re x | im x | ext x _ | mki _ x | tas x _ _ | tai x _ _ | nck x | snl x | six _ x =>
    simp only [aop, evK_eq]
    rw [evD_congr (ts' := ts') (x := x) (fun r hr => hc r (by simp [readsOf, hr]))]
  | pick c x y =>
    simp only [aop, evK_eq]
    rw [evD_congr (ts' := ts') (x := c) (fun r hr => hc r (by simp [readsOf, hr])), evD_congr (ts' := ts') (x := x) (fun r hr => hc r (by simp [readsOf, hr])), evD_congr (ts' := ts') (x := y) (fun r hr => hc r (by simp [readsOf, hr]))]
  | bin _ _ x y | store _ x y | iad _ _ x y | ias _ x y | idx _ x y | mks _ x y | mkc x y | mxx x y | mnn x y =>
    simp only [aop, evK_eq]
    rw [evD_congr (ts' := ts') (x := x) (fun r hr => hc r (by simp [readsOf, hr])), evD_congr (ts' := ts') (x := y) (fun r hr => hc r (by simp [readsOf, hr]))]
  | alloc _ | bad | app _ _ _ => rfl
  | flo xs =>
    match xs with
    | [] => rfl
    | [x] => simp only [aop, evK_eq]; rw [evD_congr (ts' := ts') (x := x) (fun r hr => hc r (by simp [readsOf, rdOs, hr]))]
    | _ :: _ :: _ => rfl
  | build zs ps =>
    simp only [aop]
    exact fillK_congr ps zs hc
  | bsl e n ps =>
    simp only [aop, evLK_eq]
    rw [evDs_congr (ts' := ts') (xs := ps.map (·.2)) (fun r hr => hc r (by simpa [readsOf] using hr))]
  | slc sz x lo hi mx | sla _ sz x lo hi mx =>
    have e := evD_congr (ts := ts) (ts' := ts') (x := x) (fun r hr => hc r (by simp [readsOf, hr]))
    have hlo : ∀ y, lo = some y → evD ts y = evD ts' y := fun y hy => evD_congr (fun r hr => hc r (by subst hy; simp [readsOf, rdOo, hr]))
    have hhi : ∀ y, hi = some y → evD ts y = evD ts' y := fun y hy => evD_congr (fun r hr => hc r (by subst hy; simp [readsOf, rdOo, hr]))
    have hmx : ∀ y, mx = some y → evD ts y = evD ts' y := fun y hy => evD_congr (fun r hr => hc r (by subst hy; simp [readsOf, rdOo, hr]))
    simp only [aop, evK_eq, e]
    generalize evD ts' x = vx
    cases vx <;> cases lo <;> cases hi <;> cases mx <;> first
      | rfl
      | (simp only [hlo _ rfl]; done)
      | (simp only [hhi _ rfl]; done)
      | (simp only [hhi _ rfl, hmx _ rfl]; done)
  | call f xs | mkf f xs =>
    simp only [aop, evLK_eq]
    rw [evDs_congr (ts' := ts') (xs := xs) (fun r hr => hc r (by simp [readsOf, hr]))]
  | callv x xs | inv x _ xs =>
    simp only [aop, evLK_eq, evK_eq]
    rw [evD_congr (ts' := ts') (x := x) (fun r hr => hc r (by simp [readsOf, hr])), evDs_congr (ts' := ts') (xs := xs) (fun r hr => hc r (by simp [readsOf, hr]))]

/-! guards -/
def gRun (ts : TS) (d : DOper) : Option Bool :=
  match d.guard with
  | none => some true
  | some (g, want) => match getL ts g with
    | .raw (.bool b) => some (b == want)
    | .tup [] => some false
    | _ => none
theorem set_getL : ∀ (ts : TS) (g : Nat), ts.set g (getL ts g) = ts
  | [], _ => rfl
  | _ :: _, 0 => rfl
  | x :: xs, g + 1 => by simp only [List.set_cons_succ, getL, set_getL xs g]
theorem aops_cons {nb : Nat} {d : DOper} {rest : List DOper} {ts : TS} {K : TS → MS → Prop} (h : aops P w0 nb (d :: rest) ts m K) :
    (gRun ts d = some true ∧ aopX P w0 nb d.op ts m fun v ts m => aops P w0 nb rest (putT ts d.dst v) m K) ∨ (gRun ts d = some false ∧ aops P w0 nb rest (putT ts d.dst undefA) m K) := by
  obtain ⟨dst, g, op⟩ := d
  cases g with
  | none => simp only [aops, putK_eq] at h; exact .inl ⟨rfl, h⟩
  | some gw =>
    obtain ⟨g, want⟩ := gw
    simp only [aops, getK_eq, putK_eq, setK_eq] at h
    split at h
    · rename_i b e
      cases b <;> cases want <;> first | replace h := br_f h | replace h := br_t h
      · rw [← e, set_getL] at h; exact .inl ⟨by simp [gRun, e], h⟩
      · rw [← e, set_getL] at h; exact .inr ⟨by simp [gRun, e], h⟩
      · rw [← e, set_getL] at h; exact .inr ⟨by simp [gRun, e], h⟩
      · rw [← e, set_getL] at h; exact .inl ⟨by simp [gRun, e], h⟩
    · rename_i e; exact .inr ⟨by simp [gRun, e], h⟩
    · exact h.elim
def StepQ (P : Program) (w0 : World) (m : MS) (d : DOper) (ts : TS) (v : AV) : Prop :=
  (gRun ts d = some true ∧ ∀ K : AV → MS → Prop, K v m → aop P w0 d.op ts m K) ∨ (gRun ts d = some false ∧ v = undefA)
theorem qops_cons {d : DOper} {rest : List DOper} {ts : TS} {K : TS → Prop} (hq : quiet d.op = true) (h : qops P w0 (d :: rest) ts m K) :
    ∃ v, StepQ P w0 m d ts v ∧ qops P w0 rest (putT ts d.dst v) m K := by
  obtain ⟨dst, g, op⟩ := d
  cases g with
  | none =>
    simp only [qops, putK_eq] at h
    obtain ⟨v, h1, h2⟩ := qop_fix hq h
    exact ⟨v, .inl ⟨rfl, h1⟩, h2⟩
  | some gw =>
    obtain ⟨g, want⟩ := gw
    simp only [qops, getK_eq, putK_eq, setK_eq] at h
    split at h
    · rename_i b e
      cases b <;> cases want <;> first | replace h := br_f h | replace h := br_t h
      · rw [← e, set_getL] at h
        obtain ⟨v, h1, h2⟩ := qop_fix hq h
        exact ⟨v, .inl ⟨by simp [gRun, e], h1⟩, h2⟩
      · rw [← e, set_getL] at h; exact ⟨_, .inr ⟨by simp [gRun, e], rfl⟩, h⟩
      · rw [← e, set_getL] at h; exact ⟨_, .inr ⟨by simp [gRun, e], rfl⟩, h⟩
      · rw [← e, set_getL] at h
        obtain ⟨v, h1, h2⟩ := qop_fix hq h
        exact ⟨v, .inl ⟨by simp [gRun, e], h1⟩, h2⟩
    · rename_i e; exact ⟨_, .inr ⟨by simp [gRun, e], rfl⟩, h⟩
    · exact h.elim
theorem StepQ.congr {d : DOper} {ts ts' : TS} {v : AV} (hc : ∀ r ∈ readsD d, getL ts r = getL ts' r) (h : StepQ P w0 m d ts v) : StepQ P w0 m d ts' v := by
  have hg : gRun ts' d = gRun ts d := by
    unfold gRun
    cases hgd : d.guard with
    | none => rfl
    | some gw => obtain ⟨g, want⟩ := gw; simp only; rw [hc g (by simp [readsD, hgd])]
  have hop : ∀ r ∈ readsOf d.op, getL ts r = getL ts' r := fun r hr => hc r (by unfold readsD; split <;> simp [hr])
  rcases h with ⟨h1, h2⟩ | ⟨h1, h2⟩
  · exact .inl ⟨by rw [hg]; exact h1, fun K hK => by rw [← aop_congr hop]; exact h2 K hK⟩
  · exact .inr ⟨by rw [hg]; exact h1, h2⟩

/-! an operation with its guard -/
theorem decOper_parts {ops : Array Oper} {o : Oper} {d : DOper} (h : decOper P ops o = some d) : d.dst = o.dst ∧ d.op = (decOp P o).getD .bad ∧
    ((o.guard = none ∧ d.guard = none) ∨ ∃ j b t, o.guard = some (j, b) ∧ (ops[j]?).bind (·.dst) = some t ∧ d.guard = some (t, b)) := by
  unfold decOper at h
  split at h
  · rename_i hg; cases h; exact ⟨rfl, rfl, .inl ⟨hg, rfl⟩⟩
  · rename_i j b hg
    split at h
    · rename_i t ht; cases h; exact ⟨rfl, rfl, .inr ⟨j, b, t, hg, ht, rfl⟩⟩
    · cases h
theorem wanted_sound {ops : Array Oper} {o : Oper} {d : DOper} {ts : TS} {a : Act} {r : Bool} (h : decOper P ops o = some d) (hr : RelT L ts a) (hg : gRun ts d = some r) : Region.wanted o (yielded ops a.tmps) = r := by
  obtain ⟨_, _, hh⟩ := decOper_parts h
  rcases hh with ⟨h1, h2⟩ | ⟨j, b, t, h1, h2, h3⟩
  · simp only [gRun, h2, Option.some.injEq] at hg
    subst hg
    simp [Region.wanted, h1]
  · simp only [gRun, h3] at hg
    have hv := hr.2 t
    simp only [Region.wanted, h1, yielded, h2, Option.bind_some]
    split at hg
    · rename_i bb e
      cases hg
      rw [e] at hv
      have hv' := Rs_raw hv
      have : a.tmps[t]? = some (.bool bb) := by
        rw [Array.getD_eq_getD_getElem?] at hv'
        cases hx : a.tmps[t]? with
        | none => rw [hx] at hv'; simp [undef] at hv'
        | some x => rw [hx] at hv'; simp at hv'; rw [hv']
      rw [this]
      simp
    · rename_i e
      cases hg
      rw [e] at hv
      obtain ⟨ws, hw, hw2⟩ : ∃ ws : List Value, a.tmps.getD t undef = .tuple ws.toArray ∧ RnL L [] ws := hv
      rw [Array.getD_eq_getD_getElem?] at hw
      cases hx : a.tmps[t]? with
      | none => simp
      | some x => rw [hx] at hw; simp at hw; subst hw; simp
    · cases hg
theorem bad_false {ts : TS} {K : AV → MS → Prop} {o : Oper} (h : aop P w0 ((decOp P o).getD .bad) ts m K) : ∃ d, decOp P o = some d ∧ aop P w0 d ts m K := by
  cases hd : decOp P o with
  | none => rw [hd] at h; exact h.elim
  | some d => rw [hd] at h; exact ⟨d, rfl, h⟩
theorem bad_falseX {nb : Nat} {ts : TS} {K : AV → TS → MS → Prop} {o : Oper} (h : aopX P w0 nb ((decOp P o).getD .bad) ts m K) : ∃ d, decOp P o = some d ∧ aopX P w0 nb d ts m K := by
  cases hd : decOp P o with
  | none => rw [hd] at h; exact h.elim
  | some d => rw [hd] at h; exact ⟨d, rfl, h⟩
theorem Ext_eq {L L' : Locs} (h : Ext L L') (hl : L.length = L'.length) : L' = L := by
  apply List.ext_getElem?
  intro i
  rcases Nat.lt_or_ge i L.length with h1 | h1
  · rw [List.getElem?_eq_getElem h1]; exact h i _ (List.getElem?_eq_getElem h1)
  · rw [List.getElem?_eq_none h1, List.getElem?_eq_none (by omega)]
theorem step_sound {ops : Array Oper} {i : Nat} {o : Oper} {d : DOper} {ts : TS} {a : Act} {w : World} {v : AV} {K : Act → World → Prop} (ho : ops[i]? = some o) (h : decOper P ops o = some d) (hr : RelT L ts a) (hR : Rep w0 ow L m w)
    (hs : StepQ P w0 m d ts v) (hK : ∀ cv w', Rv L v cv → Rep w0 ow L m w' → K (a.put o.dst cv) w') : wpOp P ops Q i K a w := by
  obtain ⟨h1, h2, _⟩ := decOper_parts h
  unfold wpOp
  simp only [ho]
  rcases hs with ⟨hg, hs⟩ | ⟨hg, rfl⟩
  · rw [wanted_sound h hr hg, if_pos rfl]
    have hs := hs (fun v' m' => v' = v ∧ m' = m) ⟨rfl, rfl⟩
    rw [h2] at hs
    obtain ⟨dd, hd1, hd2⟩ := bad_false hs
    refine .inl (Oper.wp_mono ?_ (aop_sound (Q := Q) hR hr hd1 hd2))
    rintro a' w' ⟨cv, av, m', L', rfl, hx, hv, hR', rfl, rfl⟩
    have := Ext_eq hx (by rw [hR.len, hR'.len])
    subst this
    exact hK cv w' hv hR'
  · rw [wanted_sound h hr hg, if_neg (by simp)]
    exact hK undef w (Rv_undef L) hR

/-! operations in the order of the text -/
def Good (w0 : World) (ow : List Nat) (L0 : Locs) (K : TS → MS → Prop) (a : Act) (w : World) : Prop :=
  a.defers = [] ∧ ∃ L ts m, Ext L0 L ∧ RelT L ts a ∧ Rep w0 ow L m w ∧ K ts m
theorem put_defers (a : Act) (d : Option Nat) (v : Value) : (a.put d v).defers = a.defers := by cases d <;> rfl
theorem aops_list {ops : Array Oper} {L0 : Locs} {K : TS → MS → Prop} (hQ : ∀ a w, Good w0 ow L0 K a w → Q .normal a w) : ∀ (lo : List Oper) (ld : List DOper) (L : Locs) (ts : TS) (m : MS) (a : Act) (w : World),
    allSome (decOper P ops) lo = some ld → Ext L0 L → a.defers = [] → RelT L ts a → Rep w0 ow L m w → aops P w0 L0.length ld ts m K → wpList P ops Q lo a w
  | [], ld, L, ts, m, a, w, hd, hx, hdf, hr, hR, h => by
    simp only [allSome, Option.some.injEq] at hd; subst hd
    exact hQ _ _ ⟨hdf, L, ts, m, hx, hr, hR, h⟩
  | o :: lo, ld, L, ts, m, a, w, hd, hx, hdf, hr, hR, h => by
    simp only [allSome] at hd
    split at hd
    · rename_i d ds hd1 hd2
      cases hd
      obtain ⟨h1, h2, _⟩ := decOper_parts hd1
      simp only [wpList]
      rcases aops_cons h with ⟨hg, h⟩ | ⟨hg, h⟩
      · rw [wanted_sound hd1 hr hg, if_pos rfl]
        rw [h2] at h
        obtain ⟨dd, hdd1, hdd2⟩ := bad_falseX h
        refine .inl (Oper.wp_mono ?_ (aopX_sound (Q := Q) hR hr hx hdd1 hdd2))
        rintro a' w' ⟨cv, av, ts', m', L', rfl, hx', hv, hr', hR', hk⟩
        rw [h1] at hk
        exact aops_list hQ lo ds L' _ m' _ w' hd2 hx' (by rw [put_defers]; exact hdf) (hr'.put _ hv) hR' hk
      · rw [wanted_sound hd1 hr hg, if_neg (by simp)]
        rw [h1] at h
        exact aops_list hQ lo ds L _ m _ w hd2 hx (by rw [put_defers]; exact hdf) (hr.put _ (Rv_undef L)) hR h
    · cases hd
theorem region_text {ops : Array Oper} {L0 L : Locs} {ts : TS} {a : Act} {w : World} {K : TS → MS → Prop} {id : Nat} {ld : List DOper} (hd : allSome (decOper P ops) ops.toList = some ld) (hx : Ext L0 L) (hdf : a.defers = []) (hr : RelT L ts a) (hR : Rep w0 ow L m w)
    (h : aops P w0 L0.length ld ts m K) (hQ : ∀ a w, Good w0 ow L0 K a w → Q .normal a w) : (Code.region id ops false).wp P Q a w := by
  refine wp_region ?_
  have := wpOps_eq_wpList (P := P) (ops := ops) (Q := Q) ops.toList 0 (by simp)
  rw [List.range_eq_range', show ops.size = ops.toList.length by simp, this]
  exact aops_list hQ _ ld L ts m a w hd hx hdf hr hR h
end
end Go.Fw
