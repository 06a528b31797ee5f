import Derived.Test.YtfkbgfpidolhhaaFwCode
namespace Go.Fw
open Go
inductive DRes where
  | tmp (t : Nat)
  | cell (t : Nat) (ag : Bool) (n : Nat)
structure DFn where
  code : DCode
  res : List DRes
  ntmps : Nat
def resK (ts : TS) (m : MS) : List DRes → (List AV → Prop) → Prop
  | [], k => k []
  | .tmp t :: r, k => getK ts t fun v => match notTup v with
    | true => resK ts m r fun l => k (v :: l)
    | false => False
  | .cell t ag n :: r, k => getK ts t fun p => match p with
    | .ptr id path => match getE m id with
      | some e => rdK e.c path fun v => if agA v = ag then (if szA v = n then (resK ts m r fun l => k (v :: l)) else False) else False
      | none => False
    | _ => False
def fnA (P : Program) (w0 : World) (D : DFn) (ts : TS) (m : MS) (K : AV → MS → Prop) : Prop :=
  awp P w0 m.length D.code ts m fun e ts m => match e with
    | .exit _ => False
    | _ => resK ts m D.res fun l => match l with
      | [v] => K v m
      | l => K (.tup l) m
def decRes (P : Program) : ResultVar → Option DRes
  | .tmp t => some (.tmp t)
  | .cell t ty => match dsz P ty with
    | some (g, n) => some (.cell t g n)
    | none => none
def decFn (P : Program) (f : Nat) : Option DFn :=
  match P.funcs[f]? with
  | some fn => match fn.body with
    | some c => match decCode P c, allSome (decRes P) fn.results.toList with
      | some d, some rs => some ⟨d, rs, fn.ntmps⟩
      | _, _ => none
    | none => none
  | none => none
section
variable {P : Program} {w0 : World} {ow : List Nat}
def rvF (tmps : Array Value) : ResultVar → Sem Value
  | .tmp t => pure (tmps.getD t undef)
  | .cell a t => do loadVar t (← asAddr (tmps.getD a undef))
theorem run_rvF_cell {tmps : Array Value} {a t : Nat} {w : World} {ad : Addr} {v : Value} (h : tmps.getD a undef = .pointer (some ad)) (hv : (loadVar t ad).run P w = .ok v w) : (rvF tmps (.cell a t)).run P w = .ok v w := by
  have ha : (asAddr (tmps.getD a undef)).run P w = .ok ad w := by rw [h]; rfl
  unfold rvF
  rw [Sem.run_bind, ha]
  exact hv
theorem mapM_results {tmps : Array Value} {L : Locs} {ts : TS} {m : MS} {w : World} (hr : ts.length = tmps.size ∧ ∀ i, Rv L (getL ts i) (tmps.getD i undef)) (hR : Rep w0 ow L m w) :
    ∀ (rs : List ResultVar) (ds : List DRes) (k : List AV → Prop), allSome (decRes P) rs = some ds → resK ts m ds k →
      ∃ vs as, (rs.mapM (rvF tmps)).run P w = .ok vs w ∧ RnL L as vs ∧ k as
  | [], ds, k, hd, h => by
    simp only [allSome, Option.some.injEq] at hd; subst hd
    exact ⟨[], [], rfl, rfl, h⟩
  | r :: rs, ds, k, hd, h => by
    simp only [allSome] at hd
    split at hd
    · rename_i d ds' h1 h2
      cases hd
      cases r with
      | tmp t =>
        simp only [decRes, Option.some.injEq] at h1
        subst h1
        simp only [resK, getK_eq] at h
        have hv := hr.2 t
        split at h
        · rename_i hn
          obtain ⟨vs, as, g1, g2, g3⟩ := mapM_results hr hR rs ds' _ h2 h
          refine ⟨tmps.getD t undef :: vs, getL ts t :: as, ?_, ⟨_, _, rfl, ?_, g2⟩, g3⟩
          · rw [List.mapM_cons]
            simp only [Sem.run_bind, rvF, Sem.run_pure, Result.andThen_ok, g1]
          · cases hx : getL ts t <;> rw [hx] at hv hn <;> first | exact hv | simp [notTup] at hn
        · exact h.elim
      | cell t ty =>
        simp only [decRes] at h1
        split at h1
        · rename_i g n hsz
          cases h1
          simp only [resK, getK_eq, getE_eq] at h
          have hv := hr.2 t
          split at h
          · rename_i id path e
            rw [e] at hv
            obtain ⟨b, off, hl, hp⟩ := Rs_ptr hv
            split at h
            · rename_i en hen
              obtain ⟨cs, hf, hcs⟩ := (hR.ok id en (b, off) hen hl).cells
              obtain ⟨c, pre, d, post, e1, e2, e3, e4⟩ := rdK_parts path en.c cs _ h hf
              split at e4
              · rename_i hg
                split at e4
                · rename_i hn
                  obtain ⟨v, hv1, hv2⟩ := run_loadVar (P := P) (w := w) (b := b) (off := off + pathOff path) hsz e3 hg hn (fun j v hj => by
                    have : cs[pathOff path + j]? = some v := by
                      rw [e1, List.append_assoc, List.getElem?_append_right (by omega), e2]
                      rw [List.getElem?_append_left (by
                        rcases Nat.lt_or_ge (pathOff path + j - pathOff path) d.length with h' | h'
                        · exact h'
                        · rw [show pathOff path + j - pathOff path = j by omega] at h'
                          rw [List.getElem?_eq_none h'] at hj; cases hj)]
                      rw [show pathOff path + j - pathOff path = j by omega]; exact hj
                    rw [Nat.add_assoc]; exact hcs _ v this)
                  obtain ⟨vs, as, g1, g2, g3⟩ := mapM_results hr hR rs ds' _ h2 e4
                  refine ⟨v :: vs, c :: as, ?_, ⟨_, _, rfl, hv2, g2⟩, g3⟩
                  rw [List.mapM_cons]
                  simp only [Sem.run_bind, run_rvF_cell (P := P) hp hv1, Sem.run_pure, Result.andThen_ok, g1]
                · exact e4.elim
              · exact e4.elim
            · exact h.elim
          · exact h.elim
        · cases h1
    · cases hd
theorem RvL_getL {L : Locs} : ∀ {as : List AV} {vs : List Value} (n : Nat), RvL L as vs → ∀ i, Rv L (getL (as ++ List.replicate n undefA) i) ((vs.toArray ++ Array.replicate n undef).getD i undef)
  | [], vs, n, h, i => by
    simp only [RvL] at h; subst h
    by_cases hi : i < n
    · have e1 : getL (List.replicate n undefA) i = undefA := by rw [getL_getElem _ _ (by simpa using hi)]; simp
      rw [List.nil_append, e1]
      simp [hi]; exact Rv_undef _
    · rw [getL_ge _ _ (by simp; omega)]
      rw [Array.getD_eq_getD_getElem?, Array.getElem?_eq_none (by simp; omega)]; exact Rv_undef _
  | a :: as, _, n, ⟨v, r, h1, h2, h3⟩, i => by
    subst h1
    cases i with
    | zero =>
      simp only [List.cons_append, getL]
      have e : ((v :: r).toArray ++ Array.replicate n undef).getD 0 undef = v := by
        simp only [Array.getD_eq_getD_getElem?]
        rw [← Array.getElem?_toList]
        simp
      rw [e]; exact h2
    | succ i =>
      have := RvL_getL n h3 i
      simp only [List.cons_append, getL]
      have e : ((v :: r).toArray ++ Array.replicate n undef).getD (i + 1) undef = (r.toArray ++ Array.replicate n undef).getD i undef := by
        simp only [Array.getD_eq_getD_getElem?]
        congr 1
        rw [← Array.getElem?_toList, ← Array.getElem?_toList]
        simp
      rw [e]; exact this
theorem fn_sound {f : Nat} {D : DFn} {args : List AV} {m : MS} {K : AV → MS → Prop} (hm : P.follows .mixedOrders = true) (hD : decFn P f = some D)
    (h : fnA P w0 D (args ++ List.replicate (D.ntmps - args.length) undefA) m K) : CallLeaf P w0 f args m K := by
  refine ⟨?_⟩
  intro o L w cargs hR hv
  unfold decFn at hD
  split at hD
  · rename_i fn hfn
    split at hD
    · rename_i c hc
      split at hD
      · rename_i d rs hd hrs
        cases hD
        have hlen := RvL_length hv
        refine calls_of_wp hfn hc ?_
        simp only [fnA] at h
        rw [← hR.len] at h
        have hsz : cargs.toArray.size = args.length := by simp [hlen]
        rw [hsz]
        refine wp_mono (awp_sound hm c d L _ m _ w _ hd (Ext.refl L) rfl ⟨by simp [hlen], fun i => RvL_getL _ hv i⟩ hR h) ?_
        have key : ∀ (a' : Act) (w' : World), Good w0 o L (fun ts m => resK ts m rs fun l => match l with | [v] => K v m | l => K (.tup l) m) a' w' → a'.defers = [] ∧ ∃ v, (results fn a'.tmps).run P w' = .ok v w' ∧ RetK w0 o L K (.returned v) w' := by
          rintro a' w' ⟨hdf, L', ts', m', hx', hr', hR', hk⟩
          refine ⟨hdf, ?_⟩
          obtain ⟨vs, as, g1, g2, g3⟩ := mapM_results (P := P) hr' hR' fn.results.toList rs _ hrs hk
          have hrun : (results fn a'.tmps).run P w' = .ok (if h : vs.toArray.size = 1 then vs.toArray[0] else .tuple vs.toArray) w' := by
            have e0 : fn.results = fn.results.toList.toArray := by simp
            have e1 : results fn a'.tmps = (do let vs ← fn.results.mapM (rvF a'.tmps); pure (if h : vs.size = 1 then vs[0] else .tuple vs)) := rfl
            rw [e1, Array.mapM_eq_mapM_toList]
            simp only [map_eq_pure_bind, Sem.run_bind, Sem.run_pure, g1, Result.andThen_ok]
          refine ⟨_, hrun, ?_⟩
          match as, vs, g2, g3 with
          | [], _, h1, h3 => simp only [RnL] at h1; subst h1; exact ⟨_, .tup [], m', L', rfl, hx', ⟨[], rfl, rfl⟩, hR', h3⟩
          | [x], _, ⟨v, r, h1, h2, h4⟩, h3 => simp only [RnL] at h4; subst h4 h1; exact ⟨_, x, m', L', rfl, hx', Rv_of_Rn h2, hR', h3⟩
          | x :: y :: z, _, ⟨v, _, h1, h2, ⟨v2, r2, h5, h6, h7⟩⟩, h3 =>
            subst h1 h5
            refine ⟨_, .tup (x :: y :: z), m', L', rfl, hx', ⟨_, ?_, ⟨v, _, rfl, h2, ⟨v2, r2, rfl, h6, h7⟩⟩⟩, hR', h3⟩
            simp
        intro e a' w' hq
        cases e with
        | normal => exact key a' w' hq
        | ret => exact key a' w' hq
        | exit i => exact hq.2.elim fun _ h => h.elim fun _ h => h.elim fun _ h => h.2.2.2
        | _ => exact hq.elim
      · cases hD
    · cases hD
  · cases hD
end
end Go.Fw
