import Derived.Test.YtfkbgfpidolhhaaFwOp6
namespace Go.Fw
open Go
section
variable {P : Program} {w0 : World} {ow : List Nat} {Q : Exit → Act → World → Prop}
variable {o : Oper} {a : Act} {w : World} {L : Locs} {m : MS} {ts : TS} {K : AV → MS → Prop}

theorem getElem?_lt {α : Type} {l : List α} {i : Nat} {x : α} (h : l[i]? = some x) : i < l.length := by
  rcases Nat.lt_or_ge i l.length with h' | h'
  · exact h'
  · rw [List.getElem?_eq_none h'] at h; cases h
/-- append: what the builtin itself does -/
theorem app_core (hR : Rep w0 ow L m w) {t e ty : TypeId} {k : Ek} (hu : P.underlying t = some (.slice e)) (hk : ekOk P e = some k) {i j n n' cap cap' : Nat} {ei ej : Ent} {c : AV} {vs vx : Value}
    (hs : Rv L (.sl i [] (eszE k) 0 n cap) vs) (hx : Rv L (.sl j [] (eszE k) 0 n' cap') vx) (hi : m[i]? = some ei) (hj : m[j]? = some ej) (hek : isEk k ej.c = true) (ho : ei.own = true) (hc : appA ei.c (addN n n') ej.c = some c)
    (_hne : i ≠ j) (hli : lenA ei.c = n) (hlj : lenA ej.c = n') (hbd : n + n' ≤ 1048576) (hcap : ei.cap = cap * eszE k) :
    ∃ v w' L' cp, (Builtin.append_ #[t, t] ty #[vs, vx]).run P w = .ok v w' ∧ Ext L L' ∧ Rv L' (.sl m.length [] (eszE k) 0 (addN n n') cp) v ∧ Rep w0 ow L' (m.set i deadE ++ [⟨true, c, cp * eszE k⟩]) w' := by
  obtain ⟨s1, s2, s3⟩ := appA_kind hc hek
  obtain ⟨ti, z, hti, hz, hsz, hby, hzc⟩ := ekOk_sound hk
  obtain ⟨ad, os, rfl, hle, hfo, hlo, hos⟩ := slice_cells (P := P) hR hs hi (by rw [s1, hli])
  obtain ⟨ad', ns, rfl, hle', hfn, hln, hns⟩ := slice_cells (P := P) hR hx hj (by rw [s2, hlj])
  have hadd : addN n n' = n + n' := by unfold addN; rfl
  rw [hadd] at s3 hc ⊢
  have hfc : Fl L c (os ++ ns) := appA_sound hc (by rw [hli, hlj]) hfo hfn
  rcases Nat.lt_or_ge cap (n + n') with hfit | hfit
  · have hrun := run_app_grows (P := P) (w := w) (ty := ty) hu hti hz hsz hby (ad := ad) (cap := cap) rfl (hos w.drew (fun _ _ _ h => h)) (hns w.drew (fun _ _ _ h => h)) hfit hbd
    have hg : n + n' ≤ grownCap w (n + n') cap e := grown_cap ..
    have hzs : (Builtin.zeroCells z.cells (grownCap w (n + n') cap e - (n + n'))).size = (grownCap w (n + n') cap e - (n + n')) * eszE k := by
      rw [← Array.length_toList, zeroCells_list hzc, zcells_length]
    have hRn := hR.drew.alloc e (grownCap w (n + n') cap e * eszE k) hfc (os.toArray ++ ns.toArray ++ Builtin.zeroCells z.cells (grownCap w (n + n') cap e - (n + n'))) (fun q u hq => by
      have hq' := getElem?_lt hq
      rw [show os.toArray ++ ns.toArray = (os ++ ns).toArray from by simp, Array.getElem?_append_left (by simpa using hq')]
      simpa using hq) (by
      simp only [Array.size_append, List.size_toArray, hlo, hln, hzs]
      rw [← Nat.add_mul, ← Nat.add_mul]
      exact Nat.mul_le_mul_right _ (by omega))
    have hk2 := hRn.kill i
    rw [List.set_append_left _ _ (getElem?_lt hi)] at hk2
    refine ⟨_, _, _, grownCap w (n + n') cap e, hrun, Ext.append _ _, ⟨_, rfl, hg, .inr ⟨w.heap.size, 0, ?_, by simp [pathOff]⟩⟩, hk2⟩
    rw [← hR.len]; simp
  · obtain ⟨p, hp⟩ := hR.loc hi
    have hki := hR.ok i ei p hi hp
    obtain ⟨hlt, hown⟩ := hki.own ho
    obtain ⟨ad2, heq, _, had⟩ := Rs_sl hs
    cases heq
    by_cases hc0 : cap = 0
    · have hn : n = 0 := by omega
      have hn' : n' = 0 := by omega
      subst hn hn' hc0
      have : os = [] := by simpa using hlo
      subst this
      have : ns = [] := by simpa using hln
      subst this
      have hrun : (Builtin.append_ #[t, t] ty #[.slice ad 0 0, .slice ad' 0 cap']).run P w = .ok (.slice ad 0 0) w := by
        refine run_app_fits (P := P) (w := w) (ty := ty) hu hti hsz (ad := ad) (cap := 0) rfl (hns w (fun _ _ _ h => h)) (Nat.le_refl _) (w' := w) ?_
        cases ad with
        | none => exact .inl ⟨rfl, rfl⟩
        | some x => exact .inr ⟨x, rfl, rfl⟩
      refine ⟨_, w, L ++ [p], 0, hrun, Ext.append _ _, ⟨ad, rfl, Nat.le_refl _, .inl rfl⟩, ?_⟩
      refine hR.moveTo hi hp ho (Grow.refl _ _) ⟨⟨[], hfc.sub (Ext.append _ _), fun q u hq => by simp at hq⟩, fun _ => ⟨hlt, fun q hq => ?_⟩⟩
      simp [s3] at hq
    · obtain ⟨b, off, hb, rfl⟩ := had.resolve_left hc0
      rw [hp] at hb
      cases hb
      have hcn : cap * eszE k = n * eszE k + (cap - n) * eszE k := by rw [← Nat.add_mul]; congr 1; omega
      have hnn : (n + n') * eszE k ≤ cap * eszE k := Nat.mul_le_mul_right _ hfit
      rw [Nat.add_mul] at hnn
      obtain ⟨w', f1, f2, f3, f4, f5, f6⟩ := run_stores (P := P) b (off + n * eszE k) ns 0 w (fun q hq => by
        rw [show off + n * eszE k + 0 + q = off + (n * eszE k + q) by omega]
        exact hown _ (.inr (by rw [hcap]; show _ < cap * eszE k; rw [hln] at hq; omega))) (Fl_oneCell ej.c ns hfn)
      simp only [Nat.add_zero] at f4 f5
      have hrun := run_app_fits (P := P) (w := w) (ty := ty) hu hti hsz (ad := some ⟨b, off + pathOff [] + 0 * eszE k, none⟩) (cap := cap) (n := n) (ad' := ad') (cap' := cap') rfl (hns w (fun _ _ _ h => h)) hfit (w' := w') (.inr ⟨_, rfl, by
        rw [add_off]
        simp only [pathOff, Nat.zero_mul, Nat.add_zero]
        exact f1⟩)
      refine ⟨_, w', L ++ [(b, off)], cap, hrun, Ext.append _ _, ⟨_, rfl, hfit, .inr ⟨b, off, ?_, rfl⟩⟩, ?_⟩
      · rw [← hR.len]; simp
      · refine hR.moveTo hi hp ho f2 ⟨⟨os ++ ns, hfc.sub (Ext.append _ _), fun q u hq => ?_⟩, fun _ => ⟨by show b < _; rw [f3]; exact hlt, fun q hq => ?_⟩⟩
        · show w'.cell? ⟨b, off + q, none⟩ = some u
          rcases Nat.lt_or_ge q os.length with hq1 | hq1
          · rw [List.getElem?_append_left hq1] at hq
            rw [f5 b (off + q) (by rw [hlo] at hq1; omega)]
            obtain ⟨cs2, g1, g2⟩ := hki.cells
            have hcs := hos w (fun _ _ _ h => h)
            have := run_firstCells_some (P := P) w (eszE k) n ⟨b, off + pathOff [] + 0 * eszE k, none⟩ n cap cs2 (by rw [Fl_length _ _ g1, s1, hli]) (fun j u hj => by
              rw [add_off]; simp only [pathOff, Nat.zero_mul, Nat.add_zero]; exact g2 j u hj)
            rw [this] at hcs
            have hcc : cs2.toArray = os.toArray := by injection hcs
            have : cs2 = os := by simpa using hcc
            subst this
            exact g2 q u hq
          · rw [List.getElem?_append_right hq1] at hq
            have := f4 _ _ hq
            rw [show off + q = off + n * eszE k + (q - os.length) by rw [hlo] at hq1 ⊢; omega]
            exact this
        · have hq' : q < cap * eszE k := by
            rcases hq with hq | hq
            · rw [s3, Nat.add_mul] at hq; omega
            · exact hq
          obtain ⟨g1, g2⟩ := hown q (.inr (by rw [hcap]; exact hq'))
          refine ⟨?_, by rw [f6]; exact g2⟩
          show (w'.cell? ⟨b, off + q, none⟩).isSome = true
          by_cases hin : n * eszE k ≤ q ∧ q < n * eszE k + ns.length
          · have := f4 (q - n * eszE k) _ (List.getElem?_eq_getElem (by omega))
            rw [show off + q = off + n * eszE k + (q - n * eszE k) by omega, this]; rfl
          · rw [f5 b (off + q) (by omega)]; exact g1
theorem app_fresh (hR : Rep w0 ow L m w) {t e ty : TypeId} {k : Ek} (hu : P.underlying t = some (.slice e)) (hk : ekOk P e = some k) {i j n' cap' : Nat} {ej : Ent} {vs vx : Value}
    (hs : Rv L (.sl i [] (eszE k) 0 0 0) vs) (hx : Rv L (.sl j [] (eszE k) 0 n' cap') vx) (hj : m[j]? = some ej) (hek : isEk k ej.c = true) (hlj : lenA ej.c = n') (hn : 0 < n') (hbd : n' ≤ 1048576) :
    ∃ v w' L' cp, (Builtin.append_ #[t, t] ty #[vs, vx]).run P w = .ok v w' ∧ Ext L L' ∧ Rv L' (.sl m.length [] (eszE k) 0 n' cp) v ∧ Rep w0 ow L' (m ++ [⟨true, ej.c, cp * eszE k⟩]) w' := by
  have s2 := isEk_sz hek
  obtain ⟨ti, z, hti, hz, hsz, hby, hzc⟩ := ekOk_sound hk
  obtain ⟨ad, rfl, hle, had⟩ := Rs_sl hs
  obtain ⟨ad', ns, rfl, hle', hfn, hln, hns⟩ := slice_cells (P := P) hR hx hj (by rw [s2, hlj])
  have hos : (Builtin.firstCells (eszE k) 0 (.slice ad 0 0)).run P w.drew = .ok ([] : List Value).toArray w.drew := by
    cases ad with
    | none => rfl
    | some x => simp [Builtin.firstCells, loadCells, loadCellsFrom]
  have hrun := run_app_grows (P := P) (w := w) (ty := ty) hu hti hz hsz hby (ad := ad) (cap := 0) (n := 0) rfl hos (hns w.drew (fun _ _ _ h => h)) (by omega) (by omega)
  rw [Nat.zero_add] at hrun
  have hg : n' ≤ grownCap w n' 0 e := grown_cap ..
  have hzs : (Builtin.zeroCells z.cells (grownCap w n' 0 e - n')).size = (grownCap w n' 0 e - n') * eszE k := by
    rw [← Array.length_toList, zeroCells_list hzc, zcells_length]
  have hRn := hR.drew.alloc e (grownCap w n' 0 e * eszE k) hfn (([] : List Value).toArray ++ ns.toArray ++ Builtin.zeroCells z.cells (grownCap w n' 0 e - n')) (fun q u hq => by
    have hq' := getElem?_lt hq
    rw [show ([] : List Value).toArray ++ ns.toArray = ns.toArray from by simp, Array.getElem?_append_left (by simpa using hq')]
    simpa using hq) (by
    simp only [Array.size_append, List.size_toArray, hln, hzs, List.length_nil, Nat.zero_add]
    rw [← Nat.add_mul]
    exact Nat.mul_le_mul_right _ (by omega))
  refine ⟨_, _, _, grownCap w n' 0 e, hrun, Ext.append _ _, ⟨_, rfl, hg, .inr ⟨w.heap.size, 0, ?_, by simp [pathOff]⟩⟩, hRn⟩
  rw [← hR.len]; simp
end
end Go.Fw
