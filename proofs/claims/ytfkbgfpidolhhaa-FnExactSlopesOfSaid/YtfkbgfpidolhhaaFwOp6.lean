import Derived.Test.YtfkbgfpidolhhaaFwOp5
namespace Go.Fw
open Go

theorem dead_ok (L : Locs) (w : World) (p : Nat × Nat) : EntOk L w deadE p :=
  ⟨⟨[], ⟨rfl, rfl⟩, fun j v h => by simp at h⟩, fun h => by cases h⟩
/-- An entry's elements have gone elsewhere, in the same block. -/
theorem Rep.moveTo {w0 : World} {o : List Nat} {L : Locs} {m : MS} {w w' : World} (h : Rep w0 o L m w) {i : Nat} {e : Ent} {p : Nat × Nat} {c : AV} {r : Nat} (hi : m[i]? = some e) (hp : L[i]? = some p) (he : e.own = true)
    (hg : Grow [p.1] w w') (hok : EntOk (L ++ [p]) w' ⟨true, c, r⟩ p) : Rep w0 o (L ++ [p]) (m.set i deadE ++ [⟨true, c, r⟩]) w' := by
  have hil : i < m.length := by
    rcases Nat.lt_or_ge i m.length with h' | h'
    · exact h'
    · rw [List.getElem?_eq_none h'] at hi; cases hi
  have hlen : (m.set i deadE).length = L.length := by simp [h.len]
  have key : ∀ (k : Nat) (f : Ent) (q : Nat × Nat), (m.set i deadE ++ [⟨true, c, r⟩])[k]? = some f → (L ++ [p])[k]? = some q →
      (k < L.length ∧ k ≠ i ∧ m[k]? = some f ∧ L[k]? = some q) ∨ (k = i ∧ f = deadE ∧ q = p) ∨ (k = L.length ∧ f = ⟨true, c, r⟩ ∧ q = p) := by
    intro k f q hk hq
    rcases getElem?_snoc_cases hk with ⟨h1, h2⟩ | ⟨h1, h2⟩
    · rw [hlen] at h1
      rw [List.getElem?_append_left h1] at hq
      by_cases hki : k = i
      · subst hki
        rw [List.getElem?_set_self hil] at h2
        cases h2
        rw [hp] at hq; cases hq
        exact .inr (.inl ⟨rfl, rfl, rfl⟩)
      · rw [List.getElem?_set_ne (Ne.symm hki)] at h2
        exact .inl ⟨h1, hki, h2, hq⟩
    · rw [hlen] at h1
      rw [h1, List.getElem?_append_right (Nat.le_refl _)] at hq
      simp at hq
      exact .inr (.inr ⟨h1, h2, hq.symm⟩)
  refine ⟨h.grow.trans' hg (fun k hk => by simp at hk; subst hk; exact h.own i e p hi hp he), by simp [h.len], ?_, ?_, ?_⟩
  · intro k f q hk hq
    rcases key k f q hk hq with ⟨h1, h2, h3, h4⟩ | ⟨h1, rfl, rfl⟩ | ⟨h1, rfl, rfl⟩
    · have hkf := (h.ok k f q h3 h4).ext (Ext.append L [p])
      by_cases hz : f.own = true ∨ 0 < szA f.c
      · have hne : p.1 ≠ q.1 := h.apart i k e f p q (Ne.symm h2) hi h3 hp h4 he hz
        exact hkf.same (fun hb => hg.block _ hb (by simp; exact fun hh => hne hh.symm)) hg.size
      · obtain ⟨cs', g1, g2⟩ := hkf.cells
        have hl' := Fl_length _ _ g1
        have hnil : cs' = [] := by
          cases cs' with
          | nil => rfl
          | cons a b => simp at hl'; omega
        subst hnil
        exact ⟨⟨[], g1, fun j x hx => by simp at hx⟩, fun ho' => absurd (.inl ho') hz⟩
    · exact dead_ok _ _ _
    · exact hok
  · intro k f q hk hq ho
    rcases key k f q hk hq with ⟨h1, h2, h3, h4⟩ | ⟨h1, rfl, rfl⟩ | ⟨h1, rfl, rfl⟩
    · exact h.own k f q h3 h4 ho
    · cases ho
    · exact h.own i e q hi hp he
  · intro k l f g q r' hkl hk hl hq hr ho hgz
    rcases key k f q hk hq with ⟨h1, h2, h3, h4⟩ | ⟨h1, rfl, rfl⟩ | ⟨h1, rfl, rfl⟩
    · rcases key l g r' hl hr with ⟨a1, a2, a3, a4⟩ | ⟨a1, rfl, rfl⟩ | ⟨a1, rfl, rfl⟩
      · exact h.apart k l f g q r' hkl h3 a3 h4 a4 ho hgz
      · rcases hgz with hx | hx
        · cases hx
        · simp [deadE, szA] at hx
      · exact h.apart k i f e q r' h2 h3 hi h4 hp ho (.inl he)
    · cases ho
    · rcases key l g r' hl hr with ⟨a1, a2, a3, a4⟩ | ⟨a1, rfl, rfl⟩ | ⟨a1, rfl, rfl⟩
      · exact h.apart i l e g q r' (Ne.symm a2) hi a3 hp a4 he hgz
      · rcases hgz with hx | hx
        · cases hx
        · simp [deadE, szA] at hx
      · omega
theorem Rep.kill {w0 : World} {o : List Nat} {L : Locs} {m : MS} {w : World} (h : Rep w0 o L m w) (i : Nat) : Rep w0 o L (m.set i deadE) w := by
  have key : ∀ (k : Nat) (f : Ent), (m.set i deadE)[k]? = some f → m[k]? = some f ∨ f = deadE := by
    intro k f hk
    by_cases hki : i = k
    · subst hki
      rcases Nat.lt_or_ge i m.length with h' | h'
      · rw [List.getElem?_set_self h'] at hk; cases hk; exact .inr rfl
      · rw [List.getElem?_eq_none (by simpa using h')] at hk; cases hk
    · rw [List.getElem?_set_ne hki] at hk; exact .inl hk
  refine ⟨h.grow, by simp [h.len], ?_, ?_, ?_⟩
  · intro k f q hk hq
    rcases key k f hk with h1 | rfl
    · exact h.ok k f q h1 hq
    · exact dead_ok _ _ _
  · intro k f q hk hq ho
    rcases key k f hk with h1 | rfl
    · exact h.own k f q h1 hq ho
    · cases ho
  · intro k l f g q r hkl hk hl hq hr ho hgz
    rcases key k f hk with h1 | rfl
    · rcases key l g hl with h2 | rfl
      · exact h.apart k l f g q r hkl h1 h2 hq hr ho hgz
      · rcases hgz with hx | hx
        · cases hx
        · simp [deadE, szA] at hx
    · cases ho

theorem Ff_append : ∀ {xs ys : List Nat} {cs ds : List Value}, Ff xs cs → Ff ys ds → Ff (xs ++ ys) (cs ++ ds)
  | [], _, _, _, h, h' => by simp only [Ff] at h; subst h; exact h'
  | _ :: _, _, _, _, ⟨b, r, h1, h2, h3⟩, h' => ⟨b, r ++ _, by rw [h1]; rfl, h2, Ff_append h3 h'⟩
theorem Fc_append : ∀ {xs ys : List (Nat × Nat)} {cs ds : List Value}, Fc xs cs → Fc ys ds → Fc (xs ++ ys) (cs ++ ds)
  | [], _, _, _, h, h' => by simp only [Fc] at h; subst h; exact h'
  | _ :: _, _, _, _, ⟨a, b, r, h1, h2, h2', h3⟩, h' => ⟨a, b, r ++ _, by rw [h1]; rfl, h2, h2', Fc_append h3 h'⟩
theorem cellsP_append (xs ys : List (Int × Int)) : cellsP (xs ++ ys) = cellsP xs ++ cellsP ys := by
  induction xs with
  | nil => rfl
  | cons x xs ih => simp [cellsP, ih]
theorem appA_sound {L : Locs} {a b c : AV} {n : Nat} {cs ds : List Value} (h : appA a n b = some c) (hn : lenA a + lenA b = n) (ha : Fl L a cs) (hb : Fl L b ds) : Fl L c (cs ++ ds) := by
  unfold appA at h
  split at h
  · cases h; obtain ⟨h1, h2⟩ := ha; obtain ⟨h3, h4⟩ := hb
    exact ⟨by simp only [List.length_append, h1, h3]; exact hn, by simp [h2, h4]⟩
  · cases h; obtain ⟨h1, h2⟩ := ha; obtain ⟨h3, h4⟩ := hb
    exact ⟨by simp only [List.length_append, h1, h3]; exact hn, Ff_append h2 h4⟩
  · cases h; obtain ⟨h1, h2⟩ := ha; obtain ⟨h3, h4⟩ := hb
    exact ⟨by simp only [List.length_append, h1, h3]; exact hn, Fc_append h2 h4⟩
  · cases h; obtain ⟨h1, h2⟩ := ha; obtain ⟨h3, h4⟩ := hb
    exact ⟨by simp only [List.length_append, h1, h3]; exact hn, by rw [h2, h4, cellsP_append]⟩
  · cases h
theorem appA_kind {a b c : AV} {n : Nat} {k : Ek} (h : appA a n b = some c) (hb : isEk k b = true) : szA a = lenA a * eszE k ∧ szA b = lenA b * eszE k ∧ szA c = n * eszE k := by
  unfold appA at h
  split at h
  · cases h; cases k <;> simp [isEk] at hb; simp [szA, lenA, eszE]
  · cases h; cases k <;> simp [isEk] at hb; simp [szA, lenA, eszE]
  · cases h; cases k <;> simp [isEk] at hb; simp [szA, lenA, eszE]
  · cases h; cases k <;> simp [isEk] at hb; simp only [szA, lenA, eszE]; omega
  · cases h
theorem isEk_sz {k : Ek} {b : AV} (hb : isEk k b = true) : szA b = lenA b * eszE k := by
  cases k <;> cases b <;> simp [isEk] at hb <;> simp [szA, lenA, eszE]
  omega

section
variable {P : Program} {w0 : World} {ow : List Nat} {Q : Exit → Act → World → Prop}
variable {o : Oper} {a : Act} {w : World} {L : Locs} {m : MS} {ts : TS} {K : AV → MS → Prop}

/-- the elements of a slice that is known whole -/
theorem slice_cells (hR : Rep w0 ow L m w) {j esz n cap : Nat} {v : Value} {e : Ent} (hv : Rv L (.sl j [] esz 0 n cap) v) (hj : m[j]? = some e) (hsz : szA e.c = n * esz) :
    ∃ ad cs, v = .slice ad n cap ∧ n ≤ cap ∧ Fl L e.c cs ∧ cs.length = n * esz ∧ ∀ w', (∀ b off u, w.cell? ⟨b, off, none⟩ = some u → w'.cell? ⟨b, off, none⟩ = some u) → (Builtin.firstCells esz n v).run P w' = .ok cs.toArray w' := by
  obtain ⟨ad, rfl, hle, had⟩ := Rs_sl hv
  obtain ⟨p, hp⟩ := hR.loc hj
  obtain ⟨cs, hf, hcs⟩ := (hR.ok j e p hj hp).cells
  have hlen := Fl_length _ _ hf
  rw [hsz] at hlen
  refine ⟨ad, cs, rfl, hle, hf, hlen, fun w' hw' => ?_⟩
  rcases had with h0 | ⟨b, off, hb, rfl⟩
  · have hn : n = 0 := by omega
    subst hn
    have : cs = [] := by simpa using hlen
    subst this
    cases ad with
    | none => rfl
    | some x => simp [Builtin.firstCells, loadCells, loadCellsFrom]
  · rw [hp] at hb
    cases hb
    have := run_firstCells_some (P := P) w' esz n ⟨b, off + pathOff [] + 0 * esz, none⟩ n cap cs hlen (fun j u hj => by
      rw [add_off]
      simp only [pathOff, Nat.add_zero, Nat.zero_mul]
      exact hw' _ _ _ (hcs j u hj))
    exact this
theorem underlying_slice_not_int {t e : TypeId} (hu : P.underlying t = some (.slice e)) : (underlying t).run P w = .ok (.slice e) w := run_und hu
theorem grown_cap (w : World) (need old : Nat) (e : TypeId) : need ≤ grownCap w need old e := grownCap_ge w need old e
theorem zeroCells_list {z : Value} {k : Ek} (hz : z.cells.toList = zcell k) (n : Nat) : (Builtin.zeroCells z.cells n).toList = zcells k n := by
  have hs : z.cells.size = eszE k := by rw [← zcell_length k, ← hz]; simp
  unfold Builtin.zeroCells
  rw [hs]
  have := made_zero hz n
  rw [← this, hs]
/-- append, where the capacity does: the new cells behind the old -/
theorem run_app_fits {t e ty : TypeId} {i : TypeInfo} {k : Ek} (hu : P.underlying t = some (.slice e)) (hi : P.info? e = some i) (hsz : i.size = eszE k) {ad : Option Addr} {n cap n' : Nat} {v : Value} {ns : List Value} {ad' : Option Addr} {cap' : Nat}
    (hv : v = .slice ad' n' cap') (hns : (Builtin.firstCells (eszE k) n' v).run P w = .ok ns.toArray w) (hfit : n + n' ≤ cap)
    {w' : World} (hst : ad = none ∧ w' = w ∨ ∃ x, ad = some x ∧ (storeCells (x.add (n * eszE k)) ns).run P w = .ok () w') :
    (Builtin.append_ #[t, t] ty #[.slice ad n cap, v]).run P w = .ok (.slice ad (n + n') cap) w' := by
  subst hv
  have h0 : (#[t, t] : Array TypeId)[1]? = some t := rfl
  rcases hst with ⟨rfl, rfl⟩ | ⟨x, rfl, hst⟩
  · simp [Builtin.append_, run_und hu, sizeOf, typeInfo, hi, hsz, Builtin.lenOf, hfit, hns]
  · simp [Builtin.append_, run_und hu, sizeOf, typeInfo, hi, hsz, Builtin.lenOf, hfit, hns, hst]
/-- append, where it must grow -/
theorem run_app_grows {t e ty : TypeId} {i : TypeInfo} {z : Value} {k : Ek} (hu : P.underlying t = some (.slice e)) (hi : P.info? e = some i) (hz : i.zero = some z) (hsz : i.size = eszE k) (hby : i.bytes ≤ 16) {ad : Option Addr} {n cap n' : Nat} {v : Value} {os ns : List Value} {ad' : Option Addr} {cap' : Nat}
    (hv : v = .slice ad' n' cap') (hos : (Builtin.firstCells (eszE k) n (.slice ad n cap)).run P w.drew = .ok os.toArray w.drew) (hns : (Builtin.firstCells (eszE k) n' v).run P w.drew = .ok ns.toArray w.drew) (hfit : cap < n + n') (hbd : n + n' ≤ 1048576) :
    (Builtin.append_ #[t, t] ty #[.slice ad n cap, v]).run P w = .ok (.slice (some ⟨w.heap.size, 0, none⟩) (n + n') (grownCap w (n + n') cap e)) (w.drew.alloc (.cells (os.toArray ++ ns.toArray ++ Builtin.zeroCells z.cells (grownCap w (n + n') cap e - (n + n'))) e)) := by
  subst hv
  have hn : ¬ (n + n' ≤ cap) := by omega
  have h63' : ¬ (9223372036854775807 < ((n : Int) + (n' : Int))) := by omega
  have hfit2 := growslice_fits (need := n + n') (old := cap) (bytes := i.bytes) hfit (by
    have : (n + n') * i.bytes ≤ 1048576 * 16 := Nat.mul_le_mul hbd hby
    omega)
  have h48' : ¬ (281474976710656 < Builtin.nextslicecap (n + n') cap * i.bytes) := by omega
  simp [Builtin.append_, run_und hu, sizeOf, typeInfo, zeroValue, hi, hz, hsz, Builtin.lenOf, hn, h63', h48', Question.forced, hos, hns, newRow, grownCap]
  congr 2
  rw [show (os ++ ns).toArray = os.toArray ++ ns.toArray from by simp, Array.append_assoc]
end
end Go.Fw
