import Derived.Test.YtfkbgfpidolhhaaFwRel
namespace Go.Fw
open Go

theorem side_out {p : Prop} (h : Side p) : p := by unfold Side at h; exact h
theorem side_in {p : Prop} (h : p) : Side p := by unfold Side; exact h

theorem rdK_parts {L : Locs} : ∀ (p : List Step) (a : AV) (cs : List Value) (k : AV → Prop), rdK a p k → Fl L a cs →
    ∃ c pre d post, cs = pre ++ d ++ post ∧ pre.length = pathOff p ∧ Fl L c d ∧ k c
  | [], a, cs, k, h, hf => ⟨a, [], cs, [], by simp, rfl, hf, h⟩
  | s :: p, a, cs, k, h, hf => by
    simp only [rdK] at h
    cases hc : child a s with
    | none => rw [hc] at h; exact h.elim
    | some c =>
      rw [hc] at h
      have hb : chB a s ∧ rdK c p k := by
        cases s with
        | fld i o => exact ⟨by cases a <;> trivial, h⟩
        | idx i z => exact ⟨side_out h.1, h.2⟩
      obtain ⟨pre, d, post, e1, e2, e3, _⟩ := child_parts hc hb.1 hf
      obtain ⟨c', pre', d', post', f1, f2, f3, f4⟩ := rdK_parts p c d k hb.2 e3
      exact ⟨c', pre ++ pre', d', post' ++ post, by rw [e1, f1]; simp, by rw [pathOff_cons]; simp [e2, f2], f3, f4⟩
theorem wrK_parts {L : Locs} : ∀ (p : List Step) (a v : AV) (cs vs : List Value) (k : AV → Prop), wrK a p v k → Fl L a cs → Fl L v vs →
    ∃ a' pre d post, cs = pre ++ d ++ post ∧ pre.length = pathOff p ∧ d.length = vs.length ∧ Fl L a' (pre ++ vs ++ post) ∧ k a'
  | [], a, v, cs, vs, k, h, hf, hv => by
    simp only [wrK] at h
    split at h
    · rename_i he
      exact ⟨v, [], cs, [], by simp, rfl, szA_eq_of_Fl hf hv he, by simpa using hv, h⟩
    · exact h.elim
  | s :: p, a, v, cs, vs, k, h, hf, hv => by
    simp only [wrK] at h
    cases hc : child a s with
    | none => rw [hc] at h; exact h.elim
    | some c =>
      rw [hc] at h
      have hb : chB a s ∧ wrK c p v fun c' => setCh a s c' k := by
        cases s with
        | fld i o => exact ⟨by cases a <;> trivial, h⟩
        | idx i z => exact ⟨side_out h.1, h.2⟩
      obtain ⟨pre, d, post, e1, e2, e3, e4⟩ := child_parts hc hb.1 hf
      obtain ⟨c', pre', d', post', f1, f2, f3, f4, f5⟩ := wrK_parts p c v d vs _ hb.2 e3 hv
      obtain ⟨a', g1, g2⟩ := e4 c' _ k f5 f4 (by rw [f1]; simp [f3])
      exact ⟨a', pre ++ pre', d', post' ++ post, by rw [e1, f1]; simp, by rw [pathOff_cons]; simp [e2, f2], f3, by simpa using g2, g1⟩

/-! memory -/
/-- What has turned: the blocks of 'o', and new ones. -/
structure Grow (o : List Nat) (w w' : World) : Prop where
  os : w'.os = w.os
  tape : w'.tape = w.tape
  output : w'.output = w.output
  size : w.heap.size ≤ w'.heap.size
  block : ∀ b, b < w.heap.size → b ∉ o → w'.heap[b]? = w.heap[b]?
theorem Grow.refl (o : List Nat) (w : World) : Grow o w w := ⟨rfl, rfl, rfl, Nat.le_refl _, fun _ _ _ => rfl⟩
theorem Grow.trans {o : List Nat} {a b c : World} (h : Grow o a b) (h' : Grow o b c) : Grow o a c :=
  ⟨h'.os.trans h.os, h'.tape.trans h.tape, h'.output.trans h.output, Nat.le_trans h.size h'.size,
   fun k hk ho => (h'.block k (Nat.lt_of_lt_of_le hk h.size) ho).trans (h.block k hk ho)⟩
theorem Grow.trans' {o o' : List Nat} {a b c : World} (h : Grow o a b) (h' : Grow o' b c) (ho : ∀ k, k ∈ o' → k ∈ o ∨ a.heap.size ≤ k) : Grow o a c :=
  ⟨h'.os.trans h.os, h'.tape.trans h.tape, h'.output.trans h.output, Nat.le_trans h.size h'.size,
   fun k hk hn => (h'.block k (Nat.lt_of_lt_of_le hk h.size) (fun hm => (ho k hm).elim hn (fun h => absurd hk (by omega)))).trans (h.block k hk hn)⟩
theorem Grow.drew {o : List Nat} {a w : World} (h : Grow o a w) : Grow o a w.drew := ⟨h.os, h.tape, h.output, h.size, h.block⟩

structure EntOk (L : Locs) (w : World) (e : Ent) (p : Nat × Nat) : Prop where
  cells : ∃ cs, Fl L e.c cs ∧ ∀ j v, cs[j]? = some v → w.cell? ⟨p.1, p.2 + j, none⟩ = some v
  own : e.own = true → p.1 < w.heap.size ∧ (∀ j, j < szA e.c ∨ j < e.cap → (w.cell? ⟨p.1, p.2 + j, none⟩).isSome = true ∧ w.frozen? ⟨p.1, p.2 + j, none⟩ = false)

structure Rep (w0 : World) (o : List Nat) (L : Locs) (m : MS) (w : World) : Prop where
  grow : Grow o w0 w
  len : L.length = m.length
  ok : ∀ (i : Nat) (e : Ent) (p : Nat × Nat), m[i]? = some e → L[i]? = some p → EntOk L w e p
  own : ∀ (i : Nat) (e : Ent) (p : Nat × Nat), m[i]? = some e → L[i]? = some p → e.own = true → p.1 ∈ o ∨ w0.heap.size ≤ p.1
  apart : ∀ (i j : Nat) (e f : Ent) (p q : Nat × Nat), i ≠ j → m[i]? = some e → m[j]? = some f → L[i]? = some p → L[j]? = some q → e.own = true → f.own = true ∨ 0 < szA f.c → p.1 ≠ q.1

theorem Rep.loc {w0 : World} {o : List Nat} {L : Locs} {m : MS} {w : World} (h : Rep w0 o L m w) {i : Nat} {e : Ent} (hi : m[i]? = some e) : ∃ p, L[i]? = some p := by
  have : i < m.length := by
    rcases Nat.lt_or_ge i m.length with h' | h'
    · exact h'
    · rw [List.getElem?_eq_none h'] at hi; cases hi
  exact ⟨L[i]'(by rw [h.len]; exact this), List.getElem?_eq_getElem _⟩
theorem EntOk.ext {L L' : Locs} {w : World} {e : Ent} {p : Nat × Nat} (hx : Ext L L') (h : EntOk L w e p) : EntOk L' w e p :=
  ⟨let ⟨cs, h1, h2⟩ := h.cells; ⟨cs, h1.sub hx, h2⟩, h.own⟩
theorem EntOk.world {L : Locs} {w w' : World} {e : Ent} {p : Nat × Nat} (h : EntOk L w e p)
    (hc : ∀ j v, w.cell? ⟨p.1, p.2 + j, none⟩ = some v → w'.cell? ⟨p.1, p.2 + j, none⟩ = some v ∧ w'.frozen? ⟨p.1, p.2 + j, none⟩ = w.frozen? ⟨p.1, p.2 + j, none⟩) (hs : w.heap.size ≤ w'.heap.size) : EntOk L w' e p := by
  obtain ⟨cs, h1, h2⟩ := h.cells
  refine ⟨⟨cs, h1, fun j v hj => (hc j v (h2 j v hj)).1⟩, fun ho => ?_⟩
  obtain ⟨g1, g2⟩ := h.own ho
  refine ⟨Nat.lt_of_lt_of_le g1 hs, fun j hj => ?_⟩
  obtain ⟨g3, g4⟩ := g2 j hj
  obtain ⟨v, hv⟩ := Option.isSome_iff_exists.1 g3
  obtain ⟨h3, h4⟩ := hc j v hv
  exact ⟨by rw [h3]; rfl, by rw [h4]; exact g4⟩
theorem cell?_lt {w : World} {b j : Nat} {v : Value} (h : w.cell? ⟨b, j, none⟩ = some v) : b < w.heap.size := World.block_lt_of_cell? w _ h
theorem cell?_same {w w' : World} {b j : Nat} (h : w'.heap[b]? = w.heap[b]?) : w'.cell? ⟨b, j, none⟩ = w.cell? ⟨b, j, none⟩ := by simp [World.cell?, h]
theorem frozen?_same {w w' : World} {b j : Nat} (h : w'.heap[b]? = w.heap[b]?) : w'.frozen? ⟨b, j, none⟩ = w.frozen? ⟨b, j, none⟩ := by simp [World.frozen?, h]
theorem EntOk.same {L : Locs} {w w' : World} {e : Ent} {p : Nat × Nat} (h : EntOk L w e p) (hb : p.1 < w.heap.size → w'.heap[p.1]? = w.heap[p.1]?) (hs : w.heap.size ≤ w'.heap.size) : EntOk L w' e p :=
  h.world (fun _ _ hv => ⟨by rw [cell?_same (hb (cell?_lt hv))]; exact hv, frozen?_same (hb (cell?_lt hv))⟩) hs

theorem Rep.drew {w0 : World} {o : List Nat} {L : Locs} {m : MS} {w : World} (h : Rep w0 o L m w) : Rep w0 o L m w.drew :=
  ⟨h.grow.drew, h.len, fun i e p hi hp => (h.ok i e p hi hp).same (fun _ => rfl) (Nat.le_refl _), h.own, h.apart⟩

/-- the blocks that may be written from here on -/
def owns (L : Locs) (m : MS) : List Nat := (List.range m.length).filterMap fun i => match m[i]?, L[i]? with
  | some e, some p => if e.own then some p.1 else none
  | _, _ => none
theorem mem_owns {L : Locs} {m : MS} {b : Nat} : b ∈ owns L m ↔ ∃ (i : Nat) (e : Ent) (p : Nat × Nat), m[i]? = some e ∧ L[i]? = some p ∧ e.own = true ∧ p.1 = b := by
  unfold owns
  rw [List.mem_filterMap]
  constructor
  · rintro ⟨i, hi, h⟩
    split at h
    · rename_i e p he hp
      split at h
      · rename_i ho; cases h; exact ⟨i, e, p, he, hp, ho, rfl⟩
      · cases h
    · cases h
  · rintro ⟨i, e, p, he, hp, ho, rfl⟩
    refine ⟨i, ?_, by simp [he, hp, ho]⟩
    rcases Nat.lt_or_ge i m.length with h' | h'
    · exact List.mem_range.2 h'
    · rw [List.getElem?_eq_none h'] at he; cases he

/-- Behind something that turned nothing but what may be written, and that left the entries as they read. -/
theorem Rep.grown {w0 : World} {o : List Nat} {L : Locs} {m : MS} {w w' : World} (h : Rep w0 o L m w) (hg : Grow [] w w') : Rep w0 o L m w' :=
  ⟨h.grow.trans ⟨hg.os, hg.tape, hg.output, hg.size, fun b hb _ => hg.block b hb (by simp)⟩, h.len,
   fun i e p hi hp => (h.ok i e p hi hp).same (fun hb => hg.block _ hb (by simp)) hg.size, h.own, h.apart⟩

theorem getElem?_snoc_cases {α : Type} {l : List α} {x y : α} {i : Nat} (h : (l ++ [x])[i]? = some y) : (i < l.length ∧ l[i]? = some y) ∨ (i = l.length ∧ y = x) := by
  rcases Nat.lt_or_ge i l.length with h' | h'
  · rw [List.getElem?_append_left h'] at h; exact .inl ⟨h', h⟩
  · rw [List.getElem?_append_right h'] at h
    have : i - l.length = 0 := by
      rcases Nat.eq_zero_or_pos (i - l.length) with h0 | h0
      · exact h0
      · rw [List.getElem?_eq_none (by simp; omega)] at h; cases h
    rw [this] at h
    simp at h
    exact .inr ⟨by omega, h.symm⟩

/-- A new block, known whole. -/
theorem Rep.push {w0 : World} {o : List Nat} {L : Locs} {m : MS} {w w' : World} {e : Ent} {b : Nat} (h : Rep w0 o L m w) (hg : Grow [] w w')
    (hb : w.heap.size ≤ b) (hok : EntOk (L ++ [(b, 0)]) w' e (b, 0)) : Rep w0 o (L ++ [(b, 0)]) (m ++ [e]) w' := by
  have hw := h.grown hg
  have hold : ∀ (i : Nat) (f : Ent) (p : Nat × Nat), m[i]? = some f → L[i]? = some p → (f.own = true ∨ 0 < szA f.c) → p.1 < w.heap.size := by
    intro i f p hi hp hf
    have hk := h.ok i f p hi hp
    rcases hf with ho | hz
    · exact (hk.own ho).1
    · obtain ⟨cs, h1, h2⟩ := hk.cells
      have hl := Fl_length _ _ h1
      cases cs with
      | nil => simp at hl; omega
      | cons c r => exact cell?_lt (h2 0 c rfl)
  refine ⟨hw.grow, by simp [h.len], ?_, ?_, ?_⟩
  · intro i f p hi hp
    rcases getElem?_snoc_cases hi with ⟨h1, h2⟩ | ⟨h1, rfl⟩
    · rw [List.getElem?_append_left (by rw [h.len]; exact h1)] at hp
      exact (hw.ok i f p h2 hp).ext (Ext.append _ _)
    · rw [h1, ← h.len, List.getElem?_append_right (Nat.le_refl _)] at hp
      simp at hp; subst hp; exact hok
  · intro i f p hi hp ho
    rcases getElem?_snoc_cases hi with ⟨h1, h2⟩ | ⟨h1, rfl⟩
    · rw [List.getElem?_append_left (by rw [h.len]; exact h1)] at hp
      exact h.own i f p h2 hp ho
    · rw [h1, ← h.len, List.getElem?_append_right (Nat.le_refl _)] at hp
      simp at hp; subst hp; exact .inr (Nat.le_trans h.grow.size hb)
  · intro i j f g p q hij hi hj hp hq ho hgz
    rcases getElem?_snoc_cases hi with ⟨h1, h2⟩ | ⟨h1, rfl⟩ <;> rcases getElem?_snoc_cases hj with ⟨h3, h4⟩ | ⟨h3, rfl⟩
    · rw [List.getElem?_append_left (by rw [h.len]; exact h1)] at hp
      rw [List.getElem?_append_left (by rw [h.len]; exact h3)] at hq
      exact h.apart i j f g p q hij h2 h4 hp hq ho hgz
    · rw [List.getElem?_append_left (by rw [h.len]; exact h1)] at hp
      rw [h3, ← h.len, List.getElem?_append_right (Nat.le_refl _)] at hq
      simp at hq; subst hq
      have := hold i f p h2 hp (.inl ho)
      intro he; simp at he; omega
    · rw [List.getElem?_append_left (by rw [h.len]; exact h3)] at hq
      rw [h1, ← h.len, List.getElem?_append_right (Nat.le_refl _)] at hp
      simp at hp; subst hp
      have := hold j g q h4 hq hgz
      intro he; simp at he; omega
    · omega

theorem grow_alloc (w : World) (ob : Obj) : Grow [] w (w.alloc ob) :=
  ⟨rfl, rfl, rfl, by simp, fun b hb _ => by show (w.heap.push ob)[b]? = _; rw [Array.getElem?_push, if_neg (by omega)]⟩
theorem cell?_alloc_at (w : World) (cs : Array Value) (t : TypeId) (j : Nat) : (w.alloc (.cells cs t)).cell? ⟨w.heap.size, j, none⟩ = cs[j]? := by
  have : (w.alloc (.cells cs t)).heap[w.heap.size]? = some (.cells cs t (0, 0)) := by show (w.heap.push _)[w.heap.size]? = _; simp
  unfold World.cell?; rw [this]; rfl
theorem frozen?_alloc_at (w : World) (cs : Array Value) (t : TypeId) (j : Nat) : (w.alloc (.cells cs t)).frozen? ⟨w.heap.size, j, none⟩ = false := by
  have : (w.alloc (.cells cs t)).heap[w.heap.size]? = some (.cells cs t (0, 0)) := by show (w.heap.push _)[w.heap.size]? = _; simp
  unfold World.frozen?; rw [this]; simp
/-- A new block of cells. -/
theorem Rep.alloc {w0 : World} {o : List Nat} {L : Locs} {m : MS} {w : World} (h : Rep w0 o L m w) {c : AV} {cs : List Value} (t : TypeId) (r : Nat) (hf : Fl L c cs) (all : Array Value)
    (hall : ∀ (j : Nat) (v : Value), cs[j]? = some v → all[j]? = some v) (hr : r ≤ all.size) :
    Rep w0 o (L ++ [(w.heap.size, 0)]) (m ++ [⟨true, c, r⟩]) (w.alloc (.cells all t)) := by
  refine h.push (grow_alloc _ _) (Nat.le_refl _) ⟨⟨cs, hf.sub (Ext.append _ _), fun j v hj => ?_⟩, fun _ => ⟨by simp, fun j hj => ?_⟩⟩
  · simp only [Nat.zero_add]; rw [cell?_alloc_at]; exact hall j v hj
  · simp only [Nat.zero_add]
    rw [cell?_alloc_at, frozen?_alloc_at]
    refine ⟨?_, rfl⟩
    have hlt : j < all.size := by
      rcases hj with hj | hj
      · have hl := Fl_length _ _ hf
        rw [← hl] at hj
        have := hall j _ (List.getElem?_eq_getElem hj)
        rcases Nat.lt_or_ge j all.size with h' | h'
        · exact h'
        · rw [Array.getElem?_eq_none h'] at this; cases this
      · simp at hj; omega
    rw [Array.getElem?_eq_getElem hlt]; rfl

/-- Cells written one behind the other. -/
theorem run_stores {P : Program} (b o : Nat) : ∀ (vs : List Value) (i : Nat) (w : World),
    (∀ j, j < vs.length → (w.cell? ⟨b, o + i + j, none⟩).isSome = true ∧ w.frozen? ⟨b, o + i + j, none⟩ = false) → (∀ v ∈ vs, v.oneCell' = true) →
    ∃ w', (storeCells ⟨b, o, none⟩ vs i).run P w = .ok () w' ∧ Grow [b] w w' ∧ w'.heap.size = w.heap.size ∧
      (∀ j v, vs[j]? = some v → w'.cell? ⟨b, o + i + j, none⟩ = some v) ∧
      (∀ (c : Nat) (k : Nat), ¬ (c = b ∧ o + i ≤ k ∧ k < o + i + vs.length) → w'.cell? ⟨c, k, none⟩ = w.cell? ⟨c, k, none⟩) ∧
      (∀ (c k : Nat), w'.frozen? ⟨c, k, none⟩ = w.frozen? ⟨c, k, none⟩)
  | [], i, w, _, _ => ⟨w, rfl, Grow.refl _ _, rfl, fun j v h => by simp at h, fun _ _ _ => rfl, fun _ _ => rfl⟩
  | v :: vs, i, w, hc, h1 => by
    have h0 := hc 0 (by simp)
    obtain ⟨u, hu⟩ := Option.isSome_iff_exists.1 h0.1
    simp only [Nat.add_zero] at hu h0
    have hadd : (⟨b, o, none⟩ : Addr).add i = ⟨b, o + i, none⟩ := by unfold Addr.add; split <;> simp_all
    have hst : (store ⟨b, o + i, none⟩ v).run P w = .ok () (w.setCell ⟨b, o + i, none⟩ v) := by
      rw [run_store P w _ v _ (h1 v (by simp)), hu]
      simp only
      rw [if_neg (by rw [h0.2]; simp)]
    have hfz : ∀ c k, (w.setCell ⟨b, o + i, none⟩ v).frozen? ⟨c, k, none⟩ = w.frozen? ⟨c, k, none⟩ := fun c k => World.frozen?_setCell ..
    obtain ⟨w', e1, e2, e3, e4, e5, e6⟩ := run_stores (P := P) b o vs (i + 1) (w.setCell ⟨b, o + i, none⟩ v) (fun j hj => by
      have := hc (j + 1) (by simpa using hj)
      rw [show o + (i + 1) + j = o + i + (j + 1) by omega]
      refine ⟨?_, by rw [hfz]; exact this.2⟩
      rw [World.cell?_setCell_other _ _ _ _ (by intro h; injection h with _ h _; omega)]
      exact this.1) (fun x hx => h1 x (by simp [hx]))
    refine ⟨w', ?_, ?_, by rw [e3]; simp, ?_, ?_, ?_⟩
    · simp only [storeCells, Sem.run_bind, hadd, hst, Result.andThen_ok]
      exact e1
    · refine Grow.trans (b := w.setCell ⟨b, o + i, none⟩ v) ⟨rfl, rfl, rfl, by simp, fun c hc' hn => ?_⟩ e2
      simp only [World.setCell, Array.getElem?_modify]
      rw [if_neg (by intro h; exact hn (by simp [h]))]
    · intro j x hj
      cases j with
      | zero =>
        simp at hj; subst hj
        rw [Nat.add_zero, e5 b (o + i) (by omega)]
        exact World.cell?_setCell_same _ _ _ hu
      | succ j =>
        have := e4 j x (by simpa using hj)
        rw [show o + i + (j + 1) = o + (i + 1) + j by omega]; exact this
    · intro c k hn
      simp only [List.length_cons] at hn
      rw [e5 c k (by omega)]
      refine World.cell?_setCell_other _ _ _ _ ?_
      intro h; injection h with h1 h2 h3; exact hn (by omega)
    · intro c k; rw [e6, hfz]
/-- A part of an entry that may be written is written. -/
theorem Rep.store {P : Program} {w0 : World} {o : List Nat} {L : Locs} {m : MS} {w : World} (h : Rep w0 o L m w) {id : Nat} {e : Ent} {p : Nat × Nat} {v : AV} {vs : List Value} {path : List Step} {k : AV → Prop}
    (hi : m[id]? = some e) (hp : L[id]? = some p) (ho : e.own = true) (hk : wrK e.c path v k) (hv : Fl L v vs) :
    ∃ c w', k c ∧ (storeCells ⟨p.1, p.2 + pathOff path, none⟩ vs).run P w = .ok () w' ∧ Rep w0 o L (m.set id ⟨true, c, e.cap⟩) w' := by
  have hk1 := h.ok id e p hi hp
  obtain ⟨cs, hf, hcs⟩ := hk1.cells
  obtain ⟨hlt, hown⟩ := hk1.own ho
  obtain ⟨c, pre, d, post, e1, e2, e3, e4, e5⟩ := wrK_parts path e.c v cs vs k hk hf hv
  have hl := Fl_length _ _ hf
  have hl2 := Fl_length _ _ e4
  have hszc : szA c = szA e.c := by
    rw [← hl, ← hl2, e1]; simp [e3]
  obtain ⟨w', f1, f2, f3, f4, f5, f6⟩ := run_stores (P := P) p.1 (p.2 + pathOff path) vs 0 w (fun j hj => by
    rw [show p.2 + pathOff path + 0 + j = p.2 + (pathOff path + j) by omega]
    exact hown (pathOff path + j) (.inl (by rw [← hl, e1]; simp; omega))) (Fl_oneCell v vs hv)
  simp only [Nat.add_zero] at f4 f5
  have hid : id < m.length := by
    rcases Nat.lt_or_ge id m.length with h' | h'
    · exact h'
    · rw [List.getElem?_eq_none h'] at hi; cases hi
  refine ⟨c, w', e5, f1, ?_⟩
  have hout : ∀ (i : Nat) (f : Ent) (q : Nat × Nat), i ≠ id → m[i]? = some f → L[i]? = some q → EntOk L w' f q := by
    intro i f q hne hif hiq
    have hkf := h.ok i f q hif hiq
    by_cases hz : f.own = true ∨ 0 < szA f.c
    · have hne2 : p.1 ≠ q.1 := h.apart id i e f p q (Ne.symm hne) hi hif hp hiq ho hz
      exact hkf.world (fun j x hx => ⟨by rw [f5 q.1 (q.2 + j) (fun hh => hne2 hh.1.symm)]; exact hx, f6 _ _⟩) (by omega)
    · obtain ⟨cs', g1, g2⟩ := hkf.cells
      have hl' := Fl_length _ _ g1
      have hnil : cs' = [] := by
        cases cs' with
        | nil => rfl
        | cons a b => simp at hl'; omega
      subst hnil
      exact ⟨⟨[], g1, fun j x hx => by simp at hx⟩, fun ho' => absurd (.inl ho') hz⟩
  refine ⟨?_, by simp [h.len], ?_, ?_, ?_⟩
  · exact h.grow.trans' f2 (fun k hk => by simp at hk; subst hk; exact h.own id e p hi hp ho)
  · intro i f q hif hiq
    by_cases hne : i = id
    · subst hne
      rw [List.getElem?_set_self hid] at hif
      cases hif
      rw [hp] at hiq; cases hiq
      refine ⟨⟨pre ++ vs ++ post, e4, fun j x hx => ?_⟩, fun _ => ⟨by omega, fun j hj => ?_⟩⟩
      · by_cases hin : pathOff path ≤ j ∧ j < pathOff path + vs.length
        · have : vs[j - pathOff path]? = some x := by
            rw [List.append_assoc, List.getElem?_append_right (by omega), List.getElem?_append_left (by omega)] at hx
            rw [← e2]; exact hx
          have := f4 (j - pathOff path) x this
          rw [show p.2 + j = p.2 + pathOff path + (j - pathOff path) by omega]; exact this
        · rw [f5 p.1 (p.2 + j) (by omega)]
          refine hcs j x ?_
          rw [e1]
          by_cases hj : j < pre.length
          · rw [List.append_assoc, List.getElem?_append_left hj] at hx ⊢; exact hx
          · rw [List.append_assoc, List.getElem?_append_right (by omega), List.getElem?_append_right (by omega)] at hx ⊢
            rw [e3]; exact hx
      · have hj' : j < szA e.c ∨ j < e.cap := by rw [hszc] at hj; exact hj
        obtain ⟨g1, g2⟩ := hown j hj'
        refine ⟨?_, by rw [f6]; exact g2⟩
        by_cases hin : pathOff path ≤ j ∧ j < pathOff path + vs.length
        · have hlt2 : j - pathOff path < vs.length := by omega
          have := f4 (j - pathOff path) _ (List.getElem?_eq_getElem hlt2)
          rw [show p.2 + j = p.2 + pathOff path + (j - pathOff path) by omega, this]; rfl
        · rw [f5 p.1 (p.2 + j) (by omega)]; exact g1
    · rw [List.getElem?_set_ne (Ne.symm hne)] at hif
      exact hout i f q hne hif hiq
  · intro i f q hif hiq hof
    by_cases hne : i = id
    · subst hne
      rw [hp] at hiq; cases hiq
      exact h.own i e p hi hp ho
    · rw [List.getElem?_set_ne (Ne.symm hne)] at hif
      exact h.own i f q hif hiq hof
  · intro i j f g q r hij hif hjg hiq hjr hof hgz
    have key : ∀ (i : Nat) (f : Ent), (m.set id ⟨true, c, e.cap⟩)[i]? = some f → ∃ f', m[i]? = some f' ∧ f'.own = f.own ∧ szA f'.c = szA f.c := by
      intro i f hif
      by_cases hne : i = id
      · subst hne
        rw [List.getElem?_set_self hid] at hif
        cases hif
        exact ⟨e, hi, ho, hszc.symm⟩
      · rw [List.getElem?_set_ne (Ne.symm hne)] at hif
        exact ⟨f, hif, rfl, rfl⟩
    obtain ⟨f', a1, a2, a3⟩ := key i f hif
    obtain ⟨g', b1, b2, b3⟩ := key j g hjg
    exact h.apart i j f' g' q r hij a1 b1 hiq hjr (by rw [a2]; exact hof) (by rw [b2, b3]; exact hgz)
end Go.Fw
