import Derived.Test.YtfkbgfpidolhhaaFwFresh
namespace Go.Fw
open Go
/-- the arguments as the callee sees them: the one block that they speak of is its first -/
def viewA (i : Nat) : AV → AV
  | .sl 0 p e lo len cap => .sl i p e lo len cap
  | a => a
def viewOk : AV → Bool
  | .sl 0 _ _ _ _ _ => true
  | a => below 0 a
theorem view_arg {L : Locs} {i : Nat} {p : Nat × Nat} (hp : L[i]? = some p) {a : AV} {v : Value} (hok : viewOk a = true) (h : Rv L (viewA i a) v) : Rv [p] a v := by
  have hb : below 0 a = true → viewA i a = a → Rv [p] a v := fun hb he => by
    rw [he] at h
    exact h.swap (S := fun j => j < 0) (fun j q hj hq => absurd hj (by omega)) (below_ok 0 _ hb)
  match a, hok, h, hb with
  | .sl 0 path e lo len cap, _, h, _ =>
    obtain ⟨x, h1, h2, h3⟩ := (show Rs L (.sl i path e lo len cap) v from h)
    refine ⟨x, h1, h2, ?_⟩
    rcases h3 with h3 | ⟨b, o, h4, h5⟩
    · exact .inl h3
    · rw [hp] at h4
      cases h4
      exact .inr ⟨_, _, rfl, h5⟩
  | .sl (k + 1) path e lo len cap, hok, _, hb => exact hb hok rfl
  | .raw _, hok, _, hb => exact hb hok rfl
  | .flt _ _, hok, _, hb => exact hb hok rfl
  | .cpx _ _ _, hok, _, hb => exact hb hok rfl
  | .st _, hok, _, hb => exact hb hok rfl
  | .ai _ _, hok, _, hb => exact hb hok rfl
  | .af _ _, hok, _, hb => exact hb hok rfl
  | .ac _ _, hok, _, hb => exact hb hok rfl
  | .ap _ _, hok, _, hb => exact hb hok rfl
  | .ptr _ _, hok, _, hb => exact hb hok rfl
  | .fn _ _, hok, _, hb => exact hb hok rfl
  | .ifc _ _, hok, _, hb => exact hb hok rfl
  | .tup _, hok, _, hb => exact hb hok rfl
  | .junk, hok, _, hb => exact hb hok rfl
theorem view_args {L : Locs} {i : Nat} {p : Nat × Nat} (hp : L[i]? = some p) : ∀ (args : List AV) (vs : List Value), (args.all viewOk) = true → RvL L (args.map (viewA i)) vs → RvL [p] args vs
  | [], _, _, h => h
  | a :: as, _, hok, ⟨v, r, h1, h2, h3⟩ => by
    rw [List.all_cons, Bool.and_eq_true] at hok
    exact ⟨v, r, h1, view_arg hp hok.1 h2, view_args hp as r hok.2 h3⟩
theorem view_rep {w0 w : World} {o : List Nat} {L : Locs} {m : MS} {i : Nat} {e : Ent} {p : Nat × Nat} (hR : Rep w0 o L m w) (hi : m[i]? = some e) (hp : L[i]? = some p) (hb : below 0 e.c = true) : Rep w [] [p] [⟨false, e.c, 0⟩] w := by
  refine rep_args rfl (fun j f hj => ?_) (fun j f q hj hq => ?_)
  · cases j with
    | zero => cases hj; rfl
    | succ j => simp at hj
  · cases j with
    | zero =>
      cases hj; cases hq
      obtain ⟨cs, h1, h2⟩ := (hR.ok i e p hi hp).cells
      exact ⟨⟨cs, h1.swap (S := fun j => j < 0) (fun j q hj hq => absurd hj (by omega)) _ _ (below_ok 0 _ hb), h2⟩, fun ho => by cases ho⟩
    | succ j => simp at hj
/-- A call that reads one block and answers what speaks of none. -/
theorem call_view0 {P : Program} {w0 : World} {f : Nat} {args args0 : List AV} {m : MS} {i : Nat} {e : Ent} {K : AV → MS → Prop} (hi : getE m i = some e) (ha : args = args0.map (viewA i)) (hok : args0.all viewOk = true) (hb : below 0 e.c = true)
    (h : ∀ w0, CallLeaf P w0 f args0 [⟨false, e.c, 0⟩] fun v _ => below 0 v = true ∧ K v m) : CallLeaf P w0 f args m K := by
  subst ha
  refine ⟨?_⟩
  intro o L w cargs hR hv
  rw [getE_eq] at hi
  obtain ⟨p, hp⟩ := hR.loc hi
  refine ((h w).out [] [p] w cargs (view_rep hR hi hp hb) (view_args hp _ _ hok hv)).mono ?_
  rintro e' w' ⟨v, a, m', L', rfl, hx, h2, h3, hbv, hk⟩
  refine ⟨v, a, m, L, rfl, Ext.refl L, ?_, hR.grown h3.grow, hk⟩
  exact h2.swap (S := fun j => j < 0) (fun j p hj hp => absurd hj (by omega)) (below_ok 0 _ hbv)
/-- the answer, seen from outside: the callee's second block is the first behind those that were there -/
def shV (n : Nat) : AV → AV
  | .sl (id + 1) p e lo len cap => .sl (n + id) p e lo len cap
  | .tup [.sl (id + 1) p e lo len cap, y] => .tup [.sl (n + id) p e lo len cap, y]
  | a => a
def shOkV : AV → Bool
  | .sl (_ + 1) _ _ _ _ _ => true
  | .tup [.sl (_ + 1) _ _ _ _ _, y] => below 0 y && notTup y
  | _ => false
theorem Rs_sl_shiftV {L L' : Locs} {q : Nat × Nat} {id e lo len cap : Nat} {p : List Step} {v : Value} (h : Rs (q :: L') (.sl (id + 1) p e lo len cap) v) : Rs (L ++ L') (.sl (L.length + id) p e lo len cap) v := by
  obtain ⟨a, h1, h2, h3⟩ := h
  refine ⟨a, h1, h2, ?_⟩
  rcases h3 with h3 | ⟨b, o, h4, h5⟩
  · exact .inl h3
  · refine .inr ⟨b, o, ?_, h5⟩
    rw [List.getElem?_append_right (by omega)]
    simpa using h4
theorem Rv_shiftV {L L' : Locs} {q : Nat × Nat} {a : AV} {v : Value} (hs : shOkV a = true) (h : Rv (q :: L') a v) : Rv (L ++ L') (shV L.length a) v := by
  match a, hs, h with
  | .sl (id + 1) p e lo len cap, _, h => exact Rs_sl_shiftV h
  | .tup [.sl (id + 1) p e lo len cap, y], hs, h =>
    simp only [shOkV, Bool.and_eq_true] at hs
    obtain ⟨ws, h1, u, r, h2, h3, u2, r2, h4, h5, h6⟩ := h
    exact ⟨ws, h1, u, r, h2, Rs_sl_shiftV h3, u2, r2, h4, Rn_below hs.1 h5, h6⟩
/-- A call that reads one block and answers with blocks of its own. -/
theorem call_view1 {P : Program} {w0 : World} {f : Nat} {args args0 : List AV} {m : MS} {i : Nat} {e : Ent} {K : AV → MS → Prop} (hi : getE m i = some e) (ha : args = args0.map (viewA i)) (hok : args0.all viewOk = true) (hb : below 0 e.c = true)
    (h : ∀ w0, CallLeaf P w0 f args0 [⟨false, e.c, 0⟩] fun v m' => ∃ news : MS, m' = ⟨false, e.c, 0⟩ :: news ∧ belowM 0 news = true ∧ (∀ e ∈ news, e.own = true ∨ szA e.c = 0) ∧ shOkV v = true ∧ K (shV m.length v) (m ++ news)) : CallLeaf P w0 f args m K := by
  subst ha
  refine ⟨?_⟩
  intro o L w cargs hR hv
  rw [getE_eq] at hi
  obtain ⟨p, hp⟩ := hR.loc hi
  refine ((h w).out [] [p] w cargs (view_rep hR hi hp hb) (view_args hp _ _ hok hv)).mono ?_
  rintro e' w' ⟨v, a, m', L', rfl, hx, h2, h3, news, rfl, hbm, hown, hsh, hk⟩
  have hR' := hR.grown h3.grow
  have hlen := hR.len
  have hl3 := h3.len
  cases L' with
  | nil => simp at hl3
  | cons q L' =>
    have hold : ∀ {i : Nat} {e : Ent} {p : Nat × Nat}, m[i]? = some e → L[i]? = some p → e.own = true ∨ 0 < szA e.c → p.1 < w.heap.size := by
      intro i e p hi hp hc
      have hok := hR.ok i e p hi hp
      rcases hc with hc | hc
      · exact (hok.own hc).1
      · obtain ⟨cs, h1, h2⟩ := hok.cells
        have hl := Fl_length _ _ h1
        have : cs[0]? = some (cs[0]'(by omega)) := List.getElem?_eq_getElem _
        exact cell?_lt (h2 0 _ this)
    have hnew : ∀ {i : Nat} {e : Ent} {p : Nat × Nat}, news[i]? = some e → L'[i]? = some p → e.own = true → w.heap.size ≤ p.1 := by
      intro i e p hi hp he
      rcases h3.own (i + 1) e p (by simpa using hi) (by simpa using hp) he with h | h
      · cases h
      · exact h
    have hno : ∀ {i : Nat} {e : Ent}, news[i]? = some e → e.own = true ∨ 0 < szA e.c → e.own = true := by
      intro i e hi hc
      rcases hown e (List.mem_of_getElem? hi) with h | h
      · exact h
      · rcases hc with hc | hc
        · exact hc
        · omega
    simp only [List.length_cons] at hl3
    refine ⟨v, shV m.length a, m ++ news, L ++ L', rfl, Ext.append L L', ?_, ?_, hk⟩
    · rw [← hlen]; exact Rv_shiftV hsh h2
    · refine ⟨hR'.grow, by simp [hlen]; omega, ?_, ?_, ?_⟩
      · intro i e p hi hp
        rcases Nat.lt_or_ge i m.length with hlt | hge
        · rw [List.getElem?_append_left hlt] at hi
          rw [List.getElem?_append_left (by omega)] at hp
          exact (hR'.ok i e p hi hp).ext (Ext.append L L')
        · rw [List.getElem?_append_right hge] at hi
          rw [List.getElem?_append_right (by omega), hlen] at hp
          have hok := h3.ok (i - m.length + 1) e p (by simpa using hi) (by simpa using hp)
          obtain ⟨cs, g1, g2⟩ := hok.cells
          exact ⟨⟨cs, g1.swap (S := fun j => j < 0) (fun j p hj hp => absurd hj (by omega)) _ _ (below_ok 0 _ (belowM_ok hbm _ _ hi)), g2⟩, hok.own⟩
      · intro i e p hi hp he
        rcases Nat.lt_or_ge i m.length with hlt | hge
        · rw [List.getElem?_append_left hlt] at hi
          rw [List.getElem?_append_left (by omega)] at hp
          exact hR'.own i e p hi hp he
        · rw [List.getElem?_append_right hge] at hi
          rw [List.getElem?_append_right (by omega), hlen] at hp
          exact .inr (Nat.le_trans hR.grow.size (hnew hi hp he))
      · intro i j e f p q' hij hi hj hp hq he hf
        rcases Nat.lt_or_ge i m.length with hlt | hge
        · rw [List.getElem?_append_left hlt] at hi
          rw [List.getElem?_append_left (by omega)] at hp
          rcases Nat.lt_or_ge j m.length with hlt2 | hge2
          · rw [List.getElem?_append_left hlt2] at hj
            rw [List.getElem?_append_left (by omega)] at hq
            exact hR'.apart i j e f p q' hij hi hj hp hq he hf
          · rw [List.getElem?_append_right hge2] at hj
            rw [List.getElem?_append_right (by omega), hlen] at hq
            have h1 := hold hi hp (.inl he)
            have h2 := hnew hj hq (hno hj hf)
            omega
        · rw [List.getElem?_append_right hge] at hi
          rw [List.getElem?_append_right (by omega), hlen] at hp
          rcases Nat.lt_or_ge j m.length with hlt2 | hge2
          · rw [List.getElem?_append_left hlt2] at hj
            rw [List.getElem?_append_left (by omega)] at hq
            have h1 := hold hj hq hf
            have h2 := hnew hi hp he
            omega
          · rw [List.getElem?_append_right hge2] at hj
            rw [List.getElem?_append_right (by omega), hlen] at hq
            exact h3.apart (i - m.length + 1) (j - m.length + 1) e f p q' (by omega) (by simpa using hi) (by simpa using hj) (by simpa using hp) (by simpa using hq) he hf
end Go.Fw
