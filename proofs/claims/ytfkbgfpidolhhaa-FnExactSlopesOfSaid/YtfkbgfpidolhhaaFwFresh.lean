import Derived.Test.YtfkbgfpidolhhaaFwNum
namespace Go.Fw
open Go
/-- a slice's block, so many places on -/
def shA (n : Nat) : AV → AV
  | .sl id p e lo len cap => .sl (n + id) p e lo len cap
  | .tup [.sl id p e lo len cap, y] => .tup [.sl (n + id) p e lo len cap, y]
  | a => a
def shOk : AV → Bool
  | .sl _ _ _ _ _ _ => true
  | .tup [.sl _ _ _ _ _ _, y] => below 0 y && notTup y
  | _ => false
theorem Rs_sl_shift {L L' : Locs} {id e lo len cap : Nat} {p : List Step} {v : Value} (h : Rs L' (.sl id p e lo len cap) v) : Rs (L ++ L') (.sl (L.length + id) p e lo len cap) v := by
  obtain ⟨a, h1, h2, h3⟩ := h
  refine ⟨a, h1, h2, ?_⟩
  rcases h3 with h3 | ⟨b, o, h4, h5⟩
  · exact .inl h3
  · refine .inr ⟨b, o, ?_, h5⟩
    rw [List.getElem?_append_right (by omega)]
    simpa using h4
theorem Rn_below {L L' : Locs} {y : AV} {v : Value} (hb : below 0 y = true) (h : Rn L' y v) : Rn L y v :=
  h.swap (S := fun j => j < 0) (fun j p hj hp => absurd hj (by omega)) (below_ok 0 _ hb)
theorem Rv_shift {L L' : Locs} {a : AV} {v : Value} (hs : shOk a = true) (h : Rv L' a v) : Rv (L ++ L') (shA L.length a) v := by
  match a, hs, h with
  | .sl id p e lo len cap, _, h => exact Rs_sl_shift h
  | .tup [.sl id p e lo len cap, y], hs, h =>
    simp only [shOk, Bool.and_eq_true] at hs
    obtain ⟨ws, h1, u, r, h2, h3, u2, r2, h4, h5, h6⟩ := h
    exact ⟨ws, h1, u, r, h2, Rs_sl_shift h3, u2, r2, h4, Rn_below hs.1 h5, h6⟩
/-- A call whose arguments speak of no block, and that answers with blocks of its own: its walk may begin in an empty memory. -/
theorem call_fresh {P : Program} {w0 : World} {f : Nat} {args : List AV} {m : MS} {K : AV → MS → Prop} (hb : belowL 0 args = true)
    (h : ∀ w0, CallLeaf P w0 f args [] fun v m' => belowM 0 m' = true ∧ (∀ e ∈ m', e.own = true ∨ szA e.c = 0) ∧ shOk v = true ∧ K (shA m.length v) (m ++ m')) : CallLeaf P w0 f args m K := by
  refine ⟨?_⟩
  intro o L w cargs hR hv
  have hv0 : RvL [] args cargs := RvL.swap (S := fun j => j < 0) (fun j p hj hp => absurd hj (by omega)) _ _ (belowL_ok 0 _ hb) hv
  refine ((h w).out [] [] w cargs (rep_none w) hv0).mono ?_
  rintro e w' ⟨v, a, m', L', rfl, hx, h2, h3, hbm, hown, hsh, hk⟩
  have hR' := hR.grown h3.grow
  have hlen := hR.len
  have hold : ∀ {i : Nat} {e : Ent} {p : Nat × Nat}, m[i]? = some e → L[i]? = some p → e.own = true ∨ 0 < szA e.c → p.1 < w.heap.size := by
    intro i e p hi hp hc
    have hok := hR.ok i e p hi hp
    rcases hc with hc | hc
    · exact (hok.own hc).1
    · obtain ⟨cs, h1, h2⟩ := hok.cells
      have hl := Fl_length _ _ h1
      have : cs[0]? = some (cs[0]'(by omega)) := List.getElem?_eq_getElem _
      exact cell?_lt (h2 0 _ this)
  have hnew : ∀ {i : Nat} {e : Ent} {p : Nat × Nat}, m'[i]? = some e → L'[i]? = some p → e.own = true → w.heap.size ≤ p.1 := by
    intro i e p hi hp he
    rcases h3.own i e p hi hp he with h | h
    · cases h
    · exact h
  have hno : ∀ {i : Nat} {e : Ent}, m'[i]? = some e → e.own = true ∨ 0 < szA e.c → e.own = true := by
    intro i e hi hc
    rcases hown e (List.mem_of_getElem? hi) with h | h
    · exact h
    · rcases hc with hc | hc
      · exact hc
      · omega
  refine ⟨v, shA m.length a, m ++ m', L ++ L', rfl, Ext.append L L', ?_, ?_, hk⟩
  · rw [← hlen]; exact Rv_shift hsh h2
  · refine ⟨hR'.grow, by simp [hlen, h3.len], ?_, ?_, ?_⟩
    · intro i e p hi hp
      rcases Nat.lt_or_ge i m.length with hlt | hge
      · rw [List.getElem?_append_left hlt] at hi
        rw [List.getElem?_append_left (by omega)] at hp
        exact (hR'.ok i e p hi hp).ext (Ext.append L L')
      · rw [List.getElem?_append_right hge] at hi
        rw [List.getElem?_append_right (by omega), hlen] at hp
        have hok := h3.ok _ e p hi hp
        obtain ⟨cs, g1, g2⟩ := hok.cells
        exact ⟨⟨cs, g1.swap (S := fun j => j < 0) (fun j p hj hp => absurd hj (by omega)) _ _ (below_ok 0 _ (belowM_ok hbm _ _ hi)), g2⟩, hok.own⟩
    · intro i e p hi hp he
      rcases Nat.lt_or_ge i m.length with hlt | hge
      · rw [List.getElem?_append_left hlt] at hi
        rw [List.getElem?_append_left (by omega)] at hp
        exact hR'.own i e p hi hp he
      · rw [List.getElem?_append_right hge] at hi
        rw [List.getElem?_append_right (by omega), hlen] at hp
        exact .inr (Nat.le_trans hR.grow.size (hnew hi hp he))
    · intro i j e f p q hij hi hj hp hq he hf
      rcases Nat.lt_or_ge i m.length with hlt | hge
      · rw [List.getElem?_append_left hlt] at hi
        rw [List.getElem?_append_left (by omega)] at hp
        rcases Nat.lt_or_ge j m.length with hlt2 | hge2
        · rw [List.getElem?_append_left hlt2] at hj
          rw [List.getElem?_append_left (by omega)] at hq
          exact hR'.apart i j e f p q hij hi hj hp hq he hf
        · rw [List.getElem?_append_right hge2] at hj
          rw [List.getElem?_append_right (by omega), hlen] at hq
          have h1 := hold hi hp (.inl he)
          have h2 := hnew hj hq (hno hj hf)
          omega
      · rw [List.getElem?_append_right hge] at hi
        rw [List.getElem?_append_right (by omega), hlen] at hp
        rcases Nat.lt_or_ge j m.length with hlt2 | hge2
        · rw [List.getElem?_append_left hlt2] at hj
          rw [List.getElem?_append_left (by omega)] at hq
          have h1 := hold hj hq hf
          have h2 := hnew hi hp he
          omega
        · rw [List.getElem?_append_right hge2] at hj
          rw [List.getElem?_append_right (by omega), hlen] at hq
          exact h3.apart _ _ e f p q (by omega) hi hj hp hq he hf
/-- A call whose own blocks are forgotten behind it: what was there reads as it then reads. -/
theorem call_drop {P : Program} {w0 : World} {f : Nat} {args : List AV} {m : MS} {K : AV → MS → Prop}
    (h : CallLeaf P w0 f args m fun v m' => (m'.take m.length).length = m.length ∧ belowM m.length (m'.take m.length) = true ∧ below m.length v = true ∧ K v (m'.take m.length)) : CallLeaf P w0 f args m K := by
  have h := h.out
  refine ⟨?_⟩
  intro o L w cargs hR hv
  refine (h o L w cargs hR hv).mono ?_
  rintro e w' ⟨v, a, m', L', rfl, hx, h2, h3, hm, hbm, hb, hk⟩
  have hlen : L.length ≤ L'.length := by
    rcases Nat.eq_zero_or_pos L.length with h0 | h0
    · omega
    · have := hx (L.length - 1) _ (List.getElem?_eq_getElem (by omega))
      have := getElem?_lt this
      omega
  have hLt : L'.take m.length = L := by
    apply List.ext_getElem?
    intro i
    rw [← hR.len, List.getElem?_take]
    split
    · rename_i hi
      rw [List.getElem?_eq_getElem hi]
      exact hx i _ (List.getElem?_eq_getElem hi)
    · rename_i hi; rw [List.getElem?_eq_none (by omega)]
  have hag : Agree (fun j => j < m.length) L' L := fun j p hj hp => by
    rw [← hLt, List.getElem?_take, if_pos hj]; exact hp
  refine ⟨v, a, m'.take m.length, L, rfl, Ext.refl L, ?_, ?_, hk⟩
  · exact h2.swap hag (below_ok _ _ hb)
  · refine h3.reindex (fun k => k) (by rw [hm, hR.len]) (fun k e hk => ?_) (fun k p hk => hx k p hk) (fun _ _ _ _ h => h) (fun k e cs hk hf => ?_)
    · rw [List.getElem?_take] at hk
      split at hk
      · exact hk
      · cases hk
    · exact hf.swap hag _ _ (below_ok _ _ (belowM_ok hbm _ _ hk))
end Go.Fw
