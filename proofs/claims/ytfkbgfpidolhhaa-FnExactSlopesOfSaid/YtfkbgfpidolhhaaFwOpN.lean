import Derived.Test.YtfkbgfpidolhhaaFwOp8
namespace Go.Fw
open Go
section
variable {P : Program} {w0 : World} {ow : List Nat} {Q : Exit → Act → World → Prop}
variable {o : Oper} {a : Act} {w : World} {L : Locs} {m : MS} {ts : TS} {K : AV → MS → Prop}

theorem lookN_mem {t f : Nat} : ∀ {l : List (Nat × Nat)}, lookN t l = some f → (t, f) ∈ l
  | (b, g) :: l, h => by
    simp only [lookN] at h
    split at h
    · rename_i e; cases h; subst e; simp
    · exact List.mem_cons_of_mem _ (lookN_mem h)
theorem Rs_ifc {t : Nat} {x : AV} {w : Value} (h : Rv L (.ifc t x) w) : ∃ v, w = .iface t v ∧ Rs L x v := h
theorem invOk_sound {name : String} {t : Nat} {r : Nat × Nat} (h : invOk P name t = some r) : r.1 = t ∧ bodyHas P r.2 = true ∧ ∃ e i mr, P.underlying t = some (.pointer e) ∧ P.info? t = some i ∧ i.methods.find? (·.name == name) = some mr ∧ mr.path.toList = [] ∧ mr.func = some (r.2, true) := by
  unfold invOk at h
  split at h
  · rename_i e i h1 h2
    split at h
    · rename_i mr h3
      split at h
      · rename_i f h4 h5
        split at h
        · rename_i h6
          cases h
          exact ⟨rfl, h6, e, i, mr, h1, h2, by rw [← Array.find?_toList]; exact h3, h4, h5⟩
        · cases h
      · cases h
    · cases h
  · cases h
theorem method_run {t f : Nat} {u : Value} {name : String} {e : TypeId} {i : TypeInfo} {mr : Method} (hn : 0 < P.types.size) (h1 : P.underlying t = some (.pointer e)) (h2 : P.info? t = some i)
    (h3 : i.methods.find? (·.name == name) = some mr) (h4 : mr.path = #[]) (h5 : mr.func = some (f, true)) : (method (P.types.size + Made.depth) t u name).run P w = .ok (f, u) w := by
  obtain ⟨k, hk⟩ : ∃ k, P.types.size + Made.depth = k + 1 := ⟨P.types.size + Made.depth - 1, by omega⟩
  rw [hk]
  simp only [method, typeInfo, Sem.run_bind, run_program, Result.andThen_ok, h2, Sem.run_pure, h3, h4, h5, follow, receiverAt, run_und h1, Place.get]
theorem front_get (v : Value) (xs : Array Value) : (#[v] ++ xs)[0]? = some v := by
  rw [Array.getElem?_append_left (by simp)]; rfl
theorem front_rest (v : Value) (xs : Array Value) : (#[v] ++ xs).extract 1 (#[v] ++ xs).size = xs := by
  apply Array.ext'
  rw [Array.toList_extract]
  simp
  rw [List.take_of_length_le (by simp)]
theorem s_inv (hR : Rep w0 ow L m w) (hr : RelT L ts a) {c : Call} {x : Operand} {name : String} {dx : DOpd} {ds : List DOpd} (ho : o.op = .call c) (hc : c.callee = .invoke x name) (hx0 : opdA x = some dx)
    (hx : allSome opdA c.args.toList = some ds) (h : aop P w0 (.inv dx ((List.range P.types.size).filterMap (invOk P name)) ds) ts m K) : o.wp P a w (Post w0 ow L o a K) Q := by
  simp only [aop, evK_eq, evLK_eq] at h
  have hv := allSome_eval hr _ _ hx
  have hxv := opdA_sound hr hx0
  have hargs : c.args.map a.eval = (c.args.toList.map a.eval).toArray := map_lists _ _
  split at h
  · rename_i t v e
    rw [e] at hxv
    obtain ⟨u, he, hu⟩ := Rs_ifc hxv
    split at h
    · rename_i f hf
      have hmem := lookN_mem hf
      rw [List.mem_filterMap] at hmem
      obtain ⟨t', ht', hok⟩ := hmem
      obtain ⟨rfl, hb0, el, i, mr, h1, h2, h3, h4, h5⟩ := invOk_sound hok
      have ht := List.mem_range.1 ht'
      have h := h.out
      have hcall := h ow L w (u :: c.args.toList.map a.eval) hR ⟨u, _, rfl, Rv_of_Rn (Rn_of_scalar (by cases v <;> first | rfl | simp [Rs] at hu) hu), hv⟩
      refine wp_enter (w' := w) (f := f) (args := (u :: c.args.toList.map a.eval).toArray) ?_ ?_
      · unfold bodyHas at hb0
        split at hb0
        · rename_i fn hfn
          simp only [Bool.and_eq_true, bne_iff_ne, ne_eq] at hb0
          have hb : fn.body.isNone = false := by
            have h0 := hb0.1
            cases hbb : fn.body with
            | none => rw [hbb] at h0; cases h0
            | some _ => rfl
          have hpa : mr.path = #[] := by rw [← Array.toArray_toList (xs := mr.path), h4]
          have hme : (method (P.types.size + Made.depth) t u name).run P w = .ok (f, u) w := method_run (Nat.lt_of_le_of_lt (Nat.zero_le _) ht) h1 h2 h3 hpa h5
          have hcf : (callFunc f (u :: c.args.toList.map a.eval).toArray).run P w = .ok (.enter f (u :: c.args.toList.map a.eval).toArray) w := by
            simp only [callFunc, Sem.run_bind, run_program, Result.andThen_ok, hfn]
            rw [if_neg (by rw [beq_iff_eq]; exact hb0.2), if_neg (by rw [hb]; simp)]
            rfl
          simp only [execOp, ho, resolve, hc, Sem.run_bind, Sem.run_pure, Result.andThen_ok, invoke, he]
          have e0 := front_get (Value.iface t u) (c.args.map a.eval)
          have e1 := front_rest (Value.iface t u) (c.args.map a.eval)
          have e2 : (#[u] ++ c.args.map a.eval) = (u :: c.args.toList.map a.eval).toArray := by rw [hargs]; simp
          rw [e0]
          simp only [e1, callMethod, Sem.run_bind, run_program, Result.andThen_ok, hme, e2, hcf]
        · cases hb0
      · refine hcall.mono ?_
        rintro e w'' ⟨v, av, m', L', he, h1, h2, h3, h4⟩
        exact ⟨v, he, v, av, m', L', rfl, h1, h2, h3, h4⟩
    · exact h.elim
  · exact h.elim
theorem s_snl (hR : Rep w0 ow L m w) (hr : RelT L ts a) {t yt el : TypeId} {x : Operand} {dx : DOpd} (ho : o.op = .binOp .eql t x (.const (.slice none 0 0)) yt) (hu : P.underlying t = some (.slice el))
    (hx : opdA x = some dx) (h : aop P w0 (.snl dx) ts m K) : o.wp P a w (Post w0 ow L o a K) Q := by
  simp only [aop, evK_eq] at h
  have hxv := opdA_sound hr hx
  split at h
  · rename_i id p esz lo n cap e
    rw [e] at hxv
    obtain ⟨hc, hK⟩ := h
    have hc := side_out hc
    obtain ⟨ad, hp, _, had⟩ := Rs_sl hxv
    rcases had with h0 | ⟨b, off, _, rfl⟩
    · omega
    refine post_pure hR (v := .bool false) (bin_run ho hp (show a.eval (.const (.slice none 0 0)) = .slice none 0 0 from rfl) (.inl (by simp)) (by simp) ?_) (av := .raw (.bool false)) ⟨rfl, rfl⟩ hK
    obtain ⟨k, hk⟩ : ∃ k, Op.maxDepth = k + 1 := ⟨Op.maxDepth - 1, by decide⟩
    have he : ∀ (x : Addr), (Op.equalIn (k + 1) t (.slice (some x) n cap) (.slice none 0 0)).run P w = .ok false w := by
      intro x
      unfold Op.equalIn
      simp only [Sem.run_bind, run_und hu, Result.andThen_ok]
      rfl
    simp only [binOp, Op.equal, hk, Sem.run_bind, he, Result.andThen_ok, Sem.run_pure]
  · exact h.elim
theorem byte_at (s : ByteArray) (n : Nat) : s[n]? = s.data.toList[n]? := by
  simp only [getElem?_def]
  rfl
theorem s_six (hR : Rep w0 ow L m w) (hr : RelT L ts a) {t : TypeId} {s : ByteArray} {y : Operand} {dy : DOpd} (ho : o.op = .index t (.const (.string s)) y) (hu : P.underlying t = some .string)
    (hy : opdA y = some dy) (h : aop P w0 (.six (s.data.toList.map UInt8.toNat) dy) ts m K) : o.wp P a w (Post w0 ow L o a K) Q := by
  simp only [aop, evK_eq] at h
  have hyv := opdA_sound hr hy
  split at h
  · rename_i k i e2
    rw [e2] at hyv
    have hq := Rs_raw hyv
    obtain ⟨hb, hK⟩ := h
    obtain ⟨hb1, hb2⟩ := side_out hb
    obtain ⟨n, rfl⟩ : ∃ n : Nat, i = n := ⟨i.toNat, by omega⟩
    rw [List.length_map] at hb2
    have hn : n < s.data.toList.length := by omega
    refine post_pure hR (v := .int .u8 (nthB (s.data.toList.map UInt8.toNat) n)) ?_ (av := .raw (.int .u8 (nthB (s.data.toList.map UInt8.toNat) n))) ⟨rfl, rfl⟩ hK
    have hb : s[n]? = some (s.data.toList[n]'hn) := by rw [byte_at, List.getElem?_eq_getElem hn]
    have hv : nthB (s.data.toList.map UInt8.toNat) n = ((s.data.toList[n]'hn).toNat : Nat) := by
      unfold nthB
      simp [List.getD_eq_getElem?_getD, List.getElem?_eq_getElem hn]
    simp only [execOp, ho, hq, Instr.index, asIntOf, Sem.run_bind, Sem.run_pure, run_und hu, Result.andThen_ok, show a.eval (.const (.string s)) = .string s from rfl]
    rw [if_pos hb1]
    simp only [Int.toNat_natCast, hb, hv]
    rfl
  · exact h.elim
theorem look_next : Extern.allNextRows.lookup "math.archFloor" = none := by kernel_rfl
theorem look_origin : Extern.allNextRows.lookup "" = none := by kernel_rfl
theorem look_floor : Extern.allRows.lookup "math.archFloor" = some (Extern.MathFloor.toIntegral "math.archFloor" .down) := by kernel_rfl
theorem look_floor2 : Extern.allGenericRows.lookup "math.archFloor" = none := by kernel_rfl
theorem look_floor3 : Extern.allTypedRows.lookup "math.archFloor" = none := by kernel_rfl
theorem find_floor {fn : Func} (hn : fn.name = "math.archFloor") (ho : fn.origin = "") : Extern.findNext fn = none ∧ Extern.find fn = some (Extern.MathFloor.toIntegral "math.archFloor" .down) := by
  refine ⟨?_, ?_⟩
  · simp only [Extern.findNext, hn, ho, look_next, look_origin, Option.map_none]; rfl
  · simp only [Extern.find, hn, look_floor, look_floor2, look_floor3, Option.map_none]; rfl
theorem toIntegral_run {x : Nat} (hx : (FloatKind.f64.decode x).isNaN = false) : (Extern.MathFloor.toIntegral "math.archFloor" .down #[.float .f64 x]).run P w = .ok (.float .f64 (FloatKind.f64.encode ((FloatKind.f64.decode x).integral .down))) w := by
  show (match FloatKind.f64.decode x with
    | .nan s t =>
      if FloatKind.f64.format.quiet t = t then pure (.float .f64 x) else do
      let kept ← choose (.extern "math.Floor,Ceil,Trunc,RoundToEven.signallingNaN kept" 2)
      pure (.float .f64 (if kept == 1 then x else FloatKind.f64.encode (.nan s (FloatKind.f64.format.quiet t))))
    | d => pure (.float .f64 (FloatKind.f64.encode (d.integral .down))) : Sem Value).run P w = _
  cases hd : FloatKind.f64.decode x with
  | nan s t => rw [hd] at hx; simp [Ieee.Datum.isNaN] at hx
  | _ => rfl
theorem s_flo (hR : Rep w0 ow L m w) (hr : RelT L ts a) {c : Call} {f : Nat} {fn : Func} {ds : List DOpd} (ho : o.op = .call c) (hc : c.callee = .value (.func f)) (hfn : P.funcs[f]? = some fn) (hb : fn.body.isNone = true) (hn : fn.name = "math.archFloor") (hor : fn.origin = "")
    (hx : allSome opdA c.args.toList = some ds) (h : aop P w0 (.flo ds) ts m K) : o.wp P a w (Post w0 ow L o a K) Q := by
  simp only [aop] at h
  split at h
  · rename_i dx
    simp only [evK_eq] at h
    split at h
    · rename_i b e
      obtain ⟨h0, h⟩ := h
      have h0 := side_out h0
      have hv := allSome_eval hr _ _ hx
      obtain ⟨u, r, h1, h2, h3⟩ := hv
      simp only [List.map_nil, RvL] at h3
      subst h3
      rw [e] at h2
      obtain ⟨b1, rfl, hb1⟩ := Rs_flt h2
      have hnan : (FloatKind.f64.decode b1).isNaN = false := by
        cases hq : (FloatKind.f64.decode b1).isNaN with
        | false => rfl
        | true => rw [← hb1, canon_nan hq, nanW_nan] at h0; cases h0
      have hbb : b = b1 := by rw [← hb1]; exact canon_num' hnan
      subst hbb
      have hargs : c.args.map a.eval = #[.float .f64 b] := by rw [map_lists, h1]
      refine post_pure hR (v := .float .f64 (FloatKind.f64.encode ((FloatKind.f64.decode b).integral .down))) ?_ (av := .flt .f64 (flF b)) ⟨_, rfl, rfl⟩ h
      obtain ⟨g1, g2⟩ := find_floor hn hor
      have hcf : (callFunc f #[.float .f64 b]).run P w = .ok (.value (.float .f64 (FloatKind.f64.encode ((FloatKind.f64.decode b).integral .down)))) w := by
        simp only [callFunc, Sem.run_bind, run_program, Result.andThen_ok, hfn]
        rw [if_neg (by rw [beq_iff_eq, hn]; decide), if_pos hb]
        simp only [g1, g2, Sem.run_bind, toIntegral_run hnan, Result.andThen_ok, Sem.run_pure]
        rfl
      simp only [execOp, ho, resolve, hc, Act.eval, Deferred.ofValue, Sem.run_bind, Sem.run_pure, Result.andThen_ok, invoke, hargs, Array.append_empty, Array.empty_append]
      exact hcf
    · exact h.elim
  · exact h.elim
end
end Go.Fw
