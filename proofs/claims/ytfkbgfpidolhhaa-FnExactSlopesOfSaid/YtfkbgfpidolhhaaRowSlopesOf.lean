/- The law FnExactSlopesOf holds: whatever the input, it answers true and leaves its arguments alone. No condition. -/
import Derived.Test.YtfkbgfpidolhhaaSlop
import Derived.Test.YtfkbgfpidolhhaaRows
namespace Go.Proofs.Ytfkbgfpidolhhaa.fnExactSlopesOf
open Go.ChangeShapes Go.WideShapes Go.ChangeAt Go.RowKit Go.Fw
theorem own : ownKnob Try.prog.godebug = none := by kernel_rfl
theorem laid : laidOutB Try.prog = true := by kernel_rfl
set_option maxRecDepth 100000 in
theorem lifted (os : Os) (started : os.Started) (H : Type) (enc : TypeId × Value → H) :
    ReturnsInHanded {} Try.checked os 12 .any (Rows.fnExactSlopesOfSpec.pre6 enc Try.prog Try.f12 Rows.fnExactSlopesOfRow.domain false) (Rows.fnExactSlopesOfSpec.post enc Try.prog Try.f12 false true false false) := by
  refine returnsInHanded_of_change (C := Try.checked) own started (by kernel_rfl) Try.func12
    (ChangeSpec.witness6 (enc := enc) (C := Try.checked) false ⟨#[], #[.int .i64 0, .slice none 0 0], []⟩ 8 (by kernel_rfl) (by kernel_rfl) (by kernel_rfl) (by kernel_rfl)) ?_
  intro W base args ds gs before hval0 hW hcnd _
  have hval : ∀ (j : Nat) t v, Try.f12.params[j]? = some t → args[j]? = some v → Value.okWide Try.prog W .any base t v := hval0
  have hW' := hW
  obtain ⟨p, q, hA0, hV, rfl, hfz, hnd⟩ := hW
  have hA : DataW.TrodAll enc Try.prog W 0 (fun _ => true) true Try.f12.params.toList args.toList ds p := hA0
  rw [Try.params12] at hA hval
  obtain ⟨v0, vs0, d0, ds0, p0, q0, hargs, rfl, rfl, h0, r0⟩ := trodAll_cons hA
  obtain ⟨v1, vs1, d1, ds1, p1, q1, rfl, rfl, rfl, h1, r1⟩ := trodAll_cons r0
  obtain ⟨rfl, rfl, rfl⟩ := trodAll_nil r1
  obtain rfl : args = #[v0, v1] := by cases args; simp_all
  obtain ⟨rfl, rfl⟩ := trodVars_none hV
  obtain ⟨a0, rfl, rfl, rfl, w0⟩ := open_int Try.underlying2 (hval 0 2 v0 rfl rfl) h0
  obtain ⟨n1, c1, x1, k1, hx1, rv1, ok1, wf1, hm1, hc1⟩ := arg_ints Try.underlying26 Try.underlying2 (by kernel_rfl) (hval 1 26 v1 rfl rfl) h1
  clear hA0 hval0
  simp only [List.append_nil] at hW'
  have hrep : Rep W [] [k1] [⟨false, .ai n1 x1, 0⟩] W := by
    refine rep_args rfl (fun i e hi => ?_) (fun i e p hi hp => ?_)
    · exact match i, hi with
      | 0, h => by cases h; rfl
      | j + 1, h => by simp at h
    · exact match i, hi, hp with
      | 0, h, g => by cases h; cases g; exact ok1 _
      | j + 1, h, _ => by simp at h
  refine (law_calls (args := [AV.int a0, .sl 0 [] 1 0 n1 c1]) (c12 hx1 (fun _ => rfl)) hrep (⟨_, _, rfl, ⟨rfl, rfl⟩, ⟨_, _, rfl, rv1 _ 0 rfl, rfl⟩⟩)).mono fun e W' ⟨he, hg⟩ => ?_
  subst he
  exact ⟨_, rfl, post_law laid (by rw [Try.params12]; decide +kernel) hW' rfl hg (by kernel_rfl) Try.underlying4 rfl rfl rfl⟩
theorem over : Rows.fnExactSlopesOfRow.holds Try.pinned (OpenSpec.ofChange Rows.fnExactSlopesOfSpec) :=
  OpenClaim.holds_of_wide 12 Try.f12 rfl rfl rfl rfl rfl rfl rfl ⟨rfl, rfl, rfl, rfl, rfl⟩ rfl rfl rfl rfl rfl (by kernel_rfl) Try.func12 (by kernel_rfl)
    (of_decide_eq_true (by kernel_rfl)) (by unfold Func.isWrapper; first | (rw [if_pos (by decide +kernel)]; kernel_rfl) | (rw [if_neg (by decide +kernel)]; exact ⟨rfl, rfl⟩))
    (fun os started H enc _ => lifted os started H enc)
/-- The statement. -/
theorem proved : Rows.FnExactSlopesOfSaid :=
  over
#print axioms proved
end Go.Proofs.Ytfkbgfpidolhhaa.fnExactSlopesOf
