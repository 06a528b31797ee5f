/- The law FnExactStepsOf holds: whatever the input, it answers true and leaves its arguments alone. No condition. -/
import Derived.Test.YtfoflddjcijaeaaPic12
import Derived.Test.YtfoflddjcijaeaaRows
namespace Go.Proofs.Ytfoflddjcijaeaa.fnExactStepsOf
open Go.ChangeShapes Go.WideShapes Go.ChangeAt Go.RowKit Go.Fw
theorem own : ownKnob Try.prog.godebug = none := by kernel_rfl
theorem laid : laidOutB Try.prog = true := by kernel_rfl
set_option maxRecDepth 100000 in
theorem lifted (os : Os) (started : os.Started) (H : Type) (enc : TypeId × Value → H) :
    ReturnsInHanded {} Try.checked os 10 .any (Rows.fnExactStepsOfSpec.pre6 enc Try.prog Try.f10 Rows.fnExactStepsOfRow.domain false) (Rows.fnExactStepsOfSpec.post enc Try.prog Try.f10 false true false false) := by
  refine returnsInHanded_of_change (C := Try.checked) own started (by kernel_rfl) Try.func10
    (ChangeSpec.witness6 (enc := enc) (C := Try.checked) false ⟨#[], #[.agg (#[.int .i64 0] ++ Array.replicate 64 (.float .f32 0)), .float .f32 0, .int .i64 0], []⟩ 8 (by kernel_rfl) (by kernel_rfl) (by kernel_rfl) (by kernel_rfl)) ?_
  intro W base args ds gs before hval0 hW hcnd _
  have hval : ∀ (j : Nat) t v, Try.f10.params[j]? = some t → args[j]? = some v → Value.okWide Try.prog W .any base t v := hval0
  have hW' := hW
  obtain ⟨p, q, hA0, hV, rfl, hfz, hnd⟩ := hW
  have hA : DataW.TrodAll enc Try.prog W 0 (fun _ => true) true Try.f10.params.toList args.toList ds p := hA0
  rw [Try.params10] at hA hval
  obtain ⟨v0, vs0, d0, ds0, p0, q0, hargs, rfl, rfl, h0, r0⟩ := trodAll_cons hA
  obtain ⟨v1, vs1, d1, ds1, p1, q1, rfl, rfl, rfl, h1, r1⟩ := trodAll_cons r0
  obtain ⟨v2, vs2, d2, ds2, p2, q2, rfl, rfl, rfl, h2, r2⟩ := trodAll_cons r1
  obtain ⟨rfl, rfl, rfl⟩ := trodAll_nil r2
  obtain rfl : args = #[v0, v1, v2] := by cases args; simp_all
  obtain ⟨rfl, rfl⟩ := trodVars_none hV
  obtain ⟨s0, x0, hx0, wf0, rv0⟩ := arg_pic Try.underlying25 (by kernel_rfl) (tI := 2) (tF := 22) (by kernel_rfl) Try.underlying2 Try.underlying22 (hval 0 25 v0 rfl rfl)
  obtain ⟨x1, wf1, rv1⟩ := arg_f32 Try.underlying22 (hval 1 22 v1 rfl rfl)
  obtain ⟨a2, rfl, rfl, rfl, w2⟩ := open_int Try.underlying2 (hval 2 2 v2 rfl rfl) h2
  clear hA0 hval0
  simp only [List.append_nil] at hW'
  refine (law_calls (args := [.st [AV.int s0, .af 64 x0], .flt .f32 x1, AV.int a2]) (law_StepsOf hx0 wf0 wf1 (fun _ => rfl)) (rep_none W) (⟨_, _, rfl, rv0 _, ⟨_, _, rfl, rv1 _, ⟨_, _, rfl, ⟨rfl, rfl⟩, rfl⟩⟩⟩)).mono fun e W' ⟨he, hg⟩ => ?_
  subst he
  exact ⟨_, rfl, post_law laid (by rw [Try.params10]; decide +kernel) hW' rfl hg (by kernel_rfl) Try.underlying4 rfl rfl rfl⟩
theorem over : Rows.fnExactStepsOfRow.holds Try.pinned (OpenSpec.ofChange Rows.fnExactStepsOfSpec) :=
  OpenClaim.holds_of_wide 10 Try.f10 rfl rfl rfl rfl rfl rfl rfl ⟨rfl, rfl, rfl, rfl, rfl⟩ rfl rfl rfl rfl rfl (by kernel_rfl) Try.func10 (by kernel_rfl)
    (of_decide_eq_true (by kernel_rfl)) (by unfold Func.isWrapper; first | (rw [if_pos (by decide +kernel)]; kernel_rfl) | (rw [if_neg (by decide +kernel)]; exact ⟨rfl, rfl⟩))
    (fun os started H enc _ => lifted os started H enc)
/-- The statement. -/
theorem proved : Rows.FnExactStepsOfSaid :=
  over
#print axioms proved
end Go.Proofs.Ytfoflddjcijaeaa.fnExactStepsOf
