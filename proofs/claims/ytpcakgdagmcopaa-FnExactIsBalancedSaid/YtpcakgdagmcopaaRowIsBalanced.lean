/- The law FnExactIsBalanced holds: whatever the input, it answers true and leaves its arguments alone. No condition. -/
import Derived.Test.YtpcakgdagmcopaaBal2
import Derived.Test.YtpcakgdagmcopaaFwArgS
import Derived.Test.YtpcakgdagmcopaaRows
namespace Go.Proofs.Ytpcakgdagmcopaa.fnExactIsBalanced
open Go.ChangeShapes Go.WideShapes Go.ChangeAt Go.RowKit Go.Fw
theorem own : ownKnob Try.prog.godebug = none := by kernel_rfl
theorem laid : laidOutB Try.prog = true := by kernel_rfl
set_option maxRecDepth 100000 in
theorem lifted (os : Os) (started : os.Started) (H : Type) (enc : TypeId × Value → H) :
    ReturnsInHanded {} Try.checked os 3 .any (Rows.fnExactIsBalancedSpec.pre6 enc Try.prog Try.f3 Rows.fnExactIsBalancedRow.domain false) (Rows.fnExactIsBalancedSpec.post enc Try.prog Try.f3 false true false false) := by
  refine returnsInHanded_of_change (C := Try.checked) own started (by kernel_rfl) Try.func3
    (ChangeSpec.witness6 (enc := enc) (C := Try.checked) false ⟨#[], #[.slice none 0 0], []⟩ 8 (by kernel_rfl) (by kernel_rfl) (by kernel_rfl) (by kernel_rfl)) ?_
  intro W base args ds gs before hval0 hW hcnd _
  have hval : ∀ (j : Nat) t v, Try.f3.params[j]? = some t → args[j]? = some v → Value.okWide Try.prog W .any base t v := hval0
  have hW' := hW
  obtain ⟨p, q, hA0, hV, rfl, hfz, hnd⟩ := hW
  have hA : DataW.TrodAll enc Try.prog W 0 (fun _ => true) true Try.f3.params.toList args.toList ds p := hA0
  rw [Try.params3] at hA hval
  obtain ⟨v0, vs0, d0, ds0, p0, q0, hargs, rfl, rfl, h0, r0⟩ := trodAll_cons hA
  obtain ⟨rfl, rfl, rfl⟩ := trodAll_nil r0
  obtain rfl : args = #[v0] := by cases args; simp_all
  obtain ⟨rfl, rfl⟩ := trodVars_none hV
  obtain ⟨n0, c0, x0, k0, hx0, rv0, ok0, wf0, hm0, hc0⟩ := arg_floats Try.underlying22 Try.underlying36 (by kernel_rfl) (hval 0 22 v0 rfl rfl) h0
  clear hA0 hval0
  simp only [List.append_nil] at hW'
  have hrep : Rep W [] [k0] [⟨false, .af n0 x0, 0⟩] W := by
    refine rep_args rfl (fun i e hi => ?_) (fun i e p hi hp => ?_)
    · exact match i, hi with
      | 0, h => by cases h; rfl
      | j + 1, h => by simp at h
    · exact match i, hi, hp with
      | 0, h, g => by cases h; cases g; exact ok0 _
      | j + 1, h, _ => by simp at h
  refine (law_calls (args := [.sl 0 [] 1 0 n0 c0]) (law_IsBalanced hx0 wf0 (fun _ => rfl)) hrep (⟨_, _, rfl, rv0 _ 0 rfl, rfl⟩)).mono fun e W' ⟨he, hg⟩ => ?_
  subst he
  exact ⟨_, rfl, post_law laid (by rw [Try.params3]; decide +kernel) hW' rfl hg (by kernel_rfl) Try.underlying4 rfl rfl rfl⟩
theorem over : Rows.fnExactIsBalancedRow.holds Try.pinned (OpenSpec.ofChange Rows.fnExactIsBalancedSpec) :=
  OpenClaim.holds_of_wide 3 Try.f3 rfl rfl rfl rfl rfl rfl rfl ⟨rfl, rfl, rfl, rfl, rfl⟩ rfl rfl rfl rfl rfl (by kernel_rfl) Try.func3 (by kernel_rfl)
    (of_decide_eq_true (by kernel_rfl)) (by unfold Func.isWrapper; first | (rw [if_pos (by decide +kernel)]; kernel_rfl) | (rw [if_neg (by decide +kernel)]; exact ⟨rfl, rfl⟩))
    (fun os started H enc _ => lifted os started H enc)
/-- The statement. -/
theorem proved : Rows.FnExactIsBalancedSaid :=
  over
#print axioms proved
end Go.Proofs.Ytpcakgdagmcopaa.fnExactIsBalanced
