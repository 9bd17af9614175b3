/- VmSteps: the row. -/
import Derived.Test.YtlkgnfpjmafdkaaVSteps
set_option linter.unusedVariables false
set_option linter.unusedSimpArgs false
namespace Go.Proofs.Ytlkgnfpjmafdkaa.vmSteps
open Go Go.Sh Go.Pl Go.Row Go.Gt Go.ChangeShapes Go.WideShapes Go.ChangeAt Go.RowKit
theorem own : ownKnob Try.prog.godebug = none := by kernel_rfl
theorem laidOut : laidOutB Try.prog = true := by kernel_rfl
def shape : G := (.pair (.st (.pair (.st (.pair (.int .i64) (.pair (.int .i64) (.pair (.int .i64) (.pair (.int .i64) (.pair (.sl 16 (.st (.pair (.int .i64) (.pair (.int .i64) .unit)))) .unit)))))) (.pair (.sl 8 (.int .i64)) (.pair (.sl 16 (.st (.pair .bool (.pair (.int .i64) .unit)))) .unit)))) (.pair (.st (.pair (.st (.pair (.int .i64) (.pair (.int .i64) (.pair (.int .i64) (.pair (.int .i64) (.pair (.sl 16 (.st (.pair (.int .i64) (.pair (.int .i64) .unit)))) .unit)))))) (.pair (.sl 8 (.int .i64)) (.pair (.sl 16 (.st (.pair .bool (.pair (.int .i64) .unit)))) .unit)))) (.pair (.sl 8 (.int .i64)) .unit)))
theorem shape_ok : okA Try.prog shape [28, 28, 29] = true := by kernel_rfl
set_option maxRecDepth 100000 in
theorem contract (H : Type) (enc : TypeId × Value → H) (W : World) (base : Nat) (args : Array Value) (ds gs : List (DataW H)) (before : List MemPlace)
    (hval : ∀ (j : Nat) t v, Try.f3.params[j]? = some t → args[j]? = some v → Value.okWide Try.prog W .any base t v)
    (hW : DataW.Whole enc Try.prog Try.f3.params.toList Rows.vmStepsSpec.vars false W args.toList ds gs before) (hsz : (DataW.weightsEach Try.prog (Try.f3.params.toList ++ ([] : List TypeId)) (ds ++ gs)).all (· ≤ reachBytes) = true) :
    Calls Try.prog 3 args W fun e W' => ∃ v, e = .returned v ∧ Rows.vmStepsSpec.post enc Try.prog Try.f3 false true false false W args v W' := by
  have hW' := hW
  obtain ⟨p, q, hA0, hV, rfl, hfz, hnd⟩ := hW
  have hA : DataW.TrodAll enc Try.prog W 0 (fun _ => true) true Try.f3.params.toList args.toList ds p := hA0
  rw [Try.params3] at hA hval hsz
  obtain ⟨rfl, rfl⟩ := trodVars_none hV
  obtain ⟨m, hr, hb⟩ := repA_of bulks shape_ok (fun j t v ht hv => hval j t v (by simpa using ht) (by simpa using hv)) hA (by simpa using hsz)
  obtain ⟨u0, us0, d0, ds0, p0, q0, hargs, rfl, rfl, _, y0⟩ := trodAll_cons hA
  obtain ⟨u1, us1, d1, ds1, p1, q1, rfl, rfl, rfl, _, y1⟩ := trodAll_cons y0
  obtain ⟨u2, us2, d2, ds2, p2, q2, rfl, rfl, rfl, _, y2⟩ := trodAll_cons y1
  obtain ⟨rfl, rfl, rfl⟩ := trodAll_nil y2
  clear hargs
  obtain ⟨⟨⟨m0, m1, m2, m3, m4, ⟨⟩⟩, m5, m6, ⟨⟩⟩, ⟨⟨m7, m8, m9, m10, m11, ⟨⟩⟩, m12, m13, ⟨⟩⟩, m14, ⟨⟩⟩ := m
  obtain ⟨v0, _, e0, h0, hr⟩ := hr
  obtain ⟨v1, _, e1, h1, hr⟩ := hr
  obtain ⟨v2, _, e2, h2, hr⟩ := hr
  have hr' : _ = [] := hr
  subst hr'
  subst e2
  subst e1
  obtain rfl : args = #[v0, v1, v2] := by cases args; simp_all
  obtain ⟨_, rfl, h0⟩ := h0
  obtain ⟨_, _, rfl, ah0, h0⟩ := h0
  obtain ⟨_, _, rfl, aah0, ah0⟩ := ah0
  obtain ⟨⟨⟩, w0⟩ := aah0
  obtain ⟨_, _, rfl, aah0, ah0⟩ := ah0
  obtain ⟨⟨⟩, w1⟩ := aah0
  obtain ⟨_, _, rfl, aah0, ah0⟩ := ah0
  obtain ⟨⟨⟩, w2⟩ := aah0
  obtain ⟨_, _, rfl, aah0, ah0⟩ := ah0
  obtain ⟨⟨⟩, w3⟩ := aah0
  obtain ⟨_, _, rfl, aah0, ah0⟩ := ah0
  have k4 := aah0
  obtain ⟨s4, ⟨⟩, _⟩ := aah0
  obtain rfl := ah0
  obtain ⟨_, _, rfl, ah0, h0⟩ := h0
  have k5 := ah0
  obtain ⟨s5, ⟨⟩, _⟩ := ah0
  obtain ⟨_, _, rfl, ah0, h0⟩ := h0
  have k6 := ah0
  obtain ⟨s6, ⟨⟩, _⟩ := ah0
  obtain rfl := h0
  obtain ⟨_, rfl, h1⟩ := h1
  obtain ⟨_, _, rfl, ah1, h1⟩ := h1
  obtain ⟨_, _, rfl, aah1, ah1⟩ := ah1
  obtain ⟨⟨⟩, w7⟩ := aah1
  obtain ⟨_, _, rfl, aah1, ah1⟩ := ah1
  obtain ⟨⟨⟩, w8⟩ := aah1
  obtain ⟨_, _, rfl, aah1, ah1⟩ := ah1
  obtain ⟨⟨⟩, w9⟩ := aah1
  obtain ⟨_, _, rfl, aah1, ah1⟩ := ah1
  obtain ⟨⟨⟩, w10⟩ := aah1
  obtain ⟨_, _, rfl, aah1, ah1⟩ := ah1
  have k11 := aah1
  obtain ⟨s11, ⟨⟩, _⟩ := aah1
  obtain rfl := ah1
  obtain ⟨_, _, rfl, ah1, h1⟩ := h1
  have k12 := ah1
  obtain ⟨s12, ⟨⟩, _⟩ := ah1
  obtain ⟨_, _, rfl, ah1, h1⟩ := h1
  have k13 := ah1
  obtain ⟨s13, ⟨⟩, _⟩ := ah1
  obtain rfl := h1
  have k14 := h2
  obtain ⟨s14, ⟨⟩, _⟩ := h2
  have walk := law_VmSteps (w := W) w0 w1 w2 w3 k4 k5 k6 w7 w8 w9 w10 k11 k12 k13 k14
  refine Calls.mono walk fun e W' he => ?_
  cases e with
  | returned v =>
    obtain ⟨r, rfl, rfl, hc⟩ := he
    exact ⟨_, rfl, post_true laidOut (by rw [Try.params3]; decide +kernel) hW' rfl (tb := 4) rfl Try.underlying4 ⟨rfl, rfl, rfl⟩ (hc.below (Nat.le_refl _) (fun k h => h.elim))⟩
  | panicked c => exact he.elim
  | outgrown => exact he.elim
theorem laid_met (os : Os) : laidMet Try.prog Rows.vmStepsRow.laid ((World.holding Try.prog os ⟨#[], #[], []⟩).forCall (fun _ _ => 0) ⟨#[], #[.agg #[.int .i64 0, .int .i64 0, .int .i64 0, .int .i64 0, .slice none 0 0, .slice none 0 0, .slice none 0 0], .agg #[.int .i64 0, .int .i64 0, .int .i64 0, .int .i64 0, .slice none 0 0, .slice none 0 0, .slice none 0 0], .slice none 0 0], []⟩).memory :=
  laidMet_of_run' 8 (by kernel_rfl) (by kernel_rfl)
theorem reads (os : Os) {H : Type} (enc : TypeId × Value → H) : ∃ places, DataW.whole enc Try.prog ((World.holding Try.prog os ⟨#[], #[], []⟩).forCall (fun _ _ => 0) ⟨#[], #[.agg #[.int .i64 0, .int .i64 0, .int .i64 0, .int .i64 0, .slice none 0 0, .slice none 0 0, .slice none 0 0], .agg #[.int .i64 0, .int .i64 0, .int .i64 0, .int .i64 0, .slice none 0 0, .slice none 0 0, .slice none 0 0], .slice none 0 0], []⟩).memory Try.f3.params.toList Rows.vmStepsSpec.vars false (#[.agg #[.int .i64 0, .int .i64 0, .int .i64 0, .int .i64 0, .slice none 0 0, .slice none 0 0, .slice none 0 0], .agg #[.int .i64 0, .int .i64 0, .int .i64 0, .int .i64 0, .slice none 0 0, .slice none 0 0, .slice none 0 0], .slice none 0 0] : Array Value).toList 8 = some ([.agg [.agg [.lit (.int .i64 0), .lit (.int .i64 0), .lit (.int .i64 0), .lit (.int .i64 0), .nil], .nil, .nil], .agg [.agg [.lit (.int .i64 0), .lit (.int .i64 0), .lit (.int .i64 0), .lit (.int .i64 0), .nil], .nil, .nil], .nil], [], places) :=
  ⟨[], by kernel_rfl⟩
set_option maxRecDepth 100000 in
theorem lifted (os : Os) (started : os.Started) (H : Type) (enc : TypeId × Value → H) (F : Stop.Interp) :
    ReturnsInHanded {} Try.checked os 3 .any ((OpenSpec.ofChange Rows.vmStepsSpec).preRow enc Try.prog Try.f3 Rows.vmStepsRow.domain false Rows.vmStepsRow.laid) (((OpenSpec.ofChange Rows.vmStepsSpec).at F).post enc Try.prog Try.f3 false true false false) := by
  obtain ⟨places, hx⟩ := reads os enc
  refine returnsInHanded_of_row (C := Try.checked) (s := (OpenSpec.ofChange Rows.vmStepsSpec)) own started (by kernel_rfl) Try.func3
    (witness_row_at (enc := enc) (C := Try.checked) false (World.holding Try.prog os ⟨#[], #[], []⟩) #[.agg #[.int .i64 0, .int .i64 0, .int .i64 0, .int .i64 0, .slice none 0 0, .slice none 0 0, .slice none 0 0], .agg #[.int .i64 0, .int .i64 0, .int .i64 0, .int .i64 0, .slice none 0 0, .slice none 0 0, .slice none 0 0], .slice none 0 0] rfl (by kernel_rfl) (by kernel_rfl) (by kernel_rfl)
      (OpenSpec.preRow_of_cond 8 hx (by kernel_rfl) (fun k hk => by cases hk) (by kernel_rfl) (laid_met os))) ?_
  intro W base args ds gs before hval hW _ hk hsz hL _ _
  exact contract H enc W base args ds gs before hval hW hsz
theorem said : Rows.VmStepsSaid :=
  OpenClaim.holds_of_cond 3 Try.f3 rfl rfl rfl rfl rfl rfl rfl ⟨rfl, rfl, rfl, rfl, rfl⟩ rfl rfl rfl rfl rfl (by kernel_rfl) Try.func3 (by kernel_rfl)
    (of_decide_eq_true (by kernel_rfl)) (by unfold Func.isWrapper; first | (rw [if_pos (by decide +kernel)]; kernel_rfl) | (rw [if_neg (by decide +kernel)]; exact ⟨rfl, rfl⟩))
    (fun os started H enc _ F => by rw [OpenClaim.pre_eq_preRow]; exact lifted os started H enc F)
end Go.Proofs.Ytlkgnfpjmafdkaa.vmSteps
