/- BatchOne: the row. -/
import Derived.Test.YtlnhecbgjjglfaaBBack
set_option linter.unusedVariables false
set_option linter.unusedSimpArgs false
namespace Go.Proofs.Ytlnhecbgjjglfaa.batchOne
open Go Go.Sh Go.Pl Go.Row Go.Gt Go.ChangeShapes Go.WideShapes Go.ChangeAt Go.RowKit
theorem own : ownKnob Try.prog.godebug = none := by kernel_rfl
theorem laidOut : laidOutB Try.prog = true := by kernel_rfl
def shape : G := (.pair (.sl 72 (.st (.pair .str (.pair (.st (.pair (.int .i64) (.pair (.int .i64) (.pair (.int .i64) (.pair (.int .i64) (.pair (.sl 16 (.st (.pair (.int .i64) (.pair (.int .i64) .unit)))) .unit)))))) .unit)))) (.pair (.sl 80 (.st (.pair (.int .i64) (.pair (.sl 8 (.int .i64)) (.pair (.sl 16 (.st (.pair (.int .i64) (.pair (.int .i64) .unit)))) (.pair (.sl 16 (.st (.pair (.int .i64) (.pair (.int .i64) .unit)))) .unit)))))) .unit))
theorem shape_ok : okA Try.prog shape [41, 22] = true := by kernel_rfl
set_option maxRecDepth 100000 in
theorem contract (H : Type) (enc : TypeId × Value → H) (W : World) (base : Nat) (args : Array Value) (ds gs : List (DataW H)) (before : List MemPlace)
    (hval : ∀ (j : Nat) t v, Try.f9.params[j]? = some t → args[j]? = some v → Value.okWide Try.prog W .any base t v)
    (hW : DataW.Whole enc Try.prog Try.f9.params.toList Rows.batchOneSpec.vars false W args.toList ds gs before) (hsz : (DataW.weightsEach Try.prog (Try.f9.params.toList ++ ([] : List TypeId)) (ds ++ gs)).all (· ≤ reachBytes) = true) :
    Calls Try.prog 9 args W fun e W' => ∃ v, e = .returned v ∧ Rows.batchOneSpec.post enc Try.prog Try.f9 false true false false W args v W' := by
  have hW' := hW
  obtain ⟨p, q, hA0, hV, rfl, hfz, hnd⟩ := hW
  have hA : DataW.TrodAll enc Try.prog W 0 (fun _ => true) true Try.f9.params.toList args.toList ds p := hA0
  rw [Try.params9] at hA hval hsz
  obtain ⟨rfl, rfl⟩ := trodVars_none hV
  obtain ⟨m, hr, hb⟩ := repA_of bulks shape_ok (fun j t v ht hv => hval j t v (by simpa using ht) (by simpa using hv)) hA (by simpa using hsz)
  obtain ⟨u0, us0, d0, ds0, p0, q0, hargs, rfl, rfl, _, y0⟩ := trodAll_cons hA
  obtain ⟨u1, us1, d1, ds1, p1, q1, rfl, rfl, rfl, _, y1⟩ := trodAll_cons y0
  obtain ⟨rfl, rfl, rfl⟩ := trodAll_nil y1
  clear hargs
  obtain ⟨m0, m1, ⟨⟩⟩ := m
  obtain ⟨v0, _, e0, h0, hr⟩ := hr
  obtain ⟨v1, _, e1, h1, hr⟩ := hr
  have hr' : _ = [] := hr
  subst hr'
  subst e1
  obtain rfl : args = #[v0, v1] := by cases args; simp_all
  have k0 := h0
  obtain ⟨s0, ⟨⟩, _⟩ := h0
  have k1 := h1
  obtain ⟨s1, ⟨⟩, _⟩ := h1
  have walk := law_BatchOne (w := W) k0 k1
  refine Calls.mono walk fun e W' he => ?_
  cases e with
  | returned v =>
    obtain ⟨r, rfl, rfl, hc⟩ := he
    exact ⟨_, rfl, post_true laidOut (by rw [Try.params9]; decide +kernel) hW' rfl (tb := 4) rfl Try.underlying4 ⟨rfl, rfl, rfl⟩ (hc.below (Nat.le_refl _) (fun k h => h.elim))⟩
  | panicked c => exact he.elim
  | outgrown => exact he.elim
theorem laid_met (os : Os) : laidMet Try.prog Rows.batchOneRow.laid ((World.holding Try.prog os ⟨#[], #[], []⟩).forCall (fun _ _ => 0) ⟨#[], #[.slice none 0 0, .slice none 0 0], []⟩).memory :=
  laidMet_of_run' 8 (by kernel_rfl) (by kernel_rfl)
theorem reads (os : Os) {H : Type} (enc : TypeId × Value → H) : ∃ places, DataW.whole enc Try.prog ((World.holding Try.prog os ⟨#[], #[], []⟩).forCall (fun _ _ => 0) ⟨#[], #[.slice none 0 0, .slice none 0 0], []⟩).memory Try.f9.params.toList Rows.batchOneSpec.vars false (#[.slice none 0 0, .slice none 0 0] : Array Value).toList 8 = some ([.nil, .nil], [], places) :=
  ⟨[], by kernel_rfl⟩
set_option maxRecDepth 100000 in
theorem lifted (os : Os) (started : os.Started) (H : Type) (enc : TypeId × Value → H) (F : Stop.Interp) :
    ReturnsInHanded {} Try.checked os 9 .any ((OpenSpec.ofChange Rows.batchOneSpec).preRow enc Try.prog Try.f9 Rows.batchOneRow.domain false Rows.batchOneRow.laid) (((OpenSpec.ofChange Rows.batchOneSpec).at F).post enc Try.prog Try.f9 false true false false) := by
  obtain ⟨places, hx⟩ := reads os enc
  refine returnsInHanded_of_row (C := Try.checked) (s := (OpenSpec.ofChange Rows.batchOneSpec)) own started (by kernel_rfl) Try.func9
    (witness_row_at (enc := enc) (C := Try.checked) false (World.holding Try.prog os ⟨#[], #[], []⟩) #[.slice none 0 0, .slice none 0 0] rfl (by kernel_rfl) (by kernel_rfl) (by kernel_rfl)
      (OpenSpec.preRow_of_cond 8 hx (by kernel_rfl) (fun k hk => by cases hk) (by kernel_rfl) (laid_met os))) ?_
  intro W base args ds gs before hval hW _ hk hsz hL _ _
  exact contract H enc W base args ds gs before hval hW hsz
theorem said : Rows.BatchOneSaid :=
  OpenClaim.holds_of_cond 9 Try.f9 rfl rfl rfl rfl rfl rfl rfl ⟨rfl, rfl, rfl, rfl, rfl⟩ rfl rfl rfl rfl rfl (by kernel_rfl) Try.func9 (by kernel_rfl)
    (of_decide_eq_true (by kernel_rfl)) (by unfold Func.isWrapper; first | (rw [if_pos (by decide +kernel)]; kernel_rfl) | (rw [if_neg (by decide +kernel)]; exact ⟨rfl, rfl⟩))
    (fun os started H enc _ F => by rw [OpenClaim.pre_eq_preRow]; exact lifted os started H enc F)
end Go.Proofs.Ytlnhecbgjjglfaa.batchOne
