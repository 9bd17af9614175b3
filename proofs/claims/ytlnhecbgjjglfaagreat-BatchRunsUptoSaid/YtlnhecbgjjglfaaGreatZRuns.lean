/- BatchRuns: the row (by size). -/
import Derived.Test.YtlnhecbgjjglfaaGreatRunsB
set_option linter.unusedVariables false
set_option linter.unusedSimpArgs false
namespace Go.Proofs.YtlnhecbgjjglfaaGreat.batchRunsUpto
open Go Go.Sh Go.Pl Go.Row Go.Gt Go.ChangeShapes Go.WideShapes Go.ChangeAt Go.RowKit
theorem own : ownKnob Tryz.prog.godebug = none := by kernel_rfl
theorem laidOut : laidOutB Tryz.prog = true := by kernel_rfl
def shape : G := (.pair (.sl 72 (.st (.pair .str (.pair (.st (.pair (.int .i64) (.pair (.int .i64) (.pair (.int .i64) (.pair (.int .i64) (.pair (.sl 16 (.st (.pair (.int .i64) (.pair (.int .i64) .unit)))) .unit)))))) .unit)))) (.pair .bytes (.pair (.st (.pair .bool (.pair (.int .i64) .unit))) .unit)))
theorem shape_ok : okA Tryz.prog shape [22, 23, 25] = true := by kernel_rfl
set_option maxRecDepth 100000 in
theorem contract (H : Type) (enc : TypeId × Value → H) (W : World) (base : Nat) (args : Array Value) (ds gs : List (DataW H)) (before : List MemPlace)
    (hval : ∀ (j : Nat) t v, Tryz.f3.params[j]? = some t → args[j]? = some v → Value.okWide Tryz.prog W .any base t v)
    (hW : DataW.Whole enc Tryz.prog Tryz.f3.params.toList Rows.batchRunsSpec.vars false W args.toList ds gs before) (hsz : (DataW.weightsEach Tryz.prog (Tryz.f3.params.toList ++ ([] : List TypeId)) (ds ++ gs)).all (· ≤ reachBytes) = true) (hk : Rows.uptoSmall H (ds ++ gs) = true) :
    Calls Tryz.prog 3 args W fun e W' => ∃ v, e = .returned v ∧ Rows.batchRunsSpec.post enc Tryz.prog Tryz.f3 false true false false W args v W' := by
  have hW' := hW
  obtain ⟨p, q, hA0, hV, rfl, hfz, hnd⟩ := hW
  have hA : DataW.TrodAll enc Tryz.prog W 0 (fun _ => true) true Tryz.f3.params.toList args.toList ds p := hA0
  rw [Tryz.params3] at hA hval hsz
  obtain ⟨rfl, rfl⟩ := trodVars_none hV
  obtain ⟨m, hr, hb⟩ := repA_of bulks shape_ok (fun j t v ht hv => hval j t v (by simpa using ht) (by simpa using hv)) hA (by simpa using hsz)
  replace hb := Nat.le_trans hb (show Rows.uptoBulkAll ds ≤ 1048576 by simpa [Rows.uptoSmall] using hk)
  obtain ⟨u0, us0, d0, ds0, p0, q0, hargs, rfl, rfl, _, y0⟩ := trodAll_cons hA
  obtain ⟨u1, us1, d1, ds1, p1, q1, rfl, rfl, rfl, _, y1⟩ := trodAll_cons y0
  obtain ⟨u2, us2, d2, ds2, p2, q2, rfl, rfl, rfl, _, y2⟩ := trodAll_cons y1
  obtain ⟨rfl, rfl, rfl⟩ := trodAll_nil y2
  clear hargs
  obtain ⟨m0, m1, ⟨m2, m3, ⟨⟩⟩, ⟨⟩⟩ := m
  obtain ⟨v0, _, e0, h0, hr⟩ := hr
  obtain ⟨v1, _, e1, h1, hr⟩ := hr
  obtain ⟨v2, _, e2, h2, hr⟩ := hr
  have hr' : _ = [] := hr
  subst hr'
  subst e2
  subst e1
  obtain rfl : args = #[v0, v1, v2] := by cases args; simp_all
  have k0 := h0
  obtain ⟨s0, ⟨⟩, _⟩ := h0
  obtain ⟨s1, ⟨⟩, r1, n1, z1⟩ := h1
  obtain ⟨_, rfl, h2⟩ := h2
  obtain ⟨_, _, rfl, ah2, h2⟩ := h2
  obtain ⟨⟩ := ah2
  obtain ⟨_, _, rfl, ah2, h2⟩ := h2
  obtain ⟨⟨⟩, w3⟩ := ah2
  obtain rfl := h2
  have walk := law_BatchRuns (w := W) k0 r1 n1 z1 w3 hb
  refine Calls.mono walk fun e W' he => ?_
  cases e with
  | returned v =>
    obtain ⟨r, rfl, rfl, hc⟩ := he
    exact ⟨_, rfl, post_true laidOut (by rw [Tryz.params3]; decide +kernel) hW' rfl (tb := 4) rfl Tryz.underlying4 ⟨rfl, rfl, rfl⟩ (hc.below (Nat.le_refl _) (fun k h => h.elim))⟩
  | panicked c => exact he.elim
  | outgrown => exact he.elim
theorem laid_met (os : Os) : laidMet Tryz.prog Rows.batchRunsUptoRow.laid ((World.holding Tryz.prog os ⟨#[], #[], []⟩).forCall (fun _ _ => 0) ⟨#[], #[.slice none 0 0, .slice none 0 0, .agg #[.bool false, .int .i64 0]], []⟩).memory :=
  laidMet_of_run' 8 (by kernel_rfl) (by kernel_rfl)
theorem reads (os : Os) {H : Type} (enc : TypeId × Value → H) : ∃ places, DataW.whole enc Tryz.prog ((World.holding Tryz.prog os ⟨#[], #[], []⟩).forCall (fun _ _ => 0) ⟨#[], #[.slice none 0 0, .slice none 0 0, .agg #[.bool false, .int .i64 0]], []⟩).memory Tryz.f3.params.toList Rows.batchRunsSpec.vars false (#[.slice none 0 0, .slice none 0 0, .agg #[.bool false, .int .i64 0]] : Array Value).toList 8 = some ([.nil, .nil, .agg [.lit (.bool false), .lit (.int .i64 0)]], [], places) :=
  ⟨[], by kernel_rfl⟩
set_option maxRecDepth 100000 in
theorem lifted (os : Os) (started : os.Started) (H : Type) (enc : TypeId × Value → H) (F : Stop.Interp) :
    ReturnsInHanded {} Tryz.checked os 3 .any ((Rows.OpenSpec.upto Rows.batchRunsSpec).preRow enc Tryz.prog Tryz.f3 Rows.batchRunsUptoRow.domain false Rows.batchRunsUptoRow.laid) (((Rows.OpenSpec.upto Rows.batchRunsSpec).at F).post enc Tryz.prog Tryz.f3 false true false false) := by
  obtain ⟨places, hx⟩ := reads os enc
  refine returnsInHanded_of_row (C := Tryz.checked) (s := (Rows.OpenSpec.upto Rows.batchRunsSpec)) own started (by kernel_rfl) Tryz.func3
    (witness_row_at (enc := enc) (C := Tryz.checked) false (World.holding Tryz.prog os ⟨#[], #[], []⟩) #[.slice none 0 0, .slice none 0 0, .agg #[.bool false, .int .i64 0]] rfl (by kernel_rfl) (by kernel_rfl) (by kernel_rfl)
      (OpenSpec.preRow_of_cond 8 hx (by kernel_rfl) (fun k hk => by cases hk; kernel_rfl) (by kernel_rfl) (laid_met os))) ?_
  intro W base args ds gs before hval hW _ hk hsz hL _ _
  exact contract H enc W base args ds gs before hval hW hsz (hk _ rfl)
theorem said : Rows.BatchRunsUptoSaid :=
  OpenClaim.holds_of_cond 3 Tryz.f3 rfl rfl rfl rfl rfl rfl rfl ⟨rfl, rfl, rfl, rfl, rfl⟩ rfl rfl rfl rfl rfl (by kernel_rfl) Tryz.func3 (by kernel_rfl)
    (of_decide_eq_true (by kernel_rfl)) (by unfold Func.isWrapper; first | (rw [if_pos (by decide +kernel)]; kernel_rfl) | (rw [if_neg (by decide +kernel)]; exact ⟨rfl, rfl⟩))
    (fun os started H enc _ F => by rw [OpenClaim.pre_eq_preRow]; exact lifted os started H enc F)
end Go.Proofs.YtlnhecbgjjglfaaGreat.batchRunsUpto
