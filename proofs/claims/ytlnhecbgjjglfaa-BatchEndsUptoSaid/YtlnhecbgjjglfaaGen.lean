import Derived.Test.YtlnhecbgjjglfaaProg
import Derived.Test.YtlnhecbgjjglfaaSh
set_option linter.unusedVariables false
namespace Go.Proofs.Ytlnhecbgjjglfaa
open Go Go.Sh
-- 10 prelude/preluderef06.Parts; callees []
def sh_preluderef06_Parts (b_0 : Slc) (left_1 : Int) (w : World) (K : Int → World → Prop) : Prop :=
  loopP (σ := Int × Int × Unit) (fun st2 next1 w3 => (fun (left_4 : Int) (i_5 : Int) => iteB (decide ((i_5 : Int) < (b_0.l : Int)))
  (iteB (decide ((left_4 : Int) ≥ 0))
  (idxP b_0.a b_0.l i_5 4 fun a6 => ldS (a6.add 1) w3.drew fun s7 => idxP b_0.a b_0.l i_5 4 fun a8 => ldS (a8.add 2) w3.drew fun s9 => idxP b_0.a b_0.l i_5 4 fun a10 => ldS (a10.add 3) w3.drew fun s11 => next1 ((IntKind.i64.wrap ((IntKind.i64.wrap ((IntKind.i64.wrap ((IntKind.i64.wrap (left_4 - 1)) - (s7.l : Int))) - (s9.l : Int))) - (s11.l : Int))), (IntKind.i64.wrap (i_5 + 1)), ()) w3.drew)
  (K left_4 w3))
  (K left_4 w3)) st2.1 st2.2.1) (left_1, 0, ()) w

def c_preluderef06_Parts (b_0 : Slc) (left_1 : Int) (w : World) (K : Int → World → Prop) : Prop := Calls Try.prog 10 #[.slice b_0.a b_0.l b_0.c, .int .i64 left_1] w (onRet (fun v w' => ∃ (y0 : Int), v = .int .i64 y0 ∧ K y0 w'))

theorem sim_preluderef06_Parts {b_0 : Slc} {left_1 : Int} {w : World} {K : Int → World → Prop} (h : sh_preluderef06_Parts b_0 left_1 w K) : c_preluderef06_Parts b_0 left_1 w K := by
  have e : sh_preluderef06_Parts b_0 left_1 w K = shF Try.prog 10 ⟨[(4, [0, 1, 2, 3, 4, 5, 6, 7, 8, 9, 10, 11, 12, 13, 14, 15, 16, 17, 18, 19, 20, 21, 22, 23])], [(2, [(1, (.int .i64)), (5, (.int .i64))], [0])], []⟩ [.slice b_0.a b_0.l b_0.c, .int .i64 left_1] w (fun v w' => decV (.int .i64) v fun y0 => K y0 w') := by kernel_rfl
  exact Calls.mono (calls_of _ e h) (onRet_mono (fun _ _ h => decV_spec h))

-- 32 prelude/preludelaw06.ints; callees []
def sh_preludelaw06_ints (l_0 : Slc) (w : World) (K : Slc → World → Prop) : Prop :=
  iteB ((l_0.a).isNone)
  (K ⟨none, 0, 0⟩ w)
  (mkP Try.prog 64 (.int .i64 (IntKind.i64.wrap ((l_0.l : Int) + 3))) (.int .i64 (IntKind.i64.wrap ((l_0.l : Int) + 3))) w fun s1 w2 => cpP Try.prog #[64, 64] 3 [.slice s1.a s1.l s1.c, .slice l_0.a l_0.l l_0.c] w2 fun n4 w3 => loopP (σ := Int × Unit) (fun st6 next5 w7 => (fun (i_8 : Int) => iteB (decide ((i_8 : Int) < (s1.l : Int)))
  (idxP s1.a s1.l i_8 1 fun a9 => stP a9 (.int .i64 (-31)) w7 fun w10 => next5 ((IntKind.i64.wrap (i_8 + 1)), ()) w10)
  (slP s1.a s1.l s1.c none (some (l_0.l : Int)) 1 fun p11 l12 c13 => K ⟨p11, l12, c13⟩ w7)) st6.1) ((l_0.l : Int), ()) w3)

def c_preludelaw06_ints (l_0 : Slc) (w : World) (K : Slc → World → Prop) : Prop := Calls Try.prog 32 #[.slice l_0.a l_0.l l_0.c] w (onRet (fun v w' => ∃ (y0 : Slc), v = .slice y0.a y0.l y0.c ∧ K y0 w'))

theorem sim_preludelaw06_ints {l_0 : Slc} {w : World} {K : Slc → World → Prop} (h : sh_preludelaw06_ints l_0 w K) : c_preludelaw06_ints l_0 w K := by
  have e : sh_preludelaw06_ints l_0 w K = shF Try.prog 32 ⟨[], [(6, [(4, (.int .i64))], [0, 3])], []⟩ [.slice l_0.a l_0.l l_0.c] w (fun v w' => decV .sl v fun y0 => K y0 w') := by kernel_rfl
  exact Calls.mono (calls_of _ e h) (onRet_mono (fun _ _ h => decV_spec h))

-- 33 prelude/preludelaw06.keyList; callees []
def sh_preludelaw06_keyList (l_0 : Slc) (w : World) (K : Slc → World → Prop) : Prop :=
  iteB ((l_0.a).isNone)
  (K ⟨none, 0, 0⟩ w)
  (mkP Try.prog 30 (.int .i64 (IntKind.i64.wrap ((l_0.l : Int) + 3))) (.int .i64 (IntKind.i64.wrap ((l_0.l : Int) + 3))) w fun s1 w2 => cpP Try.prog #[30, 30] 3 [.slice s1.a s1.l s1.c, .slice l_0.a l_0.l l_0.c] w2 fun n4 w3 => loopP (σ := Int × Unit) (fun st6 next5 w7 => (fun (i_8 : Int) => iteB (decide ((i_8 : Int) < (s1.l : Int)))
  (idxP s1.a s1.l i_8 2 fun a9 => stP a9 (.int .i64 (-31)) w7 fun w10 => stP (a9.add 1) (.int .i64 0) w10 fun w11 => next5 ((IntKind.i64.wrap (i_8 + 1)), ()) w11)
  (slP s1.a s1.l s1.c none (some (l_0.l : Int)) 2 fun p12 l13 c14 => K ⟨p12, l13, c14⟩ w7)) st6.1) ((l_0.l : Int), ()) w3)

def c_preludelaw06_keyList (l_0 : Slc) (w : World) (K : Slc → World → Prop) : Prop := Calls Try.prog 33 #[.slice l_0.a l_0.l l_0.c] w (onRet (fun v w' => ∃ (y0 : Slc), v = .slice y0.a y0.l y0.c ∧ K y0 w'))

theorem sim_preludelaw06_keyList {l_0 : Slc} {w : World} {K : Slc → World → Prop} (h : sh_preludelaw06_keyList l_0 w K) : c_preludelaw06_keyList l_0 w K := by
  have e : sh_preludelaw06_keyList l_0 w K = shF Try.prog 33 ⟨[], [(6, [(4, (.int .i64))], [0, 3])], []⟩ [.slice l_0.a l_0.l l_0.c] w (fun v w' => decV .sl v fun y0 => K y0 w') := by kernel_rfl
  exact Calls.mono (calls_of _ e h) (onRet_mono (fun _ _ h => decV_spec h))

-- 11 prelude/preludelaw06.lent; callees ['preludelaw06_ints', 'preludelaw06_keyList']
def sh_preludelaw06_lent (c_preludelaw06_ints : Slc → World → (Slc → World → Prop) → Prop) (c_preludelaw06_keyList : Slc → World → (Slc → World → Prop) → Prop) (b_0 : Slc) (w : World) (K : Slc → World → Prop) : Prop :=
  iteB ((b_0.a).isNone)
  (K ⟨none, 0, 0⟩ w)
  (mkP Try.prog 22 (.int .i64 (IntKind.i64.wrap ((b_0.l : Int) + 3))) (.int .i64 (IntKind.i64.wrap ((b_0.l : Int) + 3))) w fun s1 w2 => loopP (σ := Int × Unit) (fun st4 next3 w5 => (fun (i_6 : Int) => iteB (decide ((i_6 : Int) < (s1.l : Int)))
  (idxP s1.a s1.l i_6 4 fun a7 => stP a7 (.int .i64 (-31)) w5 fun w8 => stP (a7.add 1) (.slice none 0 0) w8 fun w9 => stP (a7.add 2) (.slice none 0 0) w9 fun w10 => stP (a7.add 3) (.slice none 0 0) w10 fun w11 => next3 ((IntKind.i64.wrap (i_6 + 1)), ()) w11)
  (loopP (σ := Int × Unit) (fun st13 next12 w14 => (fun (i_15 : Int) => iteB (decide ((i_15 : Int) < (b_0.l : Int)))
  (idxP b_0.a b_0.l i_15 4 fun a16 => ldI .i64 a16 w14.drew fun n17 => idxP b_0.a b_0.l i_15 4 fun a18 => ldS (a18.add 1) w14.drew fun s19 => idxP b_0.a b_0.l i_15 4 fun a20 => ldS (a20.add 2) w14.drew fun s21 => idxP b_0.a b_0.l i_15 4 fun a22 => ldS (a22.add 3) w14.drew fun s23 => c_preludelaw06_ints s19 w14.drew fun r24 w25 => w25.cell? (a22.add 3) = some (.slice s23.a s23.l s23.c) ∧ w25.cell? (a20.add 2) = some (.slice s21.a s21.l s21.c) ∧ w25.cell? a16 = some (.int .i64 n17) ∧ (c_preludelaw06_keyList s21 w25 fun r26 w27 => w27.cell? (a22.add 3) = some (.slice s23.a s23.l s23.c) ∧ w27.cell? a16 = some (.int .i64 n17) ∧ (c_preludelaw06_keyList s23 w27 fun r28 w29 => w29.cell? a16 = some (.int .i64 n17) ∧ (idxP s1.a s1.l i_15 4 fun a30 => stP a30 (.int .i64 n17) w29 fun w31 => stP (a30.add 1) (.slice r24.a r24.l r24.c) w31 fun w32 => stP (a30.add 2) (.slice r26.a r26.l r26.c) w32 fun w33 => stP (a30.add 3) (.slice r28.a r28.l r28.c) w33 fun w34 => next12 ((IntKind.i64.wrap (i_15 + 1)), ()) w34))))
  (slP s1.a s1.l s1.c none (some (b_0.l : Int)) 4 fun p35 l36 c37 => K ⟨p35, l36, c37⟩ w14)) st13.1) (0, ()) w5)) st4.1) (0, ()) w2)

def c_preludelaw06_lent (b_0 : Slc) (w : World) (K : Slc → World → Prop) : Prop := Calls Try.prog 11 #[.slice b_0.a b_0.l b_0.c] w (onRet (fun v w' => ∃ (y0 : Slc), v = .slice y0.a y0.l y0.c ∧ K y0 w'))

theorem sim_preludelaw06_lent {b_0 : Slc} {w : World} {K : Slc → World → Prop} (h : sh_preludelaw06_lent c_preludelaw06_ints c_preludelaw06_keyList b_0 w K) : c_preludelaw06_lent b_0 w K := by
  have e : sh_preludelaw06_lent c_preludelaw06_ints c_preludelaw06_keyList b_0 w K = shF Try.prog 11 ⟨[(11, [0, 1, 2, 3, 4, 5, 6, 7, 8, 9, 10, 11, 13, 14, 15, 16, 17, 19, 20, 21, 22, 23, 12, 18, 24, 25, 26, 27])], [(5, [(4, (.int .i64))], [0, 3]), (9, [(5, (.int .i64))], [0, 3])], []⟩ [.slice b_0.a b_0.l b_0.c] w (fun v w' => decV .sl v fun y0 => K y0 w') := by kernel_rfl
  exact Calls.mono (calls_of _ e h) (onRet_mono (fun _ _ h => decV_spec h))

-- 12 prelude/batch.Weight; callees []
def sh_batch_Weight (b_0 : Slc) (w : World) (K : Int → World → Prop) : Prop :=
  loopP (σ := Int × Int × Unit) (fun st2 next1 w3 => (fun (n_4 : Int) (x5 : Int) => iteB (decide ((x5 : Int) < (b_0.l : Int)))
  (idxP b_0.a b_0.l x5 4 fun a6 => ldI .i64 a6 w3 fun n7 => ldS (a6.add 1) w3 fun s8 => ldS (a6.add 2) w3 fun s9 => ldS (a6.add 3) w3 fun s10 => newP #[.int .i64 0, .slice none 0 0, .slice none 0 0, .slice none 0 0] 66 w3 fun a11 w12 => stP a11 (.int .i64 n7) w12 fun w13 => stP (a11.add 1) (.slice s8.a s8.l s8.c) w13 fun w14 => stP (a11.add 2) (.slice s9.a s9.l s9.c) w14 fun w15 => stP (a11.add 3) (.slice s10.a s10.l s10.c) w15 fun w16 => ldS (a11.add 3) w16 fun s17 => next1 ((IntKind.i64.wrap (n_4 + (s17.l : Int))), (IntKind.i64.wrap (x5 + 1)), ()) w16)
  (K n_4 w3)) st2.1 st2.2.1) (0, 0, ()) w

def c_batch_Weight (b_0 : Slc) (w : World) (K : Int → World → Prop) : Prop := Calls Try.prog 12 #[.slice b_0.a b_0.l b_0.c] w (onRet (fun v w' => ∃ (y0 : Int), v = .int .i64 y0 ∧ K y0 w'))

theorem sim_batch_Weight {b_0 : Slc} {w : World} {K : Int → World → Prop} (h : sh_batch_Weight b_0 w K) : c_batch_Weight b_0 w K := by
  have e : sh_batch_Weight b_0 w K = shF Try.prog 12 ⟨[], [(3, [(3, (.int .i64)), (8, (.int .i64))], [6, 7])], []⟩ [.slice b_0.a b_0.l b_0.c] w (fun v w' => decV (.int .i64) v fun y0 => K y0 w') := by kernel_rfl
  exact Calls.mono (calls_of _ e h) (onRet_mono (fun _ _ h => decV_spec h))

-- 34 slices.Clone[[]prelude/api.Key,prelude/api.Key]; callees []
def sh_slices_Clone_api_Key_api_Key (s_0 : Slc) (w : World) (K : Slc → World → Prop) : Prop :=
  iteB ((s_0.a).isNone)
  (K ⟨none, 0, 0⟩ w)
  (newP #[] 70 w fun a1 w2 => apP Try.prog #[30, 30] 30 [.slice (some a1) 0 0, .slice s_0.a s_0.l s_0.c] w2 fun s4 w3 => K s4 w3)

def c_slices_Clone_api_Key_api_Key (s_0 : Slc) (w : World) (K : Slc → World → Prop) : Prop := Calls Try.prog 34 #[.slice s_0.a s_0.l s_0.c] w (onRet (fun v w' => ∃ (y0 : Slc), v = .slice y0.a y0.l y0.c ∧ K y0 w'))

theorem sim_slices_Clone_api_Key_api_Key {s_0 : Slc} {w : World} {K : Slc → World → Prop} (h : sh_slices_Clone_api_Key_api_Key s_0 w K) : c_slices_Clone_api_Key_api_Key s_0 w K := by
  have e : sh_slices_Clone_api_Key_api_Key s_0 w K = shF Try.prog 34 ⟨[], [], []⟩ [.slice s_0.a s_0.l s_0.c] w (fun v w' => decV .sl v fun y0 => K y0 w') := by kernel_rfl
  exact Calls.mono (calls_of _ e h) (onRet_mono (fun _ _ h => decV_spec h))

-- 13 prelude/batch.Writes; callees ['slices_Clone_api_Key_api_Key']
def sh_batch_Writes (c_slices_Clone_api_Key_api_Key : Slc → World → (Slc → World → Prop) → Prop) (b_0 : Slc) (w : World) (K : Slc → World → Prop) : Prop :=
  mkP Try.prog 26 (.int .i64 0) (.int .i64 (b_0.l : Int)) w fun s1 w2 => loopP (σ := Slc × Int × Unit) (fun st4 next3 w5 => (fun (l_6 : Slc) (x7 : Int) => iteB (decide ((x7 : Int) < (b_0.l : Int)))
  (idxP b_0.a b_0.l x7 4 fun a8 => ldI .i64 a8 w5 fun n9 => ldS (a8.add 1) w5 fun s10 => ldS (a8.add 2) w5 fun s11 => ldS (a8.add 3) w5 fun s12 => newP #[.int .i64 0, .slice none 0 0, .slice none 0 0, .slice none 0 0] 66 w5 fun a13 w14 => stP a13 (.int .i64 n9) w14 fun w15 => stP (a13.add 1) (.slice s10.a s10.l s10.c) w15 fun w16 => stP (a13.add 2) (.slice s11.a s11.l s11.c) w16 fun w17 => stP (a13.add 3) (.slice s12.a s12.l s12.c) w17 fun w18 => ldS (a13.add 3) w18 fun s19 => c_slices_Clone_api_Key_api_Key s19 w18 fun r20 w21 => newP #[.slice r20.a r20.l r20.c] 30 w21 fun a22 w23 => apP Try.prog #[26, 26] 26 [.slice l_6.a l_6.l l_6.c, .slice (some a22) 1 1] w23 fun s25 w24 => next3 (s25, (IntKind.i64.wrap (x7 + 1)), ()) w24)
  (K l_6 w5)) st4.1 st4.2.1) (s1, 0, ()) w2

def c_batch_Writes (b_0 : Slc) (w : World) (K : Slc → World → Prop) : Prop := Calls Try.prog 13 #[.slice b_0.a b_0.l b_0.c] w (onRet (fun v w' => ∃ (y0 : Slc), v = .slice y0.a y0.l y0.c ∧ K y0 w'))

theorem sim_batch_Writes {b_0 : Slc} {w : World} {K : Slc → World → Prop} (h : sh_batch_Writes c_slices_Clone_api_Key_api_Key b_0 w K) : c_batch_Writes b_0 w K := by
  have e : sh_batch_Writes c_slices_Clone_api_Key_api_Key b_0 w K = shF Try.prog 13 ⟨[], [(3, [(3, .sl), (11, (.int .i64))], [9, 10])], []⟩ [.slice b_0.a b_0.l b_0.c] w (fun v w' => decV .sl v fun y0 => K y0 w') := by kernel_rfl
  exact Calls.mono (calls_of _ e h) (onRet_mono (fun _ _ h => decV_spec h))

-- 63 prelude/preludelaw06.sameInts; callees []
def sh_preludelaw06_sameInts (a_0 : Slc) (b_1 : Slc) (w : World) (K : Bool → World → Prop) : Prop :=
  iteB (((a_0.l : Int) : Int) != (b_1.l : Int))
  (K false w)
  (loopP (σ := Int × Unit) (fun st2 next1 w3 => (fun (i_4 : Int) => iteB (decide ((i_4 : Int) < (a_0.l : Int)))
  (idxP a_0.a a_0.l i_4 1 fun a5 => ldI .i64 a5 w3.drew fun n6 => idxP b_1.a b_1.l i_4 1 fun a7 => ldI .i64 a7 w3.drew fun n8 => iteB ((n6 : Int) != n8)
  (K false w3.drew)
  (next1 ((IntKind.i64.wrap (i_4 + 1)), ()) w3.drew))
  (K true w3)) st2.1) (0, ()) w)

def c_preludelaw06_sameInts (a_0 : Slc) (b_1 : Slc) (w : World) (K : Bool → World → Prop) : Prop := Calls Try.prog 63 #[.slice a_0.a a_0.l a_0.c, .slice b_1.a b_1.l b_1.c] w (onRet (fun v w' => ∃ (y0 : Bool), v = .bool y0 ∧ K y0 w'))

theorem sim_preludelaw06_sameInts {a_0 : Slc} {b_1 : Slc} {w : World} {K : Bool → World → Prop} (h : sh_preludelaw06_sameInts a_0 b_1 w K) : c_preludelaw06_sameInts a_0 b_1 w K := by
  have e : sh_preludelaw06_sameInts a_0 b_1 w K = shF Try.prog 63 ⟨[(6, [0, 1, 2, 3, 4, 5, 6, 7, 8])], [(4, [(5, (.int .i64))], [0, 1])], []⟩ [.slice a_0.a a_0.l a_0.c, .slice b_1.a b_1.l b_1.c] w (fun v w' => decV .b v fun y0 => K y0 w') := by kernel_rfl
  exact Calls.mono (calls_of _ e h) (onRet_mono (fun _ _ h => decV_spec h))

-- 17 prelude/preludelaw06.sameKeys; callees []
def sh_preludelaw06_sameKeys (a_0 : Slc) (b_1 : Slc) (w : World) (K : Bool → World → Prop) : Prop :=
  iteB (((a_0.l : Int) : Int) != (b_1.l : Int))
  (K false w)
  (loopP (σ := Int × Unit) (fun st2 next1 w3 => (fun (i_4 : Int) => iteB (decide ((i_4 : Int) < (a_0.l : Int)))
  (idxP a_0.a a_0.l i_4 2 fun a5 => ldI .i64 a5 w3.drew fun n6 => ldI .i64 (a5.add 1) w3.drew fun n7 => idxP b_1.a b_1.l i_4 2 fun a8 => ldI .i64 a8 w3.drew fun n9 => ldI .i64 (a8.add 1) w3.drew fun n10 => (∃ (r11 : Bool), ∃ w12, (do eqGuard .neq 70 (.tmp 20) (.tmp 24) (.agg #[.int .i64 n6, .int .i64 n7]) (.agg #[.int .i64 n9, .int .i64 n10]); binOp .neq 70 (.agg #[.int .i64 n6, .int .i64 n7]) (.agg #[.int .i64 n9, .int .i64 n10])).run Try.prog w3.drew = .ok (.bool r11) w12 ∧ (iteB r11
  (K false w12)
  (next1 ((IntKind.i64.wrap (i_4 + 1)), ()) w12))))
  (K true w3)) st2.1) (0, ()) w)

def c_preludelaw06_sameKeys (a_0 : Slc) (b_1 : Slc) (w : World) (K : Bool → World → Prop) : Prop := Calls Try.prog 17 #[.slice a_0.a a_0.l a_0.c, .slice b_1.a b_1.l b_1.c] w (onRet (fun v w' => ∃ (y0 : Bool), v = .bool y0 ∧ K y0 w'))

theorem sim_preludelaw06_sameKeys {a_0 : Slc} {b_1 : Slc} {w : World} {K : Bool → World → Prop} (h : sh_preludelaw06_sameKeys a_0 b_1 w K) : c_preludelaw06_sameKeys a_0 b_1 w K := by
  have e : sh_preludelaw06_sameKeys a_0 b_1 w K = shF Try.prog 17 ⟨[(6, [0, 1, 2, 3, 4, 5, 6, 7, 8])], [(4, [(5, (.int .i64))], [0, 1])], []⟩ [.slice a_0.a a_0.l a_0.c, .slice b_1.a b_1.l b_1.c] w (fun v w' => decV .b v fun y0 => K y0 w') := by kernel_rfl
  exact Calls.mono (calls_of _ e h) (onRet_mono (fun _ _ h => decV_spec h))

-- 29 prelude/preludelaw06.sameBatch; callees ['preludelaw06_sameInts', 'preludelaw06_sameKeys']
def sh_preludelaw06_sameBatch (c_preludelaw06_sameInts : Slc → Slc → World → (Bool → World → Prop) → Prop) (c_preludelaw06_sameKeys : Slc → Slc → World → (Bool → World → Prop) → Prop) (a_0 : Slc) (b_1 : Slc) (w : World) (K : Bool → World → Prop) : Prop :=
  iteB (((a_0.l : Int) : Int) != (b_1.l : Int))
  (K false w)
  (loopP (σ := Int × Unit) (fun st2 next1 w3 => (fun (i_4 : Int) => iteB (decide ((i_4 : Int) < (a_0.l : Int)))
  (idxP a_0.a a_0.l i_4 4 fun a5 => ldI .i64 a5 w3 fun n6 => ldS (a5.add 1) w3 fun s7 => ldS (a5.add 2) w3 fun s8 => ldS (a5.add 3) w3 fun s9 => newP #[.int .i64 0, .slice none 0 0, .slice none 0 0, .slice none 0 0] 66 w3 fun a10 w11 => stP a10 (.int .i64 n6) w11 fun w12 => stP (a10.add 1) (.slice s7.a s7.l s7.c) w12 fun w13 => stP (a10.add 2) (.slice s8.a s8.l s8.c) w13 fun w14 => stP (a10.add 3) (.slice s9.a s9.l s9.c) w14 fun w15 => idxP b_1.a b_1.l i_4 4 fun a16 => ldI .i64 a16 w15 fun n17 => ldS (a16.add 1) w15 fun s18 => ldS (a16.add 2) w15 fun s19 => ldS (a16.add 3) w15 fun s20 => newP #[.int .i64 0, .slice none 0 0, .slice none 0 0, .slice none 0 0] 66 w15 fun a21 w22 => stP a21 (.int .i64 n17) w22 fun w23 => stP (a21.add 1) (.slice s18.a s18.l s18.c) w23 fun w24 => stP (a21.add 2) (.slice s19.a s19.l s19.c) w24 fun w25 => stP (a21.add 3) (.slice s20.a s20.l s20.c) w25 fun w26 => ldI .i64 a10 w26 fun n27 => ldI .i64 a21 w26 fun n28 => iteB ((n27 : Int) != n28)
  (K false w26)
  (ldS (a10.add 1) w26 fun s29 => ldS (a21.add 1) w26 fun s30 => c_preludelaw06_sameInts s29 s30 w26 fun r31 w32 => iteB (!r31)
  (K false w32)
  (ldS (a10.add 2) w32 fun s33 => ldS (a21.add 2) w32 fun s34 => c_preludelaw06_sameKeys s33 s34 w32 fun r35 w36 => iteB (!r35)
  (K false w36)
  (ldS (a10.add 3) w36 fun s37 => ldS (a21.add 3) w36 fun s38 => c_preludelaw06_sameKeys s37 s38 w36 fun r39 w40 => iteB (!r39)
  (K false w40)
  (next1 ((IntKind.i64.wrap (i_4 + 1)), ()) w40)))))
  (K true w3)) st2.1) (0, ()) w)

def c_preludelaw06_sameBatch (a_0 : Slc) (b_1 : Slc) (w : World) (K : Bool → World → Prop) : Prop := Calls Try.prog 29 #[.slice a_0.a a_0.l a_0.c, .slice b_1.a b_1.l b_1.c] w (onRet (fun v w' => ∃ (y0 : Bool), v = .bool y0 ∧ K y0 w'))

theorem sim_preludelaw06_sameBatch {a_0 : Slc} {b_1 : Slc} {w : World} {K : Bool → World → Prop} (h : sh_preludelaw06_sameBatch c_preludelaw06_sameInts c_preludelaw06_sameKeys a_0 b_1 w K) : c_preludelaw06_sameBatch a_0 b_1 w K := by
  have e : sh_preludelaw06_sameBatch c_preludelaw06_sameInts c_preludelaw06_sameKeys a_0 b_1 w K = shF Try.prog 29 ⟨[], [(4, [(5, (.int .i64))], [0, 1])], []⟩ [.slice a_0.a a_0.l a_0.c, .slice b_1.a b_1.l b_1.c] w (fun v w' => decV .b v fun y0 => K y0 w') := by kernel_rfl
  exact Calls.mono (calls_of _ e h) (onRet_mono (fun _ _ h => decV_spec h))

-- 35 prelude/preludelaw06.tail; callees []
def sh_preludelaw06_tail (l_0 : Slc) (w : World) (K : Bool → World → Prop) : Prop :=
  iteB ((l_0.a).isNone)
  (K true w)
  (slP l_0.a l_0.l l_0.c none (some (IntKind.i64.wrap ((l_0.l : Int) + 3))) 2 fun p1 l2 c3 => loopP (σ := Int × Unit) (fun st5 next4 w6 => (fun (i_7 : Int) => iteB (decide ((i_7 : Int) < (l2 : Int)))
  (idxP p1 l2 i_7 2 fun a8 => ldI .i64 a8 w6 fun n9 => ldI .i64 (a8.add 1) w6 fun n10 => (∃ (r11 : Bool), ∃ w12, (do eqGuard .neq 70 (.tmp 23) (.tmp 24) (.agg #[.int .i64 n9, .int .i64 n10]) (.agg #[.int .i64 (-31), .int .i64 0]); binOp .neq 70 (.agg #[.int .i64 n9, .int .i64 n10]) (.agg #[.int .i64 (-31), .int .i64 0])).run Try.prog w6 = .ok (.bool r11) w12 ∧ (iteB r11
  (K false w12)
  (next4 ((IntKind.i64.wrap (i_7 + 1)), ()) w12))))
  (K true w6)) st5.1) ((l_0.l : Int), ()) w)

def c_preludelaw06_tail (l_0 : Slc) (w : World) (K : Bool → World → Prop) : Prop := Calls Try.prog 35 #[.slice l_0.a l_0.l l_0.c] w (onRet (fun v w' => ∃ (y0 : Bool), v = .bool y0 ∧ K y0 w'))

theorem sim_preludelaw06_tail {l_0 : Slc} {w : World} {K : Bool → World → Prop} (h : sh_preludelaw06_tail l_0 w K) : c_preludelaw06_tail l_0 w K := by
  have e : sh_preludelaw06_tail l_0 w K = shF Try.prog 35 ⟨[], [(5, [(4, (.int .i64))], [3])], []⟩ [.slice l_0.a l_0.l l_0.c] w (fun v w' => decV .b v fun y0 => K y0 w') := by kernel_rfl
  exact Calls.mono (calls_of _ e h) (onRet_mono (fun _ _ h => decV_spec h))

-- 36 prelude/preludelaw06.wipe; callees []
def sh_preludelaw06_wipe (x_0_0 : Int) (x_0_1 : Slc) (x_0_2 : Slc) (x_0_3 : Slc) (w : World) (K : World → Prop) : Prop :=
  newP #[.int .i64 x_0_0, .slice x_0_1.a x_0_1.l x_0_1.c, .slice x_0_2.a x_0_2.l x_0_2.c, .slice x_0_3.a x_0_3.l x_0_3.c] 66 w fun a1 w2 => loopP (σ := Int × Unit) (fun st4 next3 w5 => (fun (k_6 : Int) => ldS (a1.add 1) w5 fun s7 => iteB (decide ((k_6 : Int) < (s7.l : Int)))
  (ldS (a1.add 1) w5 fun s8 => idxP s8.a s8.l k_6 1 fun a9 => stP a9 (.int .i64 (-33)) w5 fun w10 => next3 ((IntKind.i64.wrap (k_6 + 1)), ()) w10)
  (loopP (σ := Int × Unit) (fun st12 next11 w13 => (fun (k_14 : Int) => ldS (a1.add 2) w13 fun s15 => iteB (decide ((k_14 : Int) < (s15.l : Int)))
  (ldS (a1.add 2) w13 fun s16 => idxP s16.a s16.l k_14 2 fun a17 => stP a17 (.int .i64 (-33)) w13 fun w18 => stP (a17.add 1) (.int .i64 0) w18 fun w19 => next11 ((IntKind.i64.wrap (k_14 + 1)), ()) w19)
  (loopP (σ := Int × Unit) (fun st21 next20 w22 => (fun (k_23 : Int) => ldS (a1.add 3) w22 fun s24 => iteB (decide ((k_23 : Int) < (s24.l : Int)))
  (ldS (a1.add 3) w22 fun s25 => idxP s25.a s25.l k_23 2 fun a26 => stP a26 (.int .i64 (-33)) w22 fun w27 => stP (a26.add 1) (.int .i64 0) w27 fun w28 => next20 ((IntKind.i64.wrap (k_23 + 1)), ()) w28)
  (K w22)) st21.1) (0, ()) w13)) st12.1) (0, ()) w5)) st4.1) (0, ()) w2

def c_preludelaw06_wipe (x_0_0 : Int) (x_0_1 : Slc) (x_0_2 : Slc) (x_0_3 : Slc) (w : World) (K : World → Prop) : Prop := Calls Try.prog 36 #[.agg #[.int .i64 x_0_0, .slice x_0_1.a x_0_1.l x_0_1.c, .slice x_0_2.a x_0_2.l x_0_2.c, .slice x_0_3.a x_0_3.l x_0_3.c]] w (onRet (fun v w' => v = .tuple #[] ∧ K w'))

theorem sim_preludelaw06_wipe {x_0_0 : Int} {x_0_1 : Slc} {x_0_2 : Slc} {x_0_3 : Slc} {w : World} {K : World → Prop} (h : sh_preludelaw06_wipe x_0_0 x_0_1 x_0_2 x_0_3 w K) : c_preludelaw06_wipe x_0_0 x_0_1 x_0_2 x_0_3 w K := by
  have e : sh_preludelaw06_wipe x_0_0 x_0_1 x_0_2 x_0_3 w K = shF Try.prog 36 ⟨[], [(2, [(2, (.int .i64))], [1]), (6, [(3, (.int .i64))], [1]), (10, [(4, (.int .i64))], [1])], []⟩ [.agg #[.int .i64 x_0_0, .slice x_0_1.a x_0_1.l x_0_1.c, .slice x_0_2.a x_0_2.l x_0_2.c, .slice x_0_3.a x_0_3.l x_0_3.c]] w (fun v w' => decU v (K w')) := by kernel_rfl
  exact Calls.mono (calls_of _ e h) (onRet_mono (fun _ _ h => decU_spec h))

-- 14 prelude/preludelaw06.back; callees ['preludelaw06_sameBatch', 'preludelaw06_tail', 'preludelaw06_wipe']
def sh_preludelaw06_back (c_preludelaw06_sameBatch : Slc → Slc → World → (Bool → World → Prop) → Prop) (c_preludelaw06_tail : Slc → World → (Bool → World → Prop) → Prop) (c_preludelaw06_wipe : Int → Slc → Slc → Slc → World → (World → Prop) → Prop) (x_0 : Slc) (x_1 : Slc) (w : World) (K : Bool → World → Prop) : Prop :=
  c_preludelaw06_sameBatch x_0 x_1 w fun r1 w2 => iteB (!r1)
  (K r1 w2)
  (iteB ((x_1.a).isNone)
  (K r1 w2)
  (slP x_0.a x_0.l x_0.c none (some (IntKind.i64.wrap ((x_1.l : Int) + 3))) 4 fun p3 l4 c5 => loopP (σ := Bool × Int × Unit) (fun st7 next6 w8 => (fun (x9 : Bool) (x10 : Int) => iteB (decide ((x10 : Int) < (l4 : Int)))
  (iteB x9
  (idxP p3 l4 x10 4 fun a11 => ldI .i64 a11 w8 fun n12 => next6 (((n12 : Int) == (-31)), (IntKind.i64.wrap (x10 + 1)), ()) w8)
  (next6 (false, (IntKind.i64.wrap (x10 + 1)), ()) w8))
  (loopP (σ := Bool × Int × Unit) (fun st14 next13 w15 => (fun (x16 : Bool) (x17 : Int) => iteB (decide ((x17 : Int) < (x_1.l : Int)))
  (idxP x_0.a x_0.l x17 4 fun a18 => ldS (a18.add 2) w15 fun s19 => c_preludelaw06_tail s19 w15 fun r20 w21 => idxP x_0.a x_0.l x17 4 fun a22 => ldS (a22.add 3) w21 fun s23 => c_preludelaw06_tail s23 w21 fun r24 w25 => joinP (σ := Bool × Unit) (fun J26 => iteB x16
  (iteB r20
  (J26 (r24, ()) w25)
  (J26 (false, ()) w25))
  (J26 (false, ()) w25))
  (fun st27 w29 => (fun (t28 : Bool) => joinP (σ := Bool × Unit) (fun J30 => idxP x_0.a x_0.l x17 4 fun a32 => ldS (a32.add 1) w29 fun s33 => iteB (!(s33.a).isNone)
  (idxP x_0.a x_0.l x17 4 fun a34 => ldS (a34.add 1) w29.drew fun s35 => idxP x_0.a x_0.l x17 4 fun a36 => ldS (a36.add 1) w29.drew fun s37 => slP s35.a s35.l s35.c none (some (IntKind.i64.wrap ((s37.l : Int) + 3))) 1 fun p38 l39 c40 => idxP x_0.a x_0.l x17 4 fun a41 => ldS (a41.add 1) w29.drew fun s42 => loopP (σ := Bool × Int × Unit) (fun st44 next43 w45 => (fun (x46 : Bool) (x47 : Int) => iteB (decide ((x47 : Int) < (l39 : Int)))
  (iteB x46
  (idxP p38 l39 x47 1 fun a48 => ldI .i64 a48 w45 fun n49 => next43 (((n49 : Int) == (-31)), (IntKind.i64.wrap (x47 + 1)), ()) w45)
  (next43 (false, (IntKind.i64.wrap (x47 + 1)), ()) w45))
  (J30 (x46, ()) w45)) st44.1 st44.2.1) (t28, (s42.l : Int), ()) w29.drew)
  (J30 (t28, ()) w29))
  (fun st31 w51 => (fun (t50 : Bool) => idxP x_0.a x_0.l x17 4 fun a52 => ldI .i64 a52 w51 fun n53 => ldS (a52.add 1) w51 fun s54 => ldS (a52.add 2) w51 fun s55 => ldS (a52.add 3) w51 fun s56 => c_preludelaw06_wipe n53 s54 s55 s56 w51 fun w57 => idxP p3 l4 x17 4 fun a58 => stP a58 (.int .i64 (-32)) w57 fun w59 => stP (a58.add 1) (.slice none 0 0) w59 fun w60 => stP (a58.add 2) (.slice none 0 0) w60 fun w61 => stP (a58.add 3) (.slice none 0 0) w61 fun w62 => next13 (t50, (IntKind.i64.wrap (x17 + 1)), ()) w62) st31.1)) st27.1))
  (K x16 w15)) st14.1 st14.2.1) (x9, 0, ()) w8)) st7.1 st7.2.1) (r1, (x_1.l : Int), ()) w2))

def c_preludelaw06_back (x_0 : Slc) (x_1 : Slc) (w : World) (K : Bool → World → Prop) : Prop := Calls Try.prog 14 #[.slice x_0.a x_0.l x_0.c, .slice x_1.a x_1.l x_1.c] w (onRet (fun v w' => ∃ (y0 : Bool), v = .bool y0 ∧ K y0 w'))

theorem sim_preludelaw06_back {x_0 : Slc} {x_1 : Slc} {w : World} {K : Bool → World → Prop} (h : sh_preludelaw06_back c_preludelaw06_sameBatch c_preludelaw06_tail c_preludelaw06_wipe x_0 x_1 w K) : c_preludelaw06_back x_0 x_1 w K := by
  have e : sh_preludelaw06_back c_preludelaw06_sameBatch c_preludelaw06_tail c_preludelaw06_wipe x_0 x_1 w K = shF Try.prog 14 ⟨[(16, [0, 1, 2, 3, 4, 5, 6, 7, 8, 9, 10, 11, 12, 13])], [(6, [(5, .b), (7, (.int .i64))], [0, 1, 6]), (10, [(5, .b), (8, (.int .i64))], [0, 1, 6]), (18, [(5, .b), (12, (.int .i64))], [0, 1, 6, 8, 11])], [(15, [(5, .b)], [0, 1, 6, 8]), (21, [(5, .b)], [0, 1, 6, 8])]⟩ [.slice x_0.a x_0.l x_0.c, .slice x_1.a x_1.l x_1.c] w (fun v w' => decV .b v fun y0 => K y0 w') := by kernel_rfl
  exact Calls.mono (calls_of _ e h) (onRet_mono (fun _ _ h => decV_spec h))

-- 15 prelude/preluderef06.Writes; callees []
def sh_preluderef06_Writes (b_0 : Slc) (w : World) (K : Slc → World → Prop) : Prop :=
  loopP (σ := Slc × Int × Unit) (fun st2 next1 w3 => (fun (l_4 : Slc) (i_5 : Int) => iteB (decide ((i_5 : Int) < (b_0.l : Int)))
  (idxP b_0.a b_0.l i_5 4 fun a6 => ldS (a6.add 3) w3 fun s7 => newP #[.slice s7.a s7.l s7.c] 30 w3 fun a8 w9 => apP Try.prog #[26, 26] 26 [.slice l_4.a l_4.l l_4.c, .slice (some a8) 1 1] w9 fun s11 w10 => next1 (s11, (IntKind.i64.wrap (i_5 + 1)), ()) w10)
  (K l_4 w3)) st2.1 st2.2.1) (⟨none, 0, 0⟩, 0, ()) w

def c_preluderef06_Writes (b_0 : Slc) (w : World) (K : Slc → World → Prop) : Prop := Calls Try.prog 15 #[.slice b_0.a b_0.l b_0.c] w (onRet (fun v w' => ∃ (y0 : Slc), v = .slice y0.a y0.l y0.c ∧ K y0 w'))

theorem sim_preluderef06_Writes {b_0 : Slc} {w : World} {K : Slc → World → Prop} (h : sh_preluderef06_Writes b_0 w K) : c_preluderef06_Writes b_0 w K := by
  have e : sh_preluderef06_Writes b_0 w K = shF Try.prog 15 ⟨[], [(3, [(3, .sl), (4, (.int .i64))], [0])], []⟩ [.slice b_0.a b_0.l b_0.c] w (fun v w' => decV .sl v fun y0 => K y0 w') := by kernel_rfl
  exact Calls.mono (calls_of _ e h) (onRet_mono (fun _ _ h => decV_spec h))

-- 16 prelude/preluderef06.Weight; callees []
def sh_preluderef06_Weight (b_0 : Slc) (w : World) (K : Int → World → Prop) : Prop :=
  loopP (σ := Int × Int × Unit) (fun st2 next1 w3 => (fun (n_4 : Int) (i_5 : Int) => iteB (decide ((i_5 : Int) < (b_0.l : Int)))
  (idxP b_0.a b_0.l i_5 4 fun a6 => ldS (a6.add 3) w3 fun s7 => next1 ((IntKind.i64.wrap (n_4 + (s7.l : Int))), (IntKind.i64.wrap (i_5 + 1)), ()) w3)
  (K n_4 w3)) st2.1 st2.2.1) (0, 0, ()) w

def c_preluderef06_Weight (b_0 : Slc) (w : World) (K : Int → World → Prop) : Prop := Calls Try.prog 16 #[.slice b_0.a b_0.l b_0.c] w (onRet (fun v w' => ∃ (y0 : Int), v = .int .i64 y0 ∧ K y0 w'))

theorem sim_preluderef06_Weight {b_0 : Slc} {w : World} {K : Int → World → Prop} (h : sh_preluderef06_Weight b_0 w K) : c_preluderef06_Weight b_0 w K := by
  have e : sh_preluderef06_Weight b_0 w K = shF Try.prog 16 ⟨[], [(3, [(3, (.int .i64)), (4, (.int .i64))], [0])], []⟩ [.slice b_0.a b_0.l b_0.c] w (fun v w' => decV (.int .i64) v fun y0 => K y0 w') := by kernel_rfl
  exact Calls.mono (calls_of _ e h) (onRet_mono (fun _ _ h => decV_spec h))

-- 18 (*prelude/preludelaw06.shelf).sets; callees []
def sh_preludelaw06_shelf_sets (s_0 : Option Addr) (l_1 : Slc) (w : World) (K : World → Prop) : Prop :=
  nnP s_0 fun a1 => ldS (a1.add 3) w fun s2 => newP #[.slice l_1.a l_1.l l_1.c] 26 w fun a3 w4 => apP Try.prog #[34, 34] 34 [.slice s2.a s2.l s2.c, .slice (some a3) 1 1] w4 fun s6 w5 => nnP s_0 fun a7 => stP (a7.add 3) (.slice s6.a s6.l s6.c) w5 fun w8 => loopP (σ := Int × Unit) (fun st10 next9 w11 => (fun (i_12 : Int) => iteB (decide ((i_12 : Int) < (l_1.l : Int)))
  (nnP s_0 fun a13 => ldS (a13.add 1) w11.drew fun s14 => idxP l_1.a l_1.l i_12 1 fun a15 => ldS a15 w11.drew fun s16 => newP #[.slice s16.a s16.l s16.c] 30 w11.drew fun a17 w18 => w18.cell? (a13.add 1) = some (.slice s14.a s14.l s14.c) ∧ (apP Try.prog #[26, 26] 26 [.slice s14.a s14.l s14.c, .slice (some a17) 1 1] w18 fun s20 w19 => nnP s_0 fun a21 => stP (a21.add 1) (.slice s20.a s20.l s20.c) w19 fun w22 => next9 ((IntKind.i64.wrap (i_12 + 1)), ()) w22))
  (K w11)) st10.1) (0, ()) w8

def c_preludelaw06_shelf_sets (s_0 : Option Addr) (l_1 : Slc) (w : World) (K : World → Prop) : Prop := Calls Try.prog 18 #[.pointer s_0, .slice l_1.a l_1.l l_1.c] w (onRet (fun v w' => v = .tuple #[] ∧ K w'))

theorem sim_preludelaw06_shelf_sets {s_0 : Option Addr} {l_1 : Slc} {w : World} {K : World → Prop} (h : sh_preludelaw06_shelf_sets s_0 l_1 w K) : c_preludelaw06_shelf_sets s_0 l_1 w K := by
  have e : sh_preludelaw06_shelf_sets s_0 l_1 w K = shF Try.prog 18 ⟨[(4, [0, 1, 2, 3, 4, 5, 6, 7, 8, 9, 10, 11, 12, 13])], [(2, [(4, (.int .i64))], [0, 1])], []⟩ [.pointer s_0, .slice l_1.a l_1.l l_1.c] w (fun v w' => decU v (K w')) := by kernel_rfl
  exact Calls.mono (calls_of _ e h) (onRet_mono (fun _ _ h => decU_spec h))

-- 37 (*prelude/preludelaw06.shelf).fill; callees []
def sh_preludelaw06_shelf_fill (x_0 : Option Addr) (w : World) (K : World → Prop) : Prop :=
  loopP (σ := Int × Unit) (fun st2 next1 w3 => (fun (x4 : Int) => nnP x_0 fun a5 => ldS (a5.add 1) w3 fun s6 => iteB (decide ((x4 : Int) < (s6.l : Int)))
  (loopP (σ := Int × Unit) (fun st8 next7 w9 => (fun (x10 : Int) => nnP x_0 fun a11 => ldS (a11.add 1) w9 fun s12 => idxP s12.a s12.l x4 1 fun a13 => ldS a13 w9 fun s14 => iteB (decide ((x10 : Int) < (s14.l : Int)))
  (nnP x_0 fun a15 => ldS (a15.add 1) w9 fun s16 => idxP s16.a s16.l x4 1 fun a17 => ldS a17 w9 fun s18 => idxP s18.a s18.l x10 2 fun a19 => stP a19 (.int .i64 (IntKind.i64.wrap ((-50) - x4))) w9 fun w20 => stP (a19.add 1) (.int .i64 0) w20 fun w21 => next7 ((IntKind.i64.wrap (x10 + 1)), ()) w21)
  (next1 ((IntKind.i64.wrap (x4 + 1)), ()) w9)) st8.1) (0, ()) w3)
  (loopP (σ := Int × Unit) (fun st23 next22 w24 => (fun (x25 : Int) => nnP x_0 fun a26 => ldS (a26.add 2) w24 fun s27 => iteB (decide ((x25 : Int) < (s27.l : Int)))
  (loopP (σ := Int × Unit) (fun st29 next28 w30 => (fun (x31 : Int) => nnP x_0 fun a32 => ldS (a32.add 2) w30 fun s33 => idxP s33.a s33.l x25 1 fun a34 => ldS a34 w30 fun s35 => iteB (decide ((x31 : Int) < (s35.l : Int)))
  (nnP x_0 fun a36 => ldS (a36.add 2) w30 fun s37 => idxP s37.a s37.l x25 1 fun a38 => ldS a38 w30 fun s39 => idxP s39.a s39.l x31 1 fun a40 => stP a40 (.int .i64 (IntKind.i64.wrap ((-50) - x25))) w30 fun w41 => next28 ((IntKind.i64.wrap (x31 + 1)), ()) w41)
  (next22 ((IntKind.i64.wrap (x25 + 1)), ()) w30)) st29.1) (0, ()) w24)
  (loopP (σ := Int × Unit) (fun st43 next42 w44 => (fun (x45 : Int) => nnP x_0 fun a46 => ldS (a46.add 4) w44 fun s47 => iteB (decide ((x45 : Int) < (s47.l : Int)))
  (loopP (σ := Int × Unit) (fun st49 next48 w50 => (fun (x51 : Int) => nnP x_0 fun a52 => ldS (a52.add 4) w50 fun s53 => idxP s53.a s53.l x45 1 fun a54 => ldS a54 w50 fun s55 => iteB (decide ((x51 : Int) < (s55.l : Int)))
  (nnP x_0 fun a56 => ldS (a56.add 4) w50 fun s57 => idxP s57.a s57.l x45 1 fun a58 => ldS a58 w50 fun s59 => idxP s59.a s59.l x51 1 fun a60 => stP a60 (.int .u8 (IntKind.u8.wrap (IntKind.i64.wrap (x45 + 1)))) w50 fun w61 => next48 ((IntKind.i64.wrap (x51 + 1)), ()) w61)
  (next42 ((IntKind.i64.wrap (x45 + 1)), ()) w50)) st49.1) (0, ()) w44)
  (loopP (σ := Int × Unit) (fun st63 next62 w64 => (fun (x65 : Int) => nnP x_0 fun a66 => ldS a66 w64 fun s67 => iteB (decide ((x65 : Int) < (s67.l : Int)))
  (loopP (σ := Int × Unit) (fun st69 next68 w70 => (fun (x71 : Int) => nnP x_0 fun a72 => ldS a72 w70 fun s73 => idxP s73.a s73.l x65 1 fun a74 => ldS a74 w70 fun s75 => iteB (decide ((x71 : Int) < (s75.l : Int)))
  (nnP x_0 fun a76 => ldS a76 w70 fun s77 => idxP s77.a s77.l x65 1 fun a78 => ldS a78 w70 fun s79 => idxP s79.a s79.l x71 4 fun a80 => stP a80 (.int .i64 (IntKind.i64.wrap ((-50) - x65))) w70 fun w81 => stP (a80.add 1) (.slice none 0 0) w81 fun w82 => stP (a80.add 2) (.slice none 0 0) w82 fun w83 => stP (a80.add 3) (.slice none 0 0) w83 fun w84 => next68 ((IntKind.i64.wrap (x71 + 1)), ()) w84)
  (next62 ((IntKind.i64.wrap (x65 + 1)), ()) w70)) st69.1) (0, ()) w64)
  (loopP (σ := Int × Unit) (fun st86 next85 w87 => (fun (x88 : Int) => nnP x_0 fun a89 => ldS (a89.add 3) w87 fun s90 => iteB (decide ((x88 : Int) < (s90.l : Int)))
  (loopP (σ := Int × Unit) (fun st92 next91 w93 => (fun (x94 : Int) => nnP x_0 fun a95 => ldS (a95.add 3) w93 fun s96 => idxP s96.a s96.l x88 1 fun a97 => ldS a97 w93 fun s98 => iteB (decide ((x94 : Int) < (s98.l : Int)))
  (nnP x_0 fun a99 => ldS (a99.add 3) w93 fun s100 => idxP s100.a s100.l x88 1 fun a101 => ldS a101 w93 fun s102 => newP #[.int .i64 (IntKind.i64.wrap ((-50) - x88)), .int .i64 0] 70 w93 fun a103 w104 => idxP s102.a s102.l x94 1 fun a105 => stP a105 (.slice (some a103) 1 1) w104 fun w106 => next91 ((IntKind.i64.wrap (x94 + 1)), ()) w106)
  (next85 ((IntKind.i64.wrap (x88 + 1)), ()) w93)) st92.1) (0, ()) w87)
  (K w87)) st86.1) (0, ()) w64)) st63.1) (0, ()) w44)) st43.1) (0, ()) w24)) st23.1) (0, ()) w3)) st2.1) (0, ()) w

def c_preludelaw06_shelf_fill (x_0 : Option Addr) (w : World) (K : World → Prop) : Prop := Calls Try.prog 37 #[.pointer x_0] w (onRet (fun v w' => v = .tuple #[] ∧ K w'))

theorem sim_preludelaw06_shelf_fill {x_0 : Option Addr} {w : World} {K : World → Prop} (h : sh_preludelaw06_shelf_fill x_0 w K) : c_preludelaw06_shelf_fill x_0 w K := by
  have e : sh_preludelaw06_shelf_fill x_0 w K = shF Try.prog 37 ⟨[], [(1, [(2, (.int .i64))], [0]), (4, [(3, (.int .i64))], [0, 2]), (8, [(4, (.int .i64))], [0]), (11, [(5, (.int .i64))], [0, 4]), (15, [(6, (.int .i64))], [0]), (18, [(7, (.int .i64))], [0, 6]), (22, [(8, (.int .i64))], [0]), (25, [(9, (.int .i64))], [0, 8]), (29, [(10, (.int .i64))], [0]), (32, [(11, (.int .i64))], [0, 10])], []⟩ [.pointer x_0] w (fun v w' => decU v (K w')) := by kernel_rfl
  exact Calls.mono (calls_of _ e h) (onRet_mono (fun _ _ h => decU_spec h))

-- 38 (*prelude/preludelaw06.shelf).grow; callees []
def sh_preludelaw06_shelf_grow (x_0 : Option Addr) (w : World) (K : World → Prop) : Prop :=
  loopP (σ := Int × Unit) (fun st2 next1 w3 => (fun (x4 : Int) => nnP x_0 fun a5 => ldS (a5.add 1) w3 fun s6 => iteB (decide ((x4 : Int) < (s6.l : Int)))
  (nnP x_0 fun a7 => ldS (a7.add 1) w3 fun s8 => idxP s8.a s8.l x4 1 fun a9 => ldS a9 w3 fun s10 => loopP (σ := Slc × Slc × Int × Unit) (fun st12 next11 w13 => (fun (x14 : Slc) (x15 : Slc) (x16 : Int) => iteB (decide ((x16 : Int) < 24))
  (newP #[.int .i64 (IntKind.i64.wrap ((-50) - x4)), .int .i64 0] 70 w13 fun a17 w18 => apP Try.prog #[30, 30] 30 [.slice x14.a x14.l x14.c, .slice (some a17) 1 1] w18 fun s20 w19 => newP #[.int .i64 (IntKind.i64.wrap ((-50) - x4)), .int .i64 0] 70 w19 fun a21 w22 => apP Try.prog #[30, 30] 30 [.slice x15.a x15.l x15.c, .slice (some a21) 1 1] w22 fun s24 w23 => next11 (s20, s24, (IntKind.i64.wrap (x16 + 1)), ()) w23)
  (nnP x_0 fun a25 => ldS (a25.add 1) w13 fun s26 => idxP s26.a s26.l x4 1 fun a27 => ldS a27 w13 fun s28 => apP Try.prog #[30, 30] 30 [.slice s28.a s28.l s28.c, .slice x15.a x15.l x15.c] w13 fun s30 w29 => nnP x_0 fun a31 => ldS (a31.add 1) w29 fun s32 => idxP s32.a s32.l x4 1 fun a33 => ldS a33 w29 fun s34 => idxP s30.a s30.l (s34.l : Int) 2 fun a35 => stP (a35.add 1) (.int .i64 1) w29 fun w36 => next1 ((IntKind.i64.wrap (x4 + 1)), ()) w36)) st12.1 st12.2.1 st12.2.2.1) (s10, ⟨none, 0, 0⟩, 0, ()) w3)
  (loopP (σ := Int × Unit) (fun st38 next37 w39 => (fun (x40 : Int) => nnP x_0 fun a41 => ldS (a41.add 2) w39 fun s42 => iteB (decide ((x40 : Int) < (s42.l : Int)))
  (nnP x_0 fun a43 => ldS (a43.add 2) w39 fun s44 => idxP s44.a s44.l x40 1 fun a45 => ldS a45 w39 fun s46 => loopP (σ := Slc × Slc × Int × Unit) (fun st48 next47 w49 => (fun (x50 : Slc) (x51 : Slc) (x52 : Int) => iteB (decide ((x52 : Int) < 24))
  (newP #[.int .i64 (IntKind.i64.wrap ((-50) - x40))] 2 w49 fun a53 w54 => apP Try.prog #[64, 64] 64 [.slice x50.a x50.l x50.c, .slice (some a53) 1 1] w54 fun s56 w55 => newP #[.int .i64 (IntKind.i64.wrap ((-50) - x40))] 2 w55 fun a57 w58 => apP Try.prog #[64, 64] 64 [.slice x51.a x51.l x51.c, .slice (some a57) 1 1] w58 fun s60 w59 => next47 (s56, s60, (IntKind.i64.wrap (x52 + 1)), ()) w59)
  (nnP x_0 fun a61 => ldS (a61.add 2) w49 fun s62 => idxP s62.a s62.l x40 1 fun a63 => ldS a63 w49 fun s64 => apP Try.prog #[64, 64] 64 [.slice s64.a s64.l s64.c, .slice x51.a x51.l x51.c] w49 fun s66 w65 => nnP x_0 fun a67 => ldS (a67.add 2) w65 fun s68 => idxP s68.a s68.l x40 1 fun a69 => ldS a69 w65 fun s70 => idxP s66.a s66.l (s70.l : Int) 1 fun a71 => stP a71 (.int .i64 1) w65 fun w72 => next37 ((IntKind.i64.wrap (x40 + 1)), ()) w72)) st48.1 st48.2.1 st48.2.2.1) (s46, ⟨none, 0, 0⟩, 0, ()) w39)
  (loopP (σ := Int × Unit) (fun st74 next73 w75 => (fun (x76 : Int) => nnP x_0 fun a77 => ldS (a77.add 4) w75 fun s78 => iteB (decide ((x76 : Int) < (s78.l : Int)))
  (nnP x_0 fun a79 => ldS (a79.add 4) w75 fun s80 => idxP s80.a s80.l x76 1 fun a81 => ldS a81 w75 fun s82 => loopP (σ := Slc × Slc × Int × Unit) (fun st84 next83 w85 => (fun (x86 : Slc) (x87 : Slc) (x88 : Int) => iteB (decide ((x88 : Int) < 64))
  (newP #[.int .u8 (IntKind.u8.wrap (IntKind.i64.wrap (x76 + 1)))] 5 w85 fun a89 w90 => apP Try.prog #[50, 50] 50 [.slice x86.a x86.l x86.c, .slice (some a89) 1 1] w90 fun s92 w91 => newP #[.int .u8 (IntKind.u8.wrap (IntKind.i64.wrap (x76 + 1)))] 5 w91 fun a93 w94 => apP Try.prog #[50, 50] 50 [.slice x87.a x87.l x87.c, .slice (some a93) 1 1] w94 fun s96 w95 => next83 (s92, s96, (IntKind.i64.wrap (x88 + 1)), ()) w95)
  (nnP x_0 fun a97 => ldS (a97.add 4) w85 fun s98 => idxP s98.a s98.l x76 1 fun a99 => ldS a99 w85 fun s100 => apP Try.prog #[50, 50] 50 [.slice s100.a s100.l s100.c, .slice x87.a x87.l x87.c] w85 fun s102 w101 => nnP x_0 fun a103 => ldS (a103.add 4) w101 fun s104 => idxP s104.a s104.l x76 1 fun a105 => ldS a105 w101 fun s106 => idxP s102.a s102.l (s106.l : Int) 1 fun a107 => stP a107 (.int .u8 0) w101 fun w108 => next73 ((IntKind.i64.wrap (x76 + 1)), ()) w108)) st84.1 st84.2.1 st84.2.2.1) (s82, ⟨none, 0, 0⟩, 0, ()) w75)
  (loopP (σ := Int × Unit) (fun st110 next109 w111 => (fun (x112 : Int) => nnP x_0 fun a113 => ldS a113 w111 fun s114 => iteB (decide ((x112 : Int) < (s114.l : Int)))
  (nnP x_0 fun a115 => ldS a115 w111 fun s116 => idxP s116.a s116.l x112 1 fun a117 => ldS a117 w111 fun s118 => loopP (σ := Slc × Int × Unit) (fun st120 next119 w121 => (fun (x122 : Slc) (x123 : Int) => iteB (decide ((x123 : Int) < 24))
  (newP #[.int .i64 (IntKind.i64.wrap ((-50) - x112)), .slice none 0 0, .slice none 0 0, .slice none 0 0] 66 w121 fun a124 w125 => apP Try.prog #[22, 22] 22 [.slice x122.a x122.l x122.c, .slice (some a124) 1 1] w125 fun s127 w126 => next119 (s127, (IntKind.i64.wrap (x123 + 1)), ()) w126)
  (next109 ((IntKind.i64.wrap (x112 + 1)), ()) w121)) st120.1 st120.2.1) (s118, 0, ()) w111)
  (loopP (σ := Int × Unit) (fun st129 next128 w130 => (fun (x131 : Int) => nnP x_0 fun a132 => ldS (a132.add 3) w130 fun s133 => iteB (decide ((x131 : Int) < (s133.l : Int)))
  (nnP x_0 fun a134 => ldS (a134.add 3) w130 fun s135 => idxP s135.a s135.l x131 1 fun a136 => ldS a136 w130 fun s137 => loopP (σ := Slc × Int × Unit) (fun st139 next138 w140 => (fun (x141 : Slc) (x142 : Int) => iteB (decide ((x142 : Int) < 24))
  (newP #[.int .i64 (IntKind.i64.wrap ((-50) - x131)), .int .i64 0] 70 w140 fun a143 w144 => newP #[.slice (some a143) 1 1] 30 w144 fun a145 w146 => apP Try.prog #[26, 26] 26 [.slice x141.a x141.l x141.c, .slice (some a145) 1 1] w146 fun s148 w147 => next138 (s148, (IntKind.i64.wrap (x142 + 1)), ()) w147)
  (next128 ((IntKind.i64.wrap (x131 + 1)), ()) w140)) st139.1 st139.2.1) (s137, 0, ()) w130)
  (K w130)) st129.1) (0, ()) w111)) st110.1) (0, ()) w75)) st74.1) (0, ()) w39)) st38.1) (0, ()) w3)) st2.1) (0, ()) w

def c_preludelaw06_shelf_grow (x_0 : Option Addr) (w : World) (K : World → Prop) : Prop := Calls Try.prog 38 #[.pointer x_0] w (onRet (fun v w' => v = .tuple #[] ∧ K w'))

theorem sim_preludelaw06_shelf_grow {x_0 : Option Addr} {w : World} {K : World → Prop} (h : sh_preludelaw06_shelf_grow x_0 w K) : c_preludelaw06_shelf_grow x_0 w K := by
  have e : sh_preludelaw06_shelf_grow x_0 w K = shF Try.prog 38 ⟨[], [(1, [(2, (.int .i64))], [0]), (6, [(3, .sl), (4, .sl), (5, (.int .i64))], [0, 2]), (13, [(6, (.int .i64))], [0]), (18, [(7, .sl), (8, .sl), (9, (.int .i64))], [0, 6]), (25, [(10, (.int .i64))], [0]), (30, [(11, .sl), (12, .sl), (13, (.int .i64))], [0, 10]), (37, [(14, (.int .i64))], [0]), (41, [(15, .sl), (16, (.int .i64))], [0, 14]), (45, [(17, (.int .i64))], [0]), (49, [(18, .sl), (19, (.int .i64))], [0, 17])], []⟩ [.pointer x_0] w (fun v w' => decU v (K w')) := by kernel_rfl
  exact Calls.mono (calls_of _ e h) (onRet_mono (fun _ _ h => decU_spec h))

-- 19 (*prelude/preludelaw06.shelf).apart; callees ['preludelaw06_shelf_fill', 'preludelaw06_shelf_grow']
def sh_preludelaw06_shelf_apart (c_preludelaw06_shelf_fill : Option Addr → World → (World → Prop) → Prop) (c_preludelaw06_shelf_grow : Option Addr → World → (World → Prop) → Prop) (x_0 : Option Addr) (w : World) (K : Bool → World → Prop) : Prop :=
  c_preludelaw06_shelf_fill x_0 w fun w1 => c_preludelaw06_shelf_grow x_0 w1 fun w2 => loopP (σ := Int × Unit) (fun st4 next3 w5 => (fun (x6 : Int) => nnP x_0 fun a7 => ldS (a7.add 1) w5 fun s8 => iteB (decide ((x6 : Int) < (s8.l : Int)))
  (loopP (σ := Int × Unit) (fun st10 next9 w11 => (fun (x12 : Int) => nnP x_0 fun a13 => ldS (a13.add 1) w11 fun s14 => idxP s14.a s14.l x6 1 fun a15 => ldS a15 w11 fun s16 => iteB (decide ((x12 : Int) < (s16.l : Int)))
  (nnP x_0 fun a17 => ldS (a17.add 1) w11 fun s18 => idxP s18.a s18.l x6 1 fun a19 => ldS a19 w11 fun s20 => idxP s20.a s20.l x12 2 fun a21 => ldI .i64 a21 w11 fun n22 => ldI .i64 (a21.add 1) w11 fun n23 => (∃ (r24 : Bool), ∃ w25, (do eqGuard .neq 70 (.tmp 47) (.tmp 50) (.agg #[.int .i64 n22, .int .i64 n23]) (.agg #[.int .i64 (IntKind.i64.wrap ((-50) - x6)), .int .i64 0]); binOp .neq 70 (.agg #[.int .i64 n22, .int .i64 n23]) (.agg #[.int .i64 (IntKind.i64.wrap ((-50) - x6)), .int .i64 0])).run Try.prog w11 = .ok (.bool r24) w25 ∧ (iteB r24
  (K false w25)
  (next9 ((IntKind.i64.wrap (x12 + 1)), ()) w25))))
  (next3 ((IntKind.i64.wrap (x6 + 1)), ()) w11)) st10.1) (0, ()) w5)
  (loopP (σ := Int × Unit) (fun st27 next26 w28 => (fun (x29 : Int) => nnP x_0 fun a30 => ldS (a30.add 2) w28 fun s31 => iteB (decide ((x29 : Int) < (s31.l : Int)))
  (loopP (σ := Int × Unit) (fun st33 next32 w34 => (fun (x35 : Int) => nnP x_0 fun a36 => ldS (a36.add 2) w34 fun s37 => idxP s37.a s37.l x29 1 fun a38 => ldS a38 w34 fun s39 => iteB (decide ((x35 : Int) < (s39.l : Int)))
  (nnP x_0 fun a40 => ldS (a40.add 2) w34 fun s41 => idxP s41.a s41.l x29 1 fun a42 => ldS a42 w34 fun s43 => idxP s43.a s43.l x35 1 fun a44 => ldI .i64 a44 w34 fun n45 => iteB ((n45 : Int) != (IntKind.i64.wrap ((-50) - x29)))
  (K false w34)
  (next32 ((IntKind.i64.wrap (x35 + 1)), ()) w34))
  (next26 ((IntKind.i64.wrap (x29 + 1)), ()) w34)) st33.1) (0, ()) w28)
  (loopP (σ := Int × Unit) (fun st47 next46 w48 => (fun (x49 : Int) => nnP x_0 fun a50 => ldS (a50.add 4) w48 fun s51 => iteB (decide ((x49 : Int) < (s51.l : Int)))
  (loopP (σ := Int × Unit) (fun st53 next52 w54 => (fun (x55 : Int) => nnP x_0 fun a56 => ldS (a56.add 4) w54 fun s57 => idxP s57.a s57.l x49 1 fun a58 => ldS a58 w54 fun s59 => iteB (decide ((x55 : Int) < (s59.l : Int)))
  (nnP x_0 fun a60 => ldS (a60.add 4) w54 fun s61 => idxP s61.a s61.l x49 1 fun a62 => ldS a62 w54 fun s63 => idxP s63.a s63.l x55 1 fun a64 => ldI .u8 a64 w54 fun n65 => iteB ((n65 : Int) != (IntKind.u8.wrap (IntKind.i64.wrap (x49 + 1))))
  (K false w54)
  (next52 ((IntKind.i64.wrap (x55 + 1)), ()) w54))
  (next46 ((IntKind.i64.wrap (x49 + 1)), ()) w54)) st53.1) (0, ()) w48)
  (loopP (σ := Int × Unit) (fun st67 next66 w68 => (fun (x69 : Int) => nnP x_0 fun a70 => ldS a70 w68 fun s71 => iteB (decide ((x69 : Int) < (s71.l : Int)))
  (loopP (σ := Int × Unit) (fun st73 next72 w74 => (fun (x75 : Int) => nnP x_0 fun a76 => ldS a76 w74 fun s77 => idxP s77.a s77.l x69 1 fun a78 => ldS a78 w74 fun s79 => iteB (decide ((x75 : Int) < (s79.l : Int)))
  (nnP x_0 fun a80 => ldS a80 w74 fun s81 => idxP s81.a s81.l x69 1 fun a82 => ldS a82 w74 fun s83 => idxP s83.a s83.l x75 4 fun a84 => ldI .i64 a84 w74 fun n85 => iteB ((n85 : Int) != (IntKind.i64.wrap ((-50) - x69)))
  (K false w74)
  (next72 ((IntKind.i64.wrap (x75 + 1)), ()) w74))
  (next66 ((IntKind.i64.wrap (x69 + 1)), ()) w74)) st73.1) (0, ()) w68)
  (loopP (σ := Int × Unit) (fun st87 next86 w88 => (fun (x89 : Int) => nnP x_0 fun a90 => ldS (a90.add 3) w88 fun s91 => iteB (decide ((x89 : Int) < (s91.l : Int)))
  (loopP (σ := Int × Unit) (fun st93 next92 w94 => (fun (x95 : Int) => nnP x_0 fun a96 => ldS (a96.add 3) w94 fun s97 => idxP s97.a s97.l x89 1 fun a98 => ldS a98 w94 fun s99 => iteB (decide ((x95 : Int) < (s99.l : Int)))
  (nnP x_0 fun a100 => ldS (a100.add 3) w94 fun s101 => idxP s101.a s101.l x89 1 fun a102 => ldS a102 w94 fun s103 => idxP s103.a s103.l x95 1 fun a104 => ldS a104 w94 fun s105 => iteB (((s105.l : Int) : Int) != 1)
  (K false w94)
  (nnP x_0 fun a106 => ldS (a106.add 3) w94 fun s107 => idxP s107.a s107.l x89 1 fun a108 => ldS a108 w94 fun s109 => idxP s109.a s109.l x95 1 fun a110 => ldS a110 w94 fun s111 => idxP s111.a s111.l 0 2 fun a112 => ldI .i64 a112 w94 fun n113 => ldI .i64 (a112.add 1) w94 fun n114 => (∃ (r115 : Bool), ∃ w116, (do eqGuard .neq 70 (.tmp 201) (.tmp 204) (.agg #[.int .i64 n113, .int .i64 n114]) (.agg #[.int .i64 (IntKind.i64.wrap ((-50) - x89)), .int .i64 0]); binOp .neq 70 (.agg #[.int .i64 n113, .int .i64 n114]) (.agg #[.int .i64 (IntKind.i64.wrap ((-50) - x89)), .int .i64 0])).run Try.prog w94 = .ok (.bool r115) w116 ∧ (iteB r115
  (K false w116)
  (next92 ((IntKind.i64.wrap (x95 + 1)), ()) w116)))))
  (next86 ((IntKind.i64.wrap (x89 + 1)), ()) w94)) st93.1) (0, ()) w88)
  (K true w88)) st87.1) (0, ()) w68)) st67.1) (0, ()) w48)) st47.1) (0, ()) w28)) st27.1) (0, ()) w5)) st4.1) (0, ()) w2

def c_preludelaw06_shelf_apart (x_0 : Option Addr) (w : World) (K : Bool → World → Prop) : Prop := Calls Try.prog 19 #[.pointer x_0] w (onRet (fun v w' => ∃ (y0 : Bool), v = .bool y0 ∧ K y0 w'))

theorem sim_preludelaw06_shelf_apart {x_0 : Option Addr} {w : World} {K : Bool → World → Prop} (h : sh_preludelaw06_shelf_apart c_preludelaw06_shelf_fill c_preludelaw06_shelf_grow x_0 w K) : c_preludelaw06_shelf_apart x_0 w K := by
  have e : sh_preludelaw06_shelf_apart c_preludelaw06_shelf_fill c_preludelaw06_shelf_grow x_0 w K = shF Try.prog 19 ⟨[], [(4, [(3, (.int .i64))], [0]), (7, [(4, (.int .i64))], [0, 3]), (12, [(5, (.int .i64))], [0]), (15, [(6, (.int .i64))], [0, 5]), (20, [(7, (.int .i64))], [0]), (23, [(8, (.int .i64))], [0, 7]), (28, [(9, (.int .i64))], [0]), (31, [(10, (.int .i64))], [0, 9]), (36, [(11, (.int .i64))], [0]), (39, [(12, (.int .i64))], [0, 11])], []⟩ [.pointer x_0] w (fun v w' => decV .b v fun y0 => K y0 w') := by kernel_rfl
  exact Calls.mono (calls_of _ e h) (onRet_mono (fun _ _ h => decV_spec h))

-- 3 prelude/preludelaw06.BatchWeighs; callees ['preluderef06_Parts', 'preludelaw06_lent', 'batch_Weight', 'batch_Writes', 'preludelaw06_back', 'preluderef06_Writes', 'preluderef06_Weight', 'preludelaw06_sameKeys', 'preludelaw06_shelf_sets', 'preludelaw06_shelf_apart']
def sh_preludelaw06_BatchWeighs (c_preluderef06_Parts : Slc → Int → World → (Int → World → Prop) → Prop) (c_preludelaw06_lent : Slc → World → (Slc → World → Prop) → Prop) (c_batch_Weight : Slc → World → (Int → World → Prop) → Prop) (c_batch_Writes : Slc → World → (Slc → World → Prop) → Prop) (c_preludelaw06_back : Slc → Slc → World → (Bool → World → Prop) → Prop) (c_preluderef06_Writes : Slc → World → (Slc → World → Prop) → Prop) (c_preluderef06_Weight : Slc → World → (Int → World → Prop) → Prop) (c_preludelaw06_sameKeys : Slc → Slc → World → (Bool → World → Prop) → Prop) (c_preludelaw06_shelf_sets : Option Addr → Slc → World → (World → Prop) → Prop) (c_preludelaw06_shelf_apart : Option Addr → World → (Bool → World → Prop) → Prop) (x_0 : Slc) (w : World) (K : Bool → World → Prop) : Prop :=
  c_preluderef06_Parts x_0 100000 w fun r1 w2 => iteB (decide ((r1 : Int) < 0))
  (K true w2)
  (c_preludelaw06_lent x_0 w2 fun r3 w4 => c_batch_Weight r3 w4 fun r5 w6 => c_batch_Writes r3 w6 fun r7 w8 => c_batch_Writes r3 w8 fun r9 w10 => c_preludelaw06_back r3 x_0 w10 fun r11 w12 => c_preluderef06_Writes x_0 w12 fun r13 w14 => iteB (!r11)
  (K false w14)
  (c_preluderef06_Weight x_0 w14 fun r15 w16 => iteB ((r5 : Int) != r15)
  (K false w16)
  (iteB (((r7.l : Int) : Int) != (r13.l : Int))
  (K false w16)
  (iteB (((r9.l : Int) : Int) != (r13.l : Int))
  (K false w16)
  (loopP (σ := Int × Unit) (fun st18 next17 w19 => (fun (x20 : Int) => iteB (decide ((x20 : Int) < (r13.l : Int)))
  (idxP r7.a r7.l x20 1 fun a21 => ldS a21 w19.drew fun s22 => idxP r13.a r13.l x20 1 fun a23 => ldS a23 w19.drew fun s24 => c_preludelaw06_sameKeys s22 s24 w19.drew fun r25 w26 => iteB (!r25)
  (K false w26)
  (idxP r9.a r9.l x20 1 fun a27 => ldS a27 w26 fun s28 => idxP r13.a r13.l x20 1 fun a29 => ldS a29 w26 fun s30 => c_preludelaw06_sameKeys s28 s30 w26 fun r31 w32 => iteB (!r31)
  (K false w32)
  (next17 ((IntKind.i64.wrap (x20 + 1)), ()) w32)))
  (newP #[.slice none 0 0, .slice none 0 0, .slice none 0 0, .slice none 0 0, .slice none 0 0] 37 w19 fun a33 w34 => c_preludelaw06_shelf_sets (some a33) r7 w34 fun w35 => c_preludelaw06_shelf_sets (some a33) r9 w35 fun w36 => c_preludelaw06_shelf_apart (some a33) w36 fun r37 w38 => K r37 w38)) st18.1) (0, ()) w16)))))

def c_preludelaw06_BatchWeighs (x_0 : Slc) (w : World) (K : Bool → World → Prop) : Prop := Calls Try.prog 3 #[.slice x_0.a x_0.l x_0.c] w (onRet (fun v w' => ∃ (y0 : Bool), v = .bool y0 ∧ K y0 w'))

theorem sim_preludelaw06_BatchWeighs {x_0 : Slc} {w : World} {K : Bool → World → Prop} (h : sh_preludelaw06_BatchWeighs c_preluderef06_Parts c_preludelaw06_lent c_batch_Weight c_batch_Writes c_preludelaw06_back c_preluderef06_Writes c_preluderef06_Weight c_preludelaw06_sameKeys c_preludelaw06_shelf_sets c_preludelaw06_shelf_apart x_0 w K) : c_preludelaw06_BatchWeighs x_0 w K := by
  have e : sh_preludelaw06_BatchWeighs c_preluderef06_Parts c_preludelaw06_lent c_batch_Weight c_batch_Writes c_preludelaw06_back c_preluderef06_Writes c_preluderef06_Weight c_preludelaw06_sameKeys c_preludelaw06_shelf_sets c_preludelaw06_shelf_apart x_0 w K = shF Try.prog 3 ⟨[(14, [0, 1, 2, 3, 4, 5, 6, 7, 8, 9, 10, 11, 12, 13, 14, 15, 16, 17, 18, 19, 20, 21])], [(12, [(9, (.int .i64))], [5, 6, 8])], []⟩ [.slice x_0.a x_0.l x_0.c] w (fun v w' => decV .b v fun y0 => K y0 w') := by kernel_rfl
  exact Calls.mono (calls_of _ e h) (onRet_mono (fun _ _ h => decV_spec h))

-- 20 prelude/preluderef04.Parts; callees []
def sh_preluderef04_Parts (lib_0 : Slc) (left_1 : Int) (w : World) (K : Int → World → Prop) : Prop :=
  loopP (σ := Int × Int × Unit) (fun st2 next1 w3 => (fun (left_4 : Int) (i_5 : Int) => iteB (decide ((i_5 : Int) < (lib_0.l : Int)))
  (iteB (decide ((left_4 : Int) ≥ 0))
  (idxP lib_0.a lib_0.l i_5 6 fun a6 => ldStr a6 w3.drew fun s7 => idxP lib_0.a lib_0.l i_5 6 fun a8 => ldS ((a8.add 1).add 4) w3.drew fun s9 => next1 ((IntKind.i64.wrap ((IntKind.i64.wrap ((IntKind.i64.wrap (left_4 - 1)) - (s7.size : Int))) - (s9.l : Int))), (IntKind.i64.wrap (i_5 + 1)), ()) w3.drew)
  (K left_4 w3))
  (K left_4 w3)) st2.1 st2.2.1) (left_1, 0, ()) w

def c_preluderef04_Parts (lib_0 : Slc) (left_1 : Int) (w : World) (K : Int → World → Prop) : Prop := Calls Try.prog 20 #[.slice lib_0.a lib_0.l lib_0.c, .int .i64 left_1] w (onRet (fun v w' => ∃ (y0 : Int), v = .int .i64 y0 ∧ K y0 w'))

theorem sim_preluderef04_Parts {lib_0 : Slc} {left_1 : Int} {w : World} {K : Int → World → Prop} (h : sh_preluderef04_Parts lib_0 left_1 w K) : c_preluderef04_Parts lib_0 left_1 w K := by
  have e : sh_preluderef04_Parts lib_0 left_1 w K = shF Try.prog 20 ⟨[(4, [0, 1, 2, 3, 4, 5, 6, 7, 8, 9, 10, 11, 12, 13, 14, 15, 16, 17])], [(2, [(1, (.int .i64)), (5, (.int .i64))], [0])], []⟩ [.slice lib_0.a lib_0.l lib_0.c, .int .i64 left_1] w (fun v w' => decV (.int .i64) v fun y0 => K y0 w') := by kernel_rfl
  exact Calls.mono (calls_of _ e h) (onRet_mono (fun _ _ h => decV_spec h))

-- 39 prelude/batch.first; callees []
def sh_batch_first (b_0 : Slc) (wrong_1 : Value) (w : World) (K : Int → Int → World → Prop) : Prop :=
  iteB (decide (((b_0.l : Int) : Int) > 64))
  (K 0 60 w)
  (loopP (σ := Int × Unit) (fun st2 next1 w3 => (fun (x4 : Int) => iteB (decide ((x4 : Int) < (b_0.l : Int)))
  (idxP b_0.a b_0.l x4 4 fun a5 => ldI .i64 a5 w3 fun n6 => ldS (a5.add 1) w3 fun s7 => ldS (a5.add 2) w3 fun s8 => ldS (a5.add 3) w3 fun s9 => newP #[.int .i64 0, .slice none 0 0, .slice none 0 0, .slice none 0 0] 66 w3 fun a10 w11 => stP a10 (.int .i64 n6) w11 fun w12 => stP (a10.add 1) (.slice s7.a s7.l s7.c) w12 fun w13 => stP (a10.add 2) (.slice s8.a s8.l s8.c) w13 fun w14 => stP (a10.add 3) (.slice s9.a s9.l s9.c) w14 fun w15 => ldI .i64 a10 w15 fun n16 => ldS (a10.add 1) w15 fun s17 => ldS (a10.add 2) w15 fun s18 => ldS (a10.add 3) w15 fun s19 => cvP Try.prog wrong_1 [.agg #[.int .i64 n16, .slice s17.a s17.l s17.c, .slice s18.a s18.l s18.c, .slice s19.a s19.l s19.c]] w15 fun v22 w21 => ∃ (r20 : Int), v22 = .int .i64 r20 ∧ (iteB ((r20 : Int) != 0)
  (K x4 r20 w21)
  (next1 ((IntKind.i64.wrap (x4 + 1)), ()) w21)))
  (K 0 0 w3)) st2.1) (0, ()) w)

def c_batch_first (b_0 : Slc) (wrong_1 : Value) (w : World) (K : Int → Int → World → Prop) : Prop := Calls Try.prog 39 #[.slice b_0.a b_0.l b_0.c, wrong_1] w (onRet (fun v w' => ∃ (y0 : Int), ∃ (y1 : Int), v = .tuple #[.int .i64 y0, .int .i64 y1] ∧ K y0 y1 w'))

theorem sim_batch_first {b_0 : Slc} {wrong_1 : Value} {w : World} {K : Int → Int → World → Prop} (h : sh_batch_first b_0 wrong_1 w K) : c_batch_first b_0 wrong_1 w K := by
  have e : sh_batch_first b_0 wrong_1 w K = shF Try.prog 39 ⟨[], [(4, [(14, (.int .i64))], [1, 12, 13])], []⟩ [.slice b_0.a b_0.l b_0.c, wrong_1] w (fun v w' => decT [(false, [(.int .i64)]), (false, [(.int .i64)])] v fun s => (fun (y0 : Int) (y1 : Int) => K y0 y1 w') s.1 s.2.1) := by kernel_rfl
  exact Calls.mono (calls_of _ e h) (onRet_mono (fun _ _ h => by obtain ⟨s, h1, h2⟩ := decT_spec h; exact ⟨s.1, s.2.1, h1, h2⟩))

-- 21 prelude/batch.Check; callees ['batch_first']
def sh_batch_Check (c_batch_first : Slc → Value → World → (Int → Int → World → Prop) → Prop) (lib_0 : Slc) (b_1 : Slc) (w : World) (K : Int → Int → World → Prop) : Prop :=
  newP #[.slice lib_0.a lib_0.l lib_0.c] 41 w fun a1 w2 => c_batch_first b_1 (.func (.func 40) #[] #[.pointer (some a1)]) w2 fun r3 r4 w5 => K r3 r4 w5

def c_batch_Check (lib_0 : Slc) (b_1 : Slc) (w : World) (K : Int → Int → World → Prop) : Prop := Calls Try.prog 21 #[.slice lib_0.a lib_0.l lib_0.c, .slice b_1.a b_1.l b_1.c] w (onRet (fun v w' => ∃ (y0 : Int), ∃ (y1 : Int), v = .tuple #[.int .i64 y0, .int .i64 y1] ∧ K y0 y1 w'))

theorem sim_batch_Check {lib_0 : Slc} {b_1 : Slc} {w : World} {K : Int → Int → World → Prop} (h : sh_batch_Check c_batch_first lib_0 b_1 w K) : c_batch_Check lib_0 b_1 w K := by
  have e : sh_batch_Check c_batch_first lib_0 b_1 w K = shF Try.prog 21 ⟨[], [], []⟩ [.slice lib_0.a lib_0.l lib_0.c, .slice b_1.a b_1.l b_1.c] w (fun v w' => decT [(false, [(.int .i64)]), (false, [(.int .i64)])] v fun s => (fun (y0 : Int) (y1 : Int) => K y0 y1 w') s.1 s.2.1) := by kernel_rfl
  exact Calls.mono (calls_of _ e h) (onRet_mono (fun _ _ h => by obtain ⟨s, h1, h2⟩ := decT_spec h; exact ⟨s.1, s.2.1, h1, h2⟩))

-- 84 prelude/preluderef02.Check; callees []
def sh_preluderef02_Check (k_0_0 : Int) (k_0_1 : Int) (w : World) (K : Int → World → Prop) : Prop :=
  newP #[.int .i64 k_0_0, .int .i64 k_0_1] 70 w fun a1 w2 => ldI .i64 a1 w2 fun n3 => iteB (decide ((n3 : Int) < 0))
  (K 20 w2)
  (ldI .i64 a1 w2 fun n4 => iteB (decide ((n4 : Int) > 65535))
  (K 20 w2)
  (K 0 w2))

def c_preluderef02_Check (k_0_0 : Int) (k_0_1 : Int) (w : World) (K : Int → World → Prop) : Prop := Calls Try.prog 84 #[.agg #[.int .i64 k_0_0, .int .i64 k_0_1]] w (onRet (fun v w' => ∃ (y0 : Int), v = .int .i64 y0 ∧ K y0 w'))

theorem sim_preluderef02_Check {k_0_0 : Int} {k_0_1 : Int} {w : World} {K : Int → World → Prop} (h : sh_preluderef02_Check k_0_0 k_0_1 w K) : c_preluderef02_Check k_0_0 k_0_1 w K := by
  have e : sh_preluderef02_Check k_0_0 k_0_1 w K = shF Try.prog 84 ⟨[], [], []⟩ [.agg #[.int .i64 k_0_0, .int .i64 k_0_1]] w (fun v w' => decV (.int .i64) v fun y0 => K y0 w') := by kernel_rfl
  exact Calls.mono (calls_of _ e h) (onRet_mono (fun _ _ h => decV_spec h))

-- 82 prelude/preluderef02.all; callees ['preluderef02_Check']
def sh_preluderef02_all (c_preluderef02_Check : Int → Int → World → (Int → World → Prop) → Prop) (l_0 : Slc) (w : World) (K : Bool → World → Prop) : Prop :=
  loopP (σ := Int × Unit) (fun st2 next1 w3 => (fun (i_4 : Int) => iteB (decide ((i_4 : Int) < (l_0.l : Int)))
  (idxP l_0.a l_0.l i_4 2 fun a5 => ldI .i64 a5 w3 fun n6 => ldI .i64 (a5.add 1) w3 fun n7 => c_preluderef02_Check n6 n7 w3 fun r8 w9 => iteB ((r8 : Int) != 0)
  (K false w9)
  (next1 ((IntKind.i64.wrap (i_4 + 1)), ()) w9))
  (K true w3)) st2.1) (0, ()) w

def c_preluderef02_all (l_0 : Slc) (w : World) (K : Bool → World → Prop) : Prop := Calls Try.prog 82 #[.slice l_0.a l_0.l l_0.c] w (onRet (fun v w' => ∃ (y0 : Bool), v = .bool y0 ∧ K y0 w'))

theorem sim_preluderef02_all {l_0 : Slc} {w : World} {K : Bool → World → Prop} (h : sh_preluderef02_all c_preluderef02_Check l_0 w K) : c_preluderef02_all l_0 w K := by
  have e : sh_preluderef02_all c_preluderef02_Check l_0 w K = shF Try.prog 82 ⟨[], [(2, [(3, (.int .i64))], [0])], []⟩ [.slice l_0.a l_0.l l_0.c] w (fun v w' => decV .b v fun y0 => K y0 w') := by kernel_rfl
  exact Calls.mono (calls_of _ e h) (onRet_mono (fun _ _ h => decV_spec h))

-- 83 prelude/preluderef02.Compare; callees []
def sh_preluderef02_Compare (a_0_0 : Int) (a_0_1 : Int) (b_1_0 : Int) (b_1_1 : Int) (w : World) (K : Int → World → Prop) : Prop :=
  newP #[.int .i64 a_0_0, .int .i64 a_0_1] 70 w fun a1 w2 => newP #[.int .i64 b_1_0, .int .i64 b_1_1] 70 w2 fun a3 w4 => ldI .i64 a1 w4 fun n5 => ldI .i64 a3 w4 fun n6 => iteB (decide ((n5 : Int) < n6))
  (K (-1) w4)
  (ldI .i64 a1 w4 fun n7 => ldI .i64 a3 w4 fun n8 => iteB (decide ((n7 : Int) > n8))
  (K 1 w4)
  (ldI .i64 (a1.add 1) w4 fun n9 => ldI .i64 (a3.add 1) w4 fun n10 => iteB (decide ((n9 : Int) < n10))
  (K (-1) w4)
  (ldI .i64 (a1.add 1) w4 fun n11 => ldI .i64 (a3.add 1) w4 fun n12 => iteB (decide ((n11 : Int) > n12))
  (K 1 w4)
  (K 0 w4))))

def c_preluderef02_Compare (a_0_0 : Int) (a_0_1 : Int) (b_1_0 : Int) (b_1_1 : Int) (w : World) (K : Int → World → Prop) : Prop := Calls Try.prog 83 #[.agg #[.int .i64 a_0_0, .int .i64 a_0_1], .agg #[.int .i64 b_1_0, .int .i64 b_1_1]] w (onRet (fun v w' => ∃ (y0 : Int), v = .int .i64 y0 ∧ K y0 w'))

theorem sim_preluderef02_Compare {a_0_0 : Int} {a_0_1 : Int} {b_1_0 : Int} {b_1_1 : Int} {w : World} {K : Int → World → Prop} (h : sh_preluderef02_Compare a_0_0 a_0_1 b_1_0 b_1_1 w K) : c_preluderef02_Compare a_0_0 a_0_1 b_1_0 b_1_1 w K := by
  have e : sh_preluderef02_Compare a_0_0 a_0_1 b_1_0 b_1_1 w K = shF Try.prog 83 ⟨[], [], []⟩ [.agg #[.int .i64 a_0_0, .int .i64 a_0_1], .agg #[.int .i64 b_1_0, .int .i64 b_1_1]] w (fun v w' => decV (.int .i64) v fun y0 => K y0 w') := by kernel_rfl
  exact Calls.mono (calls_of _ e h) (onRet_mono (fun _ _ h => decV_spec h))

-- 71 prelude/preluderef02.Rises; callees ['preluderef02_all', 'preluderef02_Compare']
def sh_preluderef02_Rises (c_preluderef02_all : Slc → World → (Bool → World → Prop) → Prop) (c_preluderef02_Compare : Int → Int → Int → Int → World → (Int → World → Prop) → Prop) (l_0 : Slc) (w : World) (K : Bool → World → Prop) : Prop :=
  c_preluderef02_all l_0 w fun r1 w2 => loopP (σ := Bool × Int × Unit) (fun st4 next3 w5 => (fun (ok_6 : Bool) (i_7 : Int) => iteB (decide ((i_7 : Int) < (l_0.l : Int)))
  (iteB ok_6
  (idxP l_0.a l_0.l (IntKind.i64.wrap (i_7 - 1)) 2 fun a8 => ldI .i64 a8 w5.drew fun n9 => ldI .i64 (a8.add 1) w5.drew fun n10 => idxP l_0.a l_0.l i_7 2 fun a11 => ldI .i64 a11 w5.drew fun n12 => ldI .i64 (a11.add 1) w5.drew fun n13 => c_preluderef02_Compare n9 n10 n12 n13 w5.drew fun r14 w15 => next3 ((decide ((r14 : Int) < 0)), (IntKind.i64.wrap (i_7 + 1)), ()) w15)
  (next3 (false, (IntKind.i64.wrap (i_7 + 1)), ()) w5.drew))
  (K ok_6 w5)) st4.1 st4.2.1) (r1, 1, ()) w2

def c_preluderef02_Rises (l_0 : Slc) (w : World) (K : Bool → World → Prop) : Prop := Calls Try.prog 71 #[.slice l_0.a l_0.l l_0.c] w (onRet (fun v w' => ∃ (y0 : Bool), v = .bool y0 ∧ K y0 w'))

theorem sim_preluderef02_Rises {l_0 : Slc} {w : World} {K : Bool → World → Prop} (h : sh_preluderef02_Rises c_preluderef02_all c_preluderef02_Compare l_0 w K) : c_preluderef02_Rises l_0 w K := by
  have e : sh_preluderef02_Rises c_preluderef02_all c_preluderef02_Compare l_0 w K = shF Try.prog 71 ⟨[(5, [0, 1, 2, 3, 4, 5, 6, 7, 8, 9, 10, 11, 12, 13, 14])], [(3, [(3, .b), (4, (.int .i64))], [0])], []⟩ [.slice l_0.a l_0.l l_0.c] w (fun v w' => decV .b v fun y0 => K y0 w') := by kernel_rfl
  exact Calls.mono (calls_of _ e h) (onRet_mono (fun _ _ h => decV_spec h))

-- 51 prelude/preluderef06.Formed; callees ['preluderef02_Rises']
def sh_preluderef06_Formed (c_preluderef02_Rises : Slc → World → (Bool → World → Prop) → Prop) (x_0_0 : Int) (x_0_1 : Slc) (x_0_2 : Slc) (x_0_3 : Slc) (w : World) (K : Int → World → Prop) : Prop :=
  newP #[.int .i64 x_0_0, .slice x_0_1.a x_0_1.l x_0_1.c, .slice x_0_2.a x_0_2.l x_0_2.c, .slice x_0_3.a x_0_3.l x_0_3.c] 66 w fun a1 w2 => ldI .i64 a1 w2 fun n3 => iteB (decide ((n3 : Int) < 0))
  (K 61 w2)
  (ldI .i64 a1 w2 fun n4 => iteB (decide ((n4 : Int) ≥ 64))
  (K 61 w2)
  (ldS (a1.add 1) w2 fun s5 => iteB (decide (((s5.l : Int) : Int) > 16))
  (K 62 w2)
  (ldS (a1.add 2) w2 fun s6 => iteB (decide (((s6.l : Int) : Int) > 16))
  (K 63 w2)
  (ldS (a1.add 3) w2 fun s7 => iteB (decide (((s7.l : Int) : Int) > 16))
  (K 64 w2)
  (ldS (a1.add 2) w2 fun s8 => c_preluderef02_Rises s8 w2 fun r9 w10 => ldS (a1.add 3) w10 fun s11 => c_preluderef02_Rises s11 w10 fun r12 w13 => iteB (!r9)
  (K 65 w13)
  (iteB (!r12)
  (K 65 w13)
  (K 0 w13)))))))

def c_preluderef06_Formed (x_0_0 : Int) (x_0_1 : Slc) (x_0_2 : Slc) (x_0_3 : Slc) (w : World) (K : Int → World → Prop) : Prop := Calls Try.prog 51 #[.agg #[.int .i64 x_0_0, .slice x_0_1.a x_0_1.l x_0_1.c, .slice x_0_2.a x_0_2.l x_0_2.c, .slice x_0_3.a x_0_3.l x_0_3.c]] w (onRet (fun v w' => ∃ (y0 : Int), v = .int .i64 y0 ∧ K y0 w'))

theorem sim_preluderef06_Formed {x_0_0 : Int} {x_0_1 : Slc} {x_0_2 : Slc} {x_0_3 : Slc} {w : World} {K : Int → World → Prop} (h : sh_preluderef06_Formed c_preluderef02_Rises x_0_0 x_0_1 x_0_2 x_0_3 w K) : c_preluderef06_Formed x_0_0 x_0_1 x_0_2 x_0_3 w K := by
  have e : sh_preluderef06_Formed c_preluderef02_Rises x_0_0 x_0_1 x_0_2 x_0_3 w K = shF Try.prog 51 ⟨[], [], []⟩ [.agg #[.int .i64 x_0_0, .slice x_0_1.a x_0_1.l x_0_1.c, .slice x_0_2.a x_0_2.l x_0_2.c, .slice x_0_3.a x_0_3.l x_0_3.c]] w (fun v w' => decV (.int .i64) v fun y0 => K y0 w') := by kernel_rfl
  exact Calls.mono (calls_of _ e h) (onRet_mono (fun _ _ h => decV_spec h))

-- 42 prelude/preluderef06.Sound; callees ['preluderef06_Formed']
def sh_preluderef06_Sound (c_preluderef06_Formed : Int → Slc → Slc → Slc → World → (Int → World → Prop) → Prop) (lib_0 : Slc) (x_1_0 : Int) (x_1_1 : Slc) (x_1_2 : Slc) (x_1_3 : Slc) (w : World) (K : Int → World → Prop) : Prop :=
  newP #[.int .i64 x_1_0, .slice x_1_1.a x_1_1.l x_1_1.c, .slice x_1_2.a x_1_2.l x_1_2.c, .slice x_1_3.a x_1_3.l x_1_3.c] 66 w fun a1 w2 => ldI .i64 a1 w2 fun n3 => iteB (decide ((n3 : Int) < 0))
  (K 61 w2)
  (ldI .i64 a1 w2 fun n4 => iteB (decide ((n4 : Int) ≥ (lib_0.l : Int)))
  (K 61 w2)
  (ldI .i64 a1 w2 fun n5 => idxP lib_0.a lib_0.l n5 6 fun a6 => ldI .i64 (a6.add 1) w2 fun n7 => ldI .i64 ((a6.add 1).add 1) w2 fun n8 => ldI .i64 ((a6.add 1).add 2) w2 fun n9 => ldI .i64 ((a6.add 1).add 3) w2 fun n10 => ldS ((a6.add 1).add 4) w2 fun s11 => newP #[.int .i64 0, .int .i64 0, .int .i64 0, .int .i64 0, .slice none 0 0] 75 w2 fun a12 w13 => stP a12 (.int .i64 n7) w13 fun w14 => stP (a12.add 1) (.int .i64 n8) w14 fun w15 => stP (a12.add 2) (.int .i64 n9) w15 fun w16 => stP (a12.add 3) (.int .i64 n10) w16 fun w17 => stP (a12.add 4) (.slice s11.a s11.l s11.c) w17 fun w18 => ldS (a1.add 1) w18 fun s19 => ldI .i64 a12 w18 fun n20 => iteB (((s19.l : Int) : Int) != n20)
  (K 62 w18)
  (ldS (a1.add 2) w18 fun s21 => ldI .i64 (a12.add 1) w18 fun n22 => iteB (((s21.l : Int) : Int) != n22)
  (K 63 w18)
  (ldS (a1.add 3) w18 fun s23 => ldI .i64 (a12.add 2) w18 fun n24 => iteB (((s23.l : Int) : Int) != n24)
  (K 64 w18)
  (ldI .i64 a1 w18 fun n25 => ldS (a1.add 1) w18 fun s26 => ldS (a1.add 2) w18 fun s27 => ldS (a1.add 3) w18 fun s28 => c_preluderef06_Formed n25 s26 s27 s28 w18 fun r29 w30 => K r29 w30)))))

def c_preluderef06_Sound (lib_0 : Slc) (x_1_0 : Int) (x_1_1 : Slc) (x_1_2 : Slc) (x_1_3 : Slc) (w : World) (K : Int → World → Prop) : Prop := Calls Try.prog 42 #[.slice lib_0.a lib_0.l lib_0.c, .agg #[.int .i64 x_1_0, .slice x_1_1.a x_1_1.l x_1_1.c, .slice x_1_2.a x_1_2.l x_1_2.c, .slice x_1_3.a x_1_3.l x_1_3.c]] w (onRet (fun v w' => ∃ (y0 : Int), v = .int .i64 y0 ∧ K y0 w'))

theorem sim_preluderef06_Sound {lib_0 : Slc} {x_1_0 : Int} {x_1_1 : Slc} {x_1_2 : Slc} {x_1_3 : Slc} {w : World} {K : Int → World → Prop} (h : sh_preluderef06_Sound c_preluderef06_Formed lib_0 x_1_0 x_1_1 x_1_2 x_1_3 w K) : c_preluderef06_Sound lib_0 x_1_0 x_1_1 x_1_2 x_1_3 w K := by
  have e : sh_preluderef06_Sound c_preluderef06_Formed lib_0 x_1_0 x_1_1 x_1_2 x_1_3 w K = shF Try.prog 42 ⟨[], [], []⟩ [.slice lib_0.a lib_0.l lib_0.c, .agg #[.int .i64 x_1_0, .slice x_1_1.a x_1_1.l x_1_1.c, .slice x_1_2.a x_1_2.l x_1_2.c, .slice x_1_3.a x_1_3.l x_1_3.c]] w (fun v w' => decV (.int .i64) v fun y0 => K y0 w') := by kernel_rfl
  exact Calls.mono (calls_of _ e h) (onRet_mono (fun _ _ h => decV_spec h))

-- 22 prelude/preluderef06.Check; callees ['preluderef06_Sound']
def sh_preluderef06_Check (c_preluderef06_Sound : Slc → Int → Slc → Slc → Slc → World → (Int → World → Prop) → Prop) (lib_0 : Slc) (b_1 : Slc) (w : World) (K : Int → Int → World → Prop) : Prop :=
  iteB (decide (((b_1.l : Int) : Int) > 64))
  (K 0 60 w)
  (loopP (σ := Int × Unit) (fun st2 next1 w3 => (fun (i_4 : Int) => iteB (decide ((i_4 : Int) < (b_1.l : Int)))
  (idxP b_1.a b_1.l i_4 4 fun a5 => ldI .i64 a5 w3 fun n6 => ldS (a5.add 1) w3 fun s7 => ldS (a5.add 2) w3 fun s8 => ldS (a5.add 3) w3 fun s9 => c_preluderef06_Sound lib_0 n6 s7 s8 s9 w3 fun r10 w11 => iteB ((r10 : Int) != 0)
  (K i_4 r10 w11)
  (next1 ((IntKind.i64.wrap (i_4 + 1)), ()) w11))
  (K 0 0 w3)) st2.1) (0, ()) w)

def c_preluderef06_Check (lib_0 : Slc) (b_1 : Slc) (w : World) (K : Int → Int → World → Prop) : Prop := Calls Try.prog 22 #[.slice lib_0.a lib_0.l lib_0.c, .slice b_1.a b_1.l b_1.c] w (onRet (fun v w' => ∃ (y0 : Int), ∃ (y1 : Int), v = .tuple #[.int .i64 y0, .int .i64 y1] ∧ K y0 y1 w'))

theorem sim_preluderef06_Check {lib_0 : Slc} {b_1 : Slc} {w : World} {K : Int → Int → World → Prop} (h : sh_preluderef06_Check c_preluderef06_Sound lib_0 b_1 w K) : c_preluderef06_Check lib_0 b_1 w K := by
  have e : sh_preluderef06_Check c_preluderef06_Sound lib_0 b_1 w K = shF Try.prog 22 ⟨[], [(4, [(6, (.int .i64))], [0, 1])], []⟩ [.slice lib_0.a lib_0.l lib_0.c, .slice b_1.a b_1.l b_1.c] w (fun v w' => decT [(false, [(.int .i64)]), (false, [(.int .i64)])] v fun s => (fun (y0 : Int) (y1 : Int) => K y0 y1 w') s.1 s.2.1) := by kernel_rfl
  exact Calls.mono (calls_of _ e h) (onRet_mono (fun _ _ h => by obtain ⟨s, h1, h2⟩ := decT_spec h; exact ⟨s.1, s.2.1, h1, h2⟩))

-- 23 prelude/preludelaw06.num; callees []
def sh_preludelaw06_num (e_0 : Int) (w : World) (K : Int → World → Prop) : Prop :=
  K e_0 w

def c_preludelaw06_num (e_0 : Int) (w : World) (K : Int → World → Prop) : Prop := Calls Try.prog 23 #[.int .i64 e_0] w (onRet (fun v w' => ∃ (y0 : Int), v = .int .i64 y0 ∧ K y0 w'))

theorem sim_preludelaw06_num {e_0 : Int} {w : World} {K : Int → World → Prop} (h : sh_preludelaw06_num e_0 w K) : c_preludelaw06_num e_0 w K := by
  have e : sh_preludelaw06_num e_0 w K = shF Try.prog 23 ⟨[], [], []⟩ [.int .i64 e_0] w (fun v w' => decV (.int .i64) v fun y0 => K y0 w') := by kernel_rfl
  exact Calls.mono (calls_of _ e h) (onRet_mono (fun _ _ h => decV_spec h))

-- 4 prelude/preludelaw06.BatchChecks; callees ['preluderef04_Parts', 'preluderef06_Parts', 'preludelaw06_lent', 'batch_Check', 'preluderef06_Check', 'preludelaw06_num', 'preludelaw06_back']
def sh_preludelaw06_BatchChecks (c_preluderef04_Parts : Slc → Int → World → (Int → World → Prop) → Prop) (c_preluderef06_Parts : Slc → Int → World → (Int → World → Prop) → Prop) (c_preludelaw06_lent : Slc → World → (Slc → World → Prop) → Prop) (c_batch_Check : Slc → Slc → World → (Int → Int → World → Prop) → Prop) (c_preluderef06_Check : Slc → Slc → World → (Int → Int → World → Prop) → Prop) (c_preludelaw06_num : Int → World → (Int → World → Prop) → Prop) (c_preludelaw06_back : Slc → Slc → World → (Bool → World → Prop) → Prop) (lib_0 : Slc) (b_1 : Slc) (w : World) (K : Bool → World → Prop) : Prop :=
  c_preluderef04_Parts lib_0 100000 w fun r1 w2 => c_preluderef06_Parts b_1 r1 w2 fun r3 w4 => iteB (decide ((r3 : Int) < 0))
  (K true w4)
  (c_preludelaw06_lent b_1 w4 fun r5 w6 => c_batch_Check lib_0 r5 w6 fun r7 r8 w9 => c_preluderef06_Check lib_0 b_1 w9 fun r10 r11 w12 => iteB ((r7 : Int) == r10)
  (c_preludelaw06_num r8 w12 fun r13 w14 => iteB ((r13 : Int) == r11)
  (c_preludelaw06_back r5 b_1 w14 fun r15 w16 => K r15 w16)
  (K false w14))
  (K false w12))

def c_preludelaw06_BatchChecks (lib_0 : Slc) (b_1 : Slc) (w : World) (K : Bool → World → Prop) : Prop := Calls Try.prog 4 #[.slice lib_0.a lib_0.l lib_0.c, .slice b_1.a b_1.l b_1.c] w (onRet (fun v w' => ∃ (y0 : Bool), v = .bool y0 ∧ K y0 w'))

theorem sim_preludelaw06_BatchChecks {lib_0 : Slc} {b_1 : Slc} {w : World} {K : Bool → World → Prop} (h : sh_preludelaw06_BatchChecks c_preluderef04_Parts c_preluderef06_Parts c_preludelaw06_lent c_batch_Check c_preluderef06_Check c_preludelaw06_num c_preludelaw06_back lib_0 b_1 w K) : c_preludelaw06_BatchChecks lib_0 b_1 w K := by
  have e : sh_preludelaw06_BatchChecks c_preluderef04_Parts c_preluderef06_Parts c_preludelaw06_lent c_batch_Check c_preluderef06_Check c_preludelaw06_num c_preludelaw06_back lib_0 b_1 w K = shF Try.prog 4 ⟨[], [], []⟩ [.slice lib_0.a lib_0.l lib_0.c, .slice b_1.a b_1.l b_1.c] w (fun v w' => decV .b v fun y0 => K y0 w') := by kernel_rfl
  exact Calls.mono (calls_of _ e h) (onRet_mono (fun _ _ h => decV_spec h))

-- 67 prelude/keys.Check; callees []
def sh_keys_Check (k_0_0 : Int) (k_0_1 : Int) (w : World) (K : Int → World → Prop) : Prop :=
  newP #[.int .i64 k_0_0, .int .i64 k_0_1] 70 w fun a1 w2 => ldI .i64 a1 w2 fun n3 => iteB (decide ((n3 : Int) < 0))
  (K 20 w2)
  (ldI .i64 a1 w2 fun n4 => iteB (decide ((n4 : Int) > 65535))
  (K 20 w2)
  (K 0 w2))

def c_keys_Check (k_0_0 : Int) (k_0_1 : Int) (w : World) (K : Int → World → Prop) : Prop := Calls Try.prog 67 #[.agg #[.int .i64 k_0_0, .int .i64 k_0_1]] w (onRet (fun v w' => ∃ (y0 : Int), v = .int .i64 y0 ∧ K y0 w'))

theorem sim_keys_Check {k_0_0 : Int} {k_0_1 : Int} {w : World} {K : Int → World → Prop} (h : sh_keys_Check k_0_0 k_0_1 w K) : c_keys_Check k_0_0 k_0_1 w K := by
  have e : sh_keys_Check k_0_0 k_0_1 w K = shF Try.prog 67 ⟨[], [], []⟩ [.agg #[.int .i64 k_0_0, .int .i64 k_0_1]] w (fun v w' => decV (.int .i64) v fun y0 => K y0 w') := by kernel_rfl
  exact Calls.mono (calls_of _ e h) (onRet_mono (fun _ _ h => decV_spec h))

-- 98 cmp.isNaN[int]; callees []
def sh_cmp_isNaN_int (x_0 : Int) (w : World) (K : Bool → World → Prop) : Prop :=
  K ((x_0 : Int) != x_0) w

def c_cmp_isNaN_int (x_0 : Int) (w : World) (K : Bool → World → Prop) : Prop := Calls Try.prog 98 #[.int .i64 x_0] w (onRet (fun v w' => ∃ (y0 : Bool), v = .bool y0 ∧ K y0 w'))

theorem sim_cmp_isNaN_int {x_0 : Int} {w : World} {K : Bool → World → Prop} (h : sh_cmp_isNaN_int x_0 w K) : c_cmp_isNaN_int x_0 w K := by
  have e : sh_cmp_isNaN_int x_0 w K = shF Try.prog 98 ⟨[], [], []⟩ [.int .i64 x_0] w (fun v w' => decV .b v fun y0 => K y0 w') := by kernel_rfl
  exact Calls.mono (calls_of _ e h) (onRet_mono (fun _ _ h => decV_spec h))

-- 96 cmp.Compare[int]; callees ['cmp_isNaN_int']
def sh_cmp_Compare_int (c_cmp_isNaN_int : Int → World → (Bool → World → Prop) → Prop) (x_0 : Int) (y_1 : Int) (w : World) (K : Int → World → Prop) : Prop :=
  c_cmp_isNaN_int x_0 w fun r1 w2 => c_cmp_isNaN_int y_1 w2 fun r3 w4 => iteB r1
  (iteB r3
  (K 0 w4)
  (K (-1) w4))
  (iteB r3
  (K 1 w4)
  (iteB (decide ((x_0 : Int) < y_1))
  (K (-1) w4)
  (iteB (decide ((x_0 : Int) > y_1))
  (K 1 w4)
  (K 0 w4))))

def c_cmp_Compare_int (x_0 : Int) (y_1 : Int) (w : World) (K : Int → World → Prop) : Prop := Calls Try.prog 96 #[.int .i64 x_0, .int .i64 y_1] w (onRet (fun v w' => ∃ (y0 : Int), v = .int .i64 y0 ∧ K y0 w'))

theorem sim_cmp_Compare_int {x_0 : Int} {y_1 : Int} {w : World} {K : Int → World → Prop} (h : sh_cmp_Compare_int c_cmp_isNaN_int x_0 y_1 w K) : c_cmp_Compare_int x_0 y_1 w K := by
  have e : sh_cmp_Compare_int c_cmp_isNaN_int x_0 y_1 w K = shF Try.prog 96 ⟨[], [], []⟩ [.int .i64 x_0, .int .i64 y_1] w (fun v w' => decV (.int .i64) v fun y0 => K y0 w') := by kernel_rfl
  exact Calls.mono (calls_of _ e h) (onRet_mono (fun _ _ h => decV_spec h))

-- 99 cmp.isNaN[int64]; callees []
def sh_cmp_isNaN_int64 (x_0 : Int) (w : World) (K : Bool → World → Prop) : Prop :=
  K ((x_0 : Int) != x_0) w

def c_cmp_isNaN_int64 (x_0 : Int) (w : World) (K : Bool → World → Prop) : Prop := Calls Try.prog 99 #[.int .i64 x_0] w (onRet (fun v w' => ∃ (y0 : Bool), v = .bool y0 ∧ K y0 w'))

theorem sim_cmp_isNaN_int64 {x_0 : Int} {w : World} {K : Bool → World → Prop} (h : sh_cmp_isNaN_int64 x_0 w K) : c_cmp_isNaN_int64 x_0 w K := by
  have e : sh_cmp_isNaN_int64 x_0 w K = shF Try.prog 99 ⟨[], [], []⟩ [.int .i64 x_0] w (fun v w' => decV .b v fun y0 => K y0 w') := by kernel_rfl
  exact Calls.mono (calls_of _ e h) (onRet_mono (fun _ _ h => decV_spec h))

-- 97 cmp.Compare[int64]; callees ['cmp_isNaN_int64']
def sh_cmp_Compare_int64 (c_cmp_isNaN_int64 : Int → World → (Bool → World → Prop) → Prop) (x_0 : Int) (y_1 : Int) (w : World) (K : Int → World → Prop) : Prop :=
  c_cmp_isNaN_int64 x_0 w fun r1 w2 => c_cmp_isNaN_int64 y_1 w2 fun r3 w4 => iteB r1
  (iteB r3
  (K 0 w4)
  (K (-1) w4))
  (iteB r3
  (K 1 w4)
  (iteB (decide ((x_0 : Int) < y_1))
  (K (-1) w4)
  (iteB (decide ((x_0 : Int) > y_1))
  (K 1 w4)
  (K 0 w4))))

def c_cmp_Compare_int64 (x_0 : Int) (y_1 : Int) (w : World) (K : Int → World → Prop) : Prop := Calls Try.prog 97 #[.int .i64 x_0, .int .i64 y_1] w (onRet (fun v w' => ∃ (y0 : Int), v = .int .i64 y0 ∧ K y0 w'))

theorem sim_cmp_Compare_int64 {x_0 : Int} {y_1 : Int} {w : World} {K : Int → World → Prop} (h : sh_cmp_Compare_int64 c_cmp_isNaN_int64 x_0 y_1 w K) : c_cmp_Compare_int64 x_0 y_1 w K := by
  have e : sh_cmp_Compare_int64 c_cmp_isNaN_int64 x_0 y_1 w K = shF Try.prog 97 ⟨[], [], []⟩ [.int .i64 x_0, .int .i64 y_1] w (fun v w' => decV (.int .i64) v fun y0 => K y0 w') := by kernel_rfl
  exact Calls.mono (calls_of _ e h) (onRet_mono (fun _ _ h => decV_spec h))

-- 95 cmp.Or[int]; callees []
def sh_cmp_Or_int (vals_0 : Slc) (w : World) (K : Int → World → Prop) : Prop :=
  loopP (σ := Int × Unit) (fun st2 next1 w3 => (fun (x4 : Int) => iteB (decide ((x4 : Int) < (vals_0.l : Int)))
  (idxP vals_0.a vals_0.l x4 1 fun a5 => ldI .i64 a5 w3 fun n6 => iteB ((n6 : Int) != 0)
  (K n6 w3)
  (next1 ((IntKind.i64.wrap (x4 + 1)), ()) w3))
  (K 0 w3)) st2.1) (0, ()) w

def c_cmp_Or_int (vals_0 : Slc) (w : World) (K : Int → World → Prop) : Prop := Calls Try.prog 95 #[.slice vals_0.a vals_0.l vals_0.c] w (onRet (fun v w' => ∃ (y0 : Int), v = .int .i64 y0 ∧ K y0 w'))

theorem sim_cmp_Or_int {vals_0 : Slc} {w : World} {K : Int → World → Prop} (h : sh_cmp_Or_int vals_0 w K) : c_cmp_Or_int vals_0 w K := by
  have e : sh_cmp_Or_int vals_0 w K = shF Try.prog 95 ⟨[], [(3, [(8, (.int .i64))], [3, 6, 7])], []⟩ [.slice vals_0.a vals_0.l vals_0.c] w (fun v w' => decV (.int .i64) v fun y0 => K y0 w') := by kernel_rfl
  exact Calls.mono (calls_of _ e h) (onRet_mono (fun _ _ h => decV_spec h))

-- 81 prelude/keys.Compare; callees ['cmp_Compare_int', 'cmp_Compare_int64', 'cmp_Or_int']
def sh_keys_Compare (c_cmp_Compare_int : Int → Int → World → (Int → World → Prop) → Prop) (c_cmp_Compare_int64 : Int → Int → World → (Int → World → Prop) → Prop) (c_cmp_Or_int : Slc → World → (Int → World → Prop) → Prop) (a_0_0 : Int) (a_0_1 : Int) (b_1_0 : Int) (b_1_1 : Int) (w : World) (K : Int → World → Prop) : Prop :=
  newP #[.int .i64 a_0_0, .int .i64 a_0_1] 70 w fun a1 w2 => newP #[.int .i64 b_1_0, .int .i64 b_1_1] 70 w2 fun a3 w4 => ldI .i64 a1 w4 fun n5 => ldI .i64 (a1.add 1) w4 fun n6 => ldI .i64 a3 w4 fun n7 => ldI .i64 (a3.add 1) w4 fun n8 => (∃ (r9 : Bool), ∃ w10, (do eqGuard .eql 70 (.tmp 5) (.tmp 6) (.agg #[.int .i64 n5, .int .i64 n6]) (.agg #[.int .i64 n7, .int .i64 n8]); binOp .eql 70 (.agg #[.int .i64 n5, .int .i64 n6]) (.agg #[.int .i64 n7, .int .i64 n8])).run Try.prog w4 = .ok (.bool r9) w10 ∧ (iteB r9
  (K 0 w10)
  (ldI .i64 a1 w10.drew fun n11 => ldI .i64 a3 w10.drew fun n12 => ldI .i64 (a1.add 1) w10.drew fun n13 => ldI .i64 (a3.add 1) w10.drew fun n14 => c_cmp_Compare_int n11 n12 w10.drew fun r15 w16 => w16.cell? (a3.add 1) = some (.int .i64 n14) ∧ w16.cell? (a1.add 1) = some (.int .i64 n13) ∧ (c_cmp_Compare_int64 n13 n14 w16 fun r17 w18 => newP #[.int .i64 r15, .int .i64 r17] 3 w18 fun a19 w20 => c_cmp_Or_int ⟨(some a19), 2, 2⟩ w20 fun r21 w22 => K r21 w22))))

def c_keys_Compare (a_0_0 : Int) (a_0_1 : Int) (b_1_0 : Int) (b_1_1 : Int) (w : World) (K : Int → World → Prop) : Prop := Calls Try.prog 81 #[.agg #[.int .i64 a_0_0, .int .i64 a_0_1], .agg #[.int .i64 b_1_0, .int .i64 b_1_1]] w (onRet (fun v w' => ∃ (y0 : Int), v = .int .i64 y0 ∧ K y0 w'))

theorem sim_keys_Compare {a_0_0 : Int} {a_0_1 : Int} {b_1_0 : Int} {b_1_1 : Int} {w : World} {K : Int → World → Prop} (h : sh_keys_Compare c_cmp_Compare_int c_cmp_Compare_int64 c_cmp_Or_int a_0_0 a_0_1 b_1_0 b_1_1 w K) : c_keys_Compare a_0_0 a_0_1 b_1_0 b_1_1 w K := by
  have e : sh_keys_Compare c_cmp_Compare_int c_cmp_Compare_int64 c_cmp_Or_int a_0_0 a_0_1 b_1_0 b_1_1 w K = shF Try.prog 81 ⟨[(3, [0, 1, 2, 3, 5, 6, 7, 8, 4, 9, 10, 11, 12])], [], []⟩ [.agg #[.int .i64 a_0_0, .int .i64 a_0_1], .agg #[.int .i64 b_1_0, .int .i64 b_1_1]] w (fun v w' => decV (.int .i64) v fun y0 => K y0 w') := by kernel_rfl
  exact Calls.mono (calls_of _ e h) (onRet_mono (fun _ _ h => decV_spec h))

-- 66 prelude/keys.Rises; callees ['keys_Check', 'keys_Compare']
def sh_keys_Rises (c_keys_Check : Int → Int → World → (Int → World → Prop) → Prop) (c_keys_Compare : Int → Int → Int → Int → World → (Int → World → Prop) → Prop) (l_0 : Slc) (w : World) (K : Bool → World → Prop) : Prop :=
  loopP (σ := Int × Unit) (fun st2 next1 w3 => (fun (x4 : Int) => iteB (decide ((x4 : Int) < (l_0.l : Int)))
  (idxP l_0.a l_0.l x4 2 fun a5 => ldI .i64 a5 w3 fun n6 => ldI .i64 (a5.add 1) w3 fun n7 => newP #[.int .i64 0, .int .i64 0] 70 w3 fun a8 w9 => stP a8 (.int .i64 n6) w9 fun w10 => stP (a8.add 1) (.int .i64 n7) w10 fun w11 => ldI .i64 a8 w11.drew fun n12 => ldI .i64 (a8.add 1) w11.drew fun n13 => c_keys_Check n12 n13 w11.drew fun r14 w15 => iteB ((r14 : Int) != 0)
  (K false w15)
  (iteB (decide ((x4 : Int) > 0))
  (idxP l_0.a l_0.l (IntKind.i64.wrap (x4 - 1)) 2 fun a16 => ldI .i64 a16 w15 fun n17 => ldI .i64 (a16.add 1) w15 fun n18 => ldI .i64 a8 w15 fun n19 => ldI .i64 (a8.add 1) w15 fun n20 => c_keys_Compare n17 n18 n19 n20 w15 fun r21 w22 => iteB (decide ((r21 : Int) ≥ 0))
  (K false w22)
  (next1 ((IntKind.i64.wrap (x4 + 1)), ()) w22))
  (next1 ((IntKind.i64.wrap (x4 + 1)), ()) w15)))
  (K true w3)) st2.1) (0, ()) w

def c_keys_Rises (l_0 : Slc) (w : World) (K : Bool → World → Prop) : Prop := Calls Try.prog 66 #[.slice l_0.a l_0.l l_0.c] w (onRet (fun v w' => ∃ (y0 : Bool), v = .bool y0 ∧ K y0 w'))

theorem sim_keys_Rises {l_0 : Slc} {w : World} {K : Bool → World → Prop} (h : sh_keys_Rises c_keys_Check c_keys_Compare l_0 w K) : c_keys_Rises l_0 w K := by
  have e : sh_keys_Rises c_keys_Check c_keys_Compare l_0 w K = shF Try.prog 66 ⟨[(4, [0, 1, 2, 3, 4, 5, 6, 7, 8, 9, 10, 11, 12, 13, 14, 15, 16])], [(2, [(7, (.int .i64))], [0, 5, 6])], []⟩ [.slice l_0.a l_0.l l_0.c] w (fun v w' => decV .b v fun y0 => K y0 w') := by kernel_rfl
  exact Calls.mono (calls_of _ e h) (onRet_mono (fun _ _ h => decV_spec h))

-- 43 prelude/batch.formed; callees ['keys_Rises']
def sh_batch_formed (c_keys_Rises : Slc → World → (Bool → World → Prop) → Prop) (x_0_0 : Int) (x_0_1 : Slc) (x_0_2 : Slc) (x_0_3 : Slc) (w : World) (K : Int → World → Prop) : Prop :=
  newP #[.int .i64 x_0_0, .slice x_0_1.a x_0_1.l x_0_1.c, .slice x_0_2.a x_0_2.l x_0_2.c, .slice x_0_3.a x_0_3.l x_0_3.c] 66 w fun a1 w2 => ldI .i64 a1 w2 fun n3 => iteB (decide ((n3 : Int) < 0))
  (K 61 w2)
  (ldI .i64 a1 w2 fun n4 => iteB (decide ((n4 : Int) ≥ 64))
  (K 61 w2)
  (ldS (a1.add 1) w2 fun s5 => iteB (decide (((s5.l : Int) : Int) > 16))
  (K 62 w2)
  (ldS (a1.add 2) w2 fun s6 => iteB (decide (((s6.l : Int) : Int) > 16))
  (K 63 w2)
  (ldS (a1.add 3) w2 fun s7 => iteB (decide (((s7.l : Int) : Int) > 16))
  (K 64 w2)
  (ldS (a1.add 2) w2 fun s8 => c_keys_Rises s8 w2 fun r9 w10 => iteB (!r9)
  (K 65 w10)
  (ldS (a1.add 3) w10 fun s11 => c_keys_Rises s11 w10 fun r12 w13 => iteB (!r12)
  (K 65 w13)
  (K 0 w13)))))))

def c_batch_formed (x_0_0 : Int) (x_0_1 : Slc) (x_0_2 : Slc) (x_0_3 : Slc) (w : World) (K : Int → World → Prop) : Prop := Calls Try.prog 43 #[.agg #[.int .i64 x_0_0, .slice x_0_1.a x_0_1.l x_0_1.c, .slice x_0_2.a x_0_2.l x_0_2.c, .slice x_0_3.a x_0_3.l x_0_3.c]] w (onRet (fun v w' => ∃ (y0 : Int), v = .int .i64 y0 ∧ K y0 w'))

theorem sim_batch_formed {x_0_0 : Int} {x_0_1 : Slc} {x_0_2 : Slc} {x_0_3 : Slc} {w : World} {K : Int → World → Prop} (h : sh_batch_formed c_keys_Rises x_0_0 x_0_1 x_0_2 x_0_3 w K) : c_batch_formed x_0_0 x_0_1 x_0_2 x_0_3 w K := by
  have e : sh_batch_formed c_keys_Rises x_0_0 x_0_1 x_0_2 x_0_3 w K = shF Try.prog 43 ⟨[], [], []⟩ [.agg #[.int .i64 x_0_0, .slice x_0_1.a x_0_1.l x_0_1.c, .slice x_0_2.a x_0_2.l x_0_2.c, .slice x_0_3.a x_0_3.l x_0_3.c]] w (fun v w' => decV (.int .i64) v fun y0 => K y0 w') := by kernel_rfl
  exact Calls.mono (calls_of _ e h) (onRet_mono (fun _ _ h => decV_spec h))

-- 41 prelude/batch.fits; callees ['batch_formed']
def sh_batch_fits (c_batch_formed : Int → Slc → Slc → Slc → World → (Int → World → Prop) → Prop) (lib_0 : Slc) (x_1_0 : Int) (x_1_1 : Slc) (x_1_2 : Slc) (x_1_3 : Slc) (w : World) (K : Int → World → Prop) : Prop :=
  newP #[.int .i64 x_1_0, .slice x_1_1.a x_1_1.l x_1_1.c, .slice x_1_2.a x_1_2.l x_1_2.c, .slice x_1_3.a x_1_3.l x_1_3.c] 66 w fun a1 w2 => ldI .i64 a1 w2 fun n3 => iteB (decide ((n3 : Int) < 0))
  (K 61 w2)
  (ldI .i64 a1 w2 fun n4 => iteB (decide ((n4 : Int) ≥ (lib_0.l : Int)))
  (K 61 w2)
  (ldI .i64 a1 w2 fun n5 => idxP lib_0.a lib_0.l n5 6 fun a6 => ldI .i64 (a6.add 1) w2 fun n7 => ldI .i64 ((a6.add 1).add 1) w2 fun n8 => ldI .i64 ((a6.add 1).add 2) w2 fun n9 => ldI .i64 ((a6.add 1).add 3) w2 fun n10 => ldS ((a6.add 1).add 4) w2 fun s11 => newP #[.int .i64 0, .int .i64 0, .int .i64 0, .int .i64 0, .slice none 0 0] 75 w2 fun a12 w13 => stP a12 (.int .i64 n7) w13 fun w14 => stP (a12.add 1) (.int .i64 n8) w14 fun w15 => stP (a12.add 2) (.int .i64 n9) w15 fun w16 => stP (a12.add 3) (.int .i64 n10) w16 fun w17 => stP (a12.add 4) (.slice s11.a s11.l s11.c) w17 fun w18 => ldS (a1.add 1) w18 fun s19 => ldI .i64 a12 w18 fun n20 => iteB (((s19.l : Int) : Int) != n20)
  (K 62 w18)
  (ldS (a1.add 2) w18 fun s21 => ldI .i64 (a12.add 1) w18 fun n22 => iteB (((s21.l : Int) : Int) != n22)
  (K 63 w18)
  (ldS (a1.add 3) w18 fun s23 => ldI .i64 (a12.add 2) w18 fun n24 => iteB (((s23.l : Int) : Int) != n24)
  (K 64 w18)
  (ldI .i64 a1 w18 fun n25 => ldS (a1.add 1) w18 fun s26 => ldS (a1.add 2) w18 fun s27 => ldS (a1.add 3) w18 fun s28 => c_batch_formed n25 s26 s27 s28 w18 fun r29 w30 => K r29 w30)))))

def c_batch_fits (lib_0 : Slc) (x_1_0 : Int) (x_1_1 : Slc) (x_1_2 : Slc) (x_1_3 : Slc) (w : World) (K : Int → World → Prop) : Prop := Calls Try.prog 41 #[.slice lib_0.a lib_0.l lib_0.c, .agg #[.int .i64 x_1_0, .slice x_1_1.a x_1_1.l x_1_1.c, .slice x_1_2.a x_1_2.l x_1_2.c, .slice x_1_3.a x_1_3.l x_1_3.c]] w (onRet (fun v w' => ∃ (y0 : Int), v = .int .i64 y0 ∧ K y0 w'))

theorem sim_batch_fits {lib_0 : Slc} {x_1_0 : Int} {x_1_1 : Slc} {x_1_2 : Slc} {x_1_3 : Slc} {w : World} {K : Int → World → Prop} (h : sh_batch_fits c_batch_formed lib_0 x_1_0 x_1_1 x_1_2 x_1_3 w K) : c_batch_fits lib_0 x_1_0 x_1_1 x_1_2 x_1_3 w K := by
  have e : sh_batch_fits c_batch_formed lib_0 x_1_0 x_1_1 x_1_2 x_1_3 w K = shF Try.prog 41 ⟨[], [], []⟩ [.slice lib_0.a lib_0.l lib_0.c, .agg #[.int .i64 x_1_0, .slice x_1_1.a x_1_1.l x_1_1.c, .slice x_1_2.a x_1_2.l x_1_2.c, .slice x_1_3.a x_1_3.l x_1_3.c]] w (fun v w' => decV (.int .i64) v fun y0 => K y0 w') := by kernel_rfl
  exact Calls.mono (calls_of _ e h) (onRet_mono (fun _ _ h => decV_spec h))

-- 40 prelude/batch.Check$1; callees ['batch_fits']
def sh_batch_Check_1 (c_batch_fits : Slc → Int → Slc → Slc → Slc → World → (Int → World → Prop) → Prop) (x_0_0 : Int) (x_0_1 : Slc) (x_0_2 : Slc) (x_0_3 : Slc) (cap_0 : Addr) (w : World) (K : Int → World → Prop) : Prop :=
  newP #[.int .i64 x_0_0, .slice x_0_1.a x_0_1.l x_0_1.c, .slice x_0_2.a x_0_2.l x_0_2.c, .slice x_0_3.a x_0_3.l x_0_3.c] 66 w fun a1 w2 => ldS cap_0 w2 fun s3 => ldI .i64 a1 w2 fun n4 => ldS (a1.add 1) w2 fun s5 => ldS (a1.add 2) w2 fun s6 => ldS (a1.add 3) w2 fun s7 => c_batch_fits s3 n4 s5 s6 s7 w2 fun r8 w9 => K r8 w9

def c_batch_Check_1 (x_0_0 : Int) (x_0_1 : Slc) (x_0_2 : Slc) (x_0_3 : Slc) (cap_0 : Addr) (w : World) (K : Int → World → Prop) : Prop := Calls Try.prog 40 #[.agg #[.int .i64 x_0_0, .slice x_0_1.a x_0_1.l x_0_1.c, .slice x_0_2.a x_0_2.l x_0_2.c, .slice x_0_3.a x_0_3.l x_0_3.c], .pointer (some cap_0)] w (onRet (fun v w' => ∃ (y0 : Int), v = .int .i64 y0 ∧ K y0 w'))

theorem sim_batch_Check_1 {x_0_0 : Int} {x_0_1 : Slc} {x_0_2 : Slc} {x_0_3 : Slc} {cap_0 : Addr} {w : World} {K : Int → World → Prop} (h : sh_batch_Check_1 c_batch_fits x_0_0 x_0_1 x_0_2 x_0_3 cap_0 w K) : c_batch_Check_1 x_0_0 x_0_1 x_0_2 x_0_3 cap_0 w K := by
  have e : sh_batch_Check_1 c_batch_fits x_0_0 x_0_1 x_0_2 x_0_3 cap_0 w K = shF Try.prog 40 ⟨[], [], []⟩ [.agg #[.int .i64 x_0_0, .slice x_0_1.a x_0_1.l x_0_1.c, .slice x_0_2.a x_0_2.l x_0_2.c, .slice x_0_3.a x_0_3.l x_0_3.c], .pointer (some cap_0)] w (fun v w' => decV (.int .i64) v fun y0 => K y0 w') := by kernel_rfl
  exact Calls.mono (calls_of _ e h) (onRet_mono (fun _ _ h => decV_spec h))

-- 44 prelude/codec.New; callees []
def sh_codec_New (w : World) (K : Option Addr → World → Prop) : Prop :=
  newP #[.slice none 0 0] 118 w fun a1 w2 => K (some a1) w2

def c_codec_New (w : World) (K : Option Addr → World → Prop) : Prop := Calls Try.prog 44 #[] w (onRet (fun v w' => ∃ (y0 : Option Addr), v = .pointer y0 ∧ K y0 w'))

theorem sim_codec_New {w : World} {K : Option Addr → World → Prop} (h : sh_codec_New w K) : c_codec_New  w K := by
  have e : sh_codec_New w K = shF Try.prog 44 ⟨[], [], []⟩ [] w (fun v w' => decV .ptr v fun y0 => K y0 w') := by kernel_rfl
  exact Calls.mono (calls_of _ e h) (onRet_mono (fun _ _ h => decV_spec h))

-- 45 (*prelude/codec.Writer).Uint; callees []
def sh_codec_Writer_Uint (w_0 : Option Addr) (n_1 : Int) (w : World) (K : World → Prop) : Prop :=
  loopP (σ := Int × Unit) (fun st2 next1 w3 => (fun (n_4 : Int) => iteB (decide ((n_4 : Int) ≥ 128))
  (nnP w_0 fun a5 => ldS a5 w3 fun s6 => newP #[.int .u8 (bOr .u8 (IntKind.u8.wrap n_4) 128)] 5 w3 fun a7 w8 => apP Try.prog #[50, 50] 50 [.slice s6.a s6.l s6.c, .slice (some a7) 1 1] w8 fun s10 w9 => nnP w_0 fun a11 => stP a11 (.slice s10.a s10.l s10.c) w9 fun w12 => shP 7 (next1 ((Int.fdiv n_4 (2 ^ (min (Int.toNat 7) (IntKind.bits .u64)))), ()) w12))
  (nnP w_0 fun a13 => ldS a13 w3 fun s14 => newP #[.int .u8 (IntKind.u8.wrap n_4)] 5 w3 fun a15 w16 => apP Try.prog #[50, 50] 50 [.slice s14.a s14.l s14.c, .slice (some a15) 1 1] w16 fun s18 w17 => nnP w_0 fun a19 => stP a19 (.slice s18.a s18.l s18.c) w17 fun w20 => K w20)) st2.1) (n_1, ()) w

def c_codec_Writer_Uint (w_0 : Option Addr) (n_1 : Int) (w : World) (K : World → Prop) : Prop := Calls Try.prog 45 #[.pointer w_0, .int .u64 n_1] w (onRet (fun v w' => v = .tuple #[] ∧ K w'))

theorem sim_codec_Writer_Uint {w_0 : Option Addr} {n_1 : Int} {w : World} {K : World → Prop} (h : sh_codec_Writer_Uint w_0 n_1 w K) : c_codec_Writer_Uint w_0 n_1 w K := by
  have e : sh_codec_Writer_Uint w_0 n_1 w K = shF Try.prog 45 ⟨[], [(0, [(1, (.int .u64))], [0])], []⟩ [.pointer w_0, .int .u64 n_1] w (fun v w' => decU v (K w')) := by kernel_rfl
  exact Calls.mono (calls_of _ e h) (onRet_mono (fun _ _ h => decU_spec h))

-- 46 (*prelude/codec.Writer).Int; callees ['codec_Writer_Uint']
def sh_codec_Writer_Int (c_codec_Writer_Uint : Option Addr → Int → World → (World → Prop) → Prop) (w_0 : Option Addr) (n_1 : Int) (w : World) (K : World → Prop) : Prop :=
  shP 1 (shP 63 (c_codec_Writer_Uint w_0 (bXor .u64 (IntKind.u64.wrap ((IntKind.u64.wrap n_1) * 2 ^ (min (Int.toNat 1) (IntKind.bits .u64)))) (IntKind.u64.wrap (Int.fdiv n_1 (2 ^ (min (Int.toNat 63) (IntKind.bits .i64)))))) w fun w1 => K w1))

def c_codec_Writer_Int (w_0 : Option Addr) (n_1 : Int) (w : World) (K : World → Prop) : Prop := Calls Try.prog 46 #[.pointer w_0, .int .i64 n_1] w (onRet (fun v w' => v = .tuple #[] ∧ K w'))

theorem sim_codec_Writer_Int {w_0 : Option Addr} {n_1 : Int} {w : World} {K : World → Prop} (h : sh_codec_Writer_Int c_codec_Writer_Uint w_0 n_1 w K) : c_codec_Writer_Int w_0 n_1 w K := by
  have e : sh_codec_Writer_Int c_codec_Writer_Uint w_0 n_1 w K = shF Try.prog 46 ⟨[], [], []⟩ [.pointer w_0, .int .i64 n_1] w (fun v w' => decU v (K w')) := by kernel_rfl
  exact Calls.mono (calls_of _ e h) (onRet_mono (fun _ _ h => decU_spec h))

-- 68 prelude/keys.form; callees []
def sh_keys_form (k_0_0 : Int) (k_0_1 : Int) (w : World) (K : Int → Int → Int → Int → Int → Int → Int → Int → Int → Int → World → Prop) : Prop :=
  newP #[.int .i64 k_0_0, .int .i64 k_0_1] 70 w fun a1 w2 => newP #[.int .u8 0, .int .u8 0, .int .u8 0, .int .u8 0, .int .u8 0, .int .u8 0, .int .u8 0, .int .u8 0, .int .u8 0, .int .u8 0] 121 w2 fun a3 w4 => newP #[.int .u8 0, .int .u8 0, .int .u8 0, .int .u8 0, .int .u8 0, .int .u8 0, .int .u8 0, .int .u8 0, .int .u8 0, .int .u8 0] 121 w4 fun a5 w6 => ldI .i64 a1 w6.drew fun n7 => shP 8 (ldI .i64 a1 w6.drew fun n8 => arrP 10 0 (stP (a5.add (Int.toNat 0 * 1)) (.int .u8 (IntKind.u8.wrap (Int.fdiv n7 (2 ^ (min (Int.toNat 8) (IntKind.bits .i64)))))) w6.drew fun w9 => w9.cell? a1 = some (.int .i64 n8) ∧ (arrP 10 1 (stP (a5.add (Int.toNat 1 * 1)) (.int .u8 (IntKind.u8.wrap n8)) w9 fun w10 => ldI .i64 (a1.add 1) w10 fun n11 => loopP (σ := Int × Unit) (fun st13 next12 w14 => (fun (x15 : Int) => iteB (decide ((x15 : Int) < 8))
  (shP (IntKind.i64.wrap (56 - (IntKind.i64.wrap (8 * x15)))) (arrP 10 (IntKind.i64.wrap (2 + x15)) (stP (a5.add (Int.toNat (IntKind.i64.wrap (2 + x15)) * 1)) (.int .u8 (IntKind.u8.wrap (Int.fdiv (bXor .u64 (IntKind.u64.wrap n11) 9223372036854775808) (2 ^ (min (Int.toNat (IntKind.i64.wrap (56 - (IntKind.i64.wrap (8 * x15))))) (IntKind.bits .u64)))))) w14 fun w16 => next12 ((IntKind.i64.wrap (x15 + 1)), ()) w16)))
  (ldI .u8 a5 w14 fun n17 => ldI .u8 (a5.add 1) w14 fun n18 => ldI .u8 (a5.add 2) w14 fun n19 => ldI .u8 (a5.add 3) w14 fun n20 => ldI .u8 (a5.add 4) w14 fun n21 => ldI .u8 (a5.add 5) w14 fun n22 => ldI .u8 (a5.add 6) w14 fun n23 => ldI .u8 (a5.add 7) w14 fun n24 => ldI .u8 (a5.add 8) w14 fun n25 => ldI .u8 (a5.add 9) w14 fun n26 => stP a3 (.int .u8 n17) w14 fun w27 => stP (a3.add 1) (.int .u8 n18) w27 fun w28 => stP (a3.add 2) (.int .u8 n19) w28 fun w29 => stP (a3.add 3) (.int .u8 n20) w29 fun w30 => stP (a3.add 4) (.int .u8 n21) w30 fun w31 => stP (a3.add 5) (.int .u8 n22) w31 fun w32 => stP (a3.add 6) (.int .u8 n23) w32 fun w33 => stP (a3.add 7) (.int .u8 n24) w33 fun w34 => stP (a3.add 8) (.int .u8 n25) w34 fun w35 => stP (a3.add 9) (.int .u8 n26) w35 fun w36 => ldI .u8 a3 w36 fun n37 => ldI .u8 (a3.add 1) w36 fun n38 => ldI .u8 (a3.add 2) w36 fun n39 => ldI .u8 (a3.add 3) w36 fun n40 => ldI .u8 (a3.add 4) w36 fun n41 => ldI .u8 (a3.add 5) w36 fun n42 => ldI .u8 (a3.add 6) w36 fun n43 => ldI .u8 (a3.add 7) w36 fun n44 => ldI .u8 (a3.add 8) w36 fun n45 => ldI .u8 (a3.add 9) w36 fun n46 => K n37 n38 n39 n40 n41 n42 n43 n44 n45 n46 w36)) st13.1) (0, ()) w10))))

def c_keys_form (k_0_0 : Int) (k_0_1 : Int) (w : World) (K : Int → Int → Int → Int → Int → Int → Int → Int → Int → Int → World → Prop) : Prop := Calls Try.prog 68 #[.agg #[.int .i64 k_0_0, .int .i64 k_0_1]] w (onRet (fun v w' => ∃ (y0 : Int), ∃ (y1 : Int), ∃ (y2 : Int), ∃ (y3 : Int), ∃ (y4 : Int), ∃ (y5 : Int), ∃ (y6 : Int), ∃ (y7 : Int), ∃ (y8 : Int), ∃ (y9 : Int), v = .agg #[.int .u8 y0, .int .u8 y1, .int .u8 y2, .int .u8 y3, .int .u8 y4, .int .u8 y5, .int .u8 y6, .int .u8 y7, .int .u8 y8, .int .u8 y9] ∧ K y0 y1 y2 y3 y4 y5 y6 y7 y8 y9 w'))

theorem sim_keys_form {k_0_0 : Int} {k_0_1 : Int} {w : World} {K : Int → Int → Int → Int → Int → Int → Int → Int → Int → Int → World → Prop} (h : sh_keys_form k_0_0 k_0_1 w K) : c_keys_form k_0_0 k_0_1 w K := by
  have e : sh_keys_form k_0_0 k_0_1 w K = shF Try.prog 68 ⟨[(2, [0, 1, 2, 3, 4, 5, 6, 7, 8, 9, 10])], [(5, [(19, (.int .i64))], [2, 3, 4])], []⟩ [.agg #[.int .i64 k_0_0, .int .i64 k_0_1]] w (fun v w' => decA [(.int .u8), (.int .u8), (.int .u8), (.int .u8), (.int .u8), (.int .u8), (.int .u8), (.int .u8), (.int .u8), (.int .u8)] v fun s => (fun (y0 : Int) (y1 : Int) (y2 : Int) (y3 : Int) (y4 : Int) (y5 : Int) (y6 : Int) (y7 : Int) (y8 : Int) (y9 : Int) => K y0 y1 y2 y3 y4 y5 y6 y7 y8 y9 w') s.1 s.2.1 s.2.2.1 s.2.2.2.1 s.2.2.2.2.1 s.2.2.2.2.2.1 s.2.2.2.2.2.2.1 s.2.2.2.2.2.2.2.1 s.2.2.2.2.2.2.2.2.1 s.2.2.2.2.2.2.2.2.2.1) := by kernel_rfl
  exact Calls.mono (calls_of _ e h) (onRet_mono (fun _ _ h => by obtain ⟨s, h1, h2⟩ := decA_spec h; exact ⟨s.1, s.2.1, s.2.2.1, s.2.2.2.1, s.2.2.2.2.1, s.2.2.2.2.2.1, s.2.2.2.2.2.2.1, s.2.2.2.2.2.2.2.1, s.2.2.2.2.2.2.2.2.1, s.2.2.2.2.2.2.2.2.2.1, h1, h2⟩))

-- 47 prelude/keys.Bytes; callees ['keys_Check', 'keys_form']
def sh_keys_Bytes (c_keys_Check : Int → Int → World → (Int → World → Prop) → Prop) (c_keys_form : Int → Int → World → (Int → Int → Int → Int → Int → Int → Int → Int → Int → Int → World → Prop) → Prop) (k_0_0 : Int) (k_0_1 : Int) (w : World) (K : Slc → Int → World → Prop) : Prop :=
  newP #[.int .i64 k_0_0, .int .i64 k_0_1] 70 w fun a1 w2 => ldI .i64 a1 w2 fun n3 => ldI .i64 (a1.add 1) w2 fun n4 => c_keys_Check n3 n4 w2 fun r5 w6 => iteB ((r5 : Int) != 0)
  (K ⟨none, 0, 0⟩ r5 w6)
  (ldI .i64 a1 w6 fun n7 => ldI .i64 (a1.add 1) w6 fun n8 => c_keys_form n7 n8 w6 fun r9 r10 r11 r12 r13 r14 r15 r16 r17 r18 w19 => newP #[.int .u8 0, .int .u8 0, .int .u8 0, .int .u8 0, .int .u8 0, .int .u8 0, .int .u8 0, .int .u8 0, .int .u8 0, .int .u8 0] 121 w19 fun a20 w21 => stP a20 (.int .u8 r9) w21 fun w22 => stP (a20.add 1) (.int .u8 r10) w22 fun w23 => stP (a20.add 2) (.int .u8 r11) w23 fun w24 => stP (a20.add 3) (.int .u8 r12) w24 fun w25 => stP (a20.add 4) (.int .u8 r13) w25 fun w26 => stP (a20.add 5) (.int .u8 r14) w26 fun w27 => stP (a20.add 6) (.int .u8 r15) w27 fun w28 => stP (a20.add 7) (.int .u8 r16) w28 fun w29 => stP (a20.add 8) (.int .u8 r17) w29 fun w30 => stP (a20.add 9) (.int .u8 r18) w30 fun w31 => apP Try.prog #[50, 50] 50 [.slice none 0 0, .slice (some a20) 10 10] w31 fun s33 w32 => K s33 0 w32)

def c_keys_Bytes (k_0_0 : Int) (k_0_1 : Int) (w : World) (K : Slc → Int → World → Prop) : Prop := Calls Try.prog 47 #[.agg #[.int .i64 k_0_0, .int .i64 k_0_1]] w (onRet (fun v w' => ∃ (y0 : Slc), ∃ (y1 : Int), v = .tuple #[.slice y0.a y0.l y0.c, .int .i64 y1] ∧ K y0 y1 w'))

theorem sim_keys_Bytes {k_0_0 : Int} {k_0_1 : Int} {w : World} {K : Slc → Int → World → Prop} (h : sh_keys_Bytes c_keys_Check c_keys_form k_0_0 k_0_1 w K) : c_keys_Bytes k_0_0 k_0_1 w K := by
  have e : sh_keys_Bytes c_keys_Check c_keys_form k_0_0 k_0_1 w K = shF Try.prog 47 ⟨[], [], []⟩ [.agg #[.int .i64 k_0_0, .int .i64 k_0_1]] w (fun v w' => decT [(false, [.sl]), (false, [(.int .i64)])] v fun s => (fun (y0 : Slc) (y1 : Int) => K y0 y1 w') s.1 s.2.1) := by kernel_rfl
  exact Calls.mono (calls_of _ e h) (onRet_mono (fun _ _ h => by obtain ⟨s, h1, h2⟩ := decT_spec h; exact ⟨s.1, s.2.1, h1, h2⟩))

-- 48 (*prelude/codec.Writer).Raw; callees []
def sh_codec_Writer_Raw (w_0 : Option Addr) (b_1 : Slc) (w : World) (K : World → Prop) : Prop :=
  nnP w_0 fun a1 => ldS a1 w fun s2 => apP Try.prog #[50, 50] 50 [.slice s2.a s2.l s2.c, .slice b_1.a b_1.l b_1.c] w fun s4 w3 => nnP w_0 fun a5 => stP a5 (.slice s4.a s4.l s4.c) w3 fun w6 => K w6

def c_codec_Writer_Raw (w_0 : Option Addr) (b_1 : Slc) (w : World) (K : World → Prop) : Prop := Calls Try.prog 48 #[.pointer w_0, .slice b_1.a b_1.l b_1.c] w (onRet (fun v w' => v = .tuple #[] ∧ K w'))

theorem sim_codec_Writer_Raw {w_0 : Option Addr} {b_1 : Slc} {w : World} {K : World → Prop} (h : sh_codec_Writer_Raw w_0 b_1 w K) : c_codec_Writer_Raw w_0 b_1 w K := by
  have e : sh_codec_Writer_Raw w_0 b_1 w K = shF Try.prog 48 ⟨[], [], []⟩ [.pointer w_0, .slice b_1.a b_1.l b_1.c] w (fun v w' => decU v (K w')) := by kernel_rfl
  exact Calls.mono (calls_of _ e h) (onRet_mono (fun _ _ h => decU_spec h))

-- 69 slices.Clone[[]byte,byte]; callees []
def sh_slices_Clone_byte_byte (s_0 : Slc) (w : World) (K : Slc → World → Prop) : Prop :=
  iteB ((s_0.a).isNone)
  (K ⟨none, 0, 0⟩ w)
  (newP #[] 5 w fun a1 w2 => apP Try.prog #[50, 50] 50 [.slice (some a1) 0 0, .slice s_0.a s_0.l s_0.c] w2 fun s4 w3 => K s4 w3)

def c_slices_Clone_byte_byte (s_0 : Slc) (w : World) (K : Slc → World → Prop) : Prop := Calls Try.prog 69 #[.slice s_0.a s_0.l s_0.c] w (onRet (fun v w' => ∃ (y0 : Slc), v = .slice y0.a y0.l y0.c ∧ K y0 w'))

theorem sim_slices_Clone_byte_byte {s_0 : Slc} {w : World} {K : Slc → World → Prop} (h : sh_slices_Clone_byte_byte s_0 w K) : c_slices_Clone_byte_byte s_0 w K := by
  have e : sh_slices_Clone_byte_byte s_0 w K = shF Try.prog 69 ⟨[], [], []⟩ [.slice s_0.a s_0.l s_0.c] w (fun v w' => decV .sl v fun y0 => K y0 w') := by kernel_rfl
  exact Calls.mono (calls_of _ e h) (onRet_mono (fun _ _ h => decV_spec h))

-- 49 (*prelude/codec.Writer).Out; callees ['slices_Clone_byte_byte']
def sh_codec_Writer_Out (c_slices_Clone_byte_byte : Slc → World → (Slc → World → Prop) → Prop) (w_0 : Option Addr) (w : World) (K : Slc → World → Prop) : Prop :=
  nnP w_0 fun a1 => ldS a1 w fun s2 => c_slices_Clone_byte_byte s2 w fun r3 w4 => K r3 w4

def c_codec_Writer_Out (w_0 : Option Addr) (w : World) (K : Slc → World → Prop) : Prop := Calls Try.prog 49 #[.pointer w_0] w (onRet (fun v w' => ∃ (y0 : Slc), v = .slice y0.a y0.l y0.c ∧ K y0 w'))

theorem sim_codec_Writer_Out {w_0 : Option Addr} {w : World} {K : Slc → World → Prop} (h : sh_codec_Writer_Out c_slices_Clone_byte_byte w_0 w K) : c_codec_Writer_Out w_0 w K := by
  have e : sh_codec_Writer_Out c_slices_Clone_byte_byte w_0 w K = shF Try.prog 49 ⟨[], [], []⟩ [.pointer w_0] w (fun v w' => decV .sl v fun y0 => K y0 w') := by kernel_rfl
  exact Calls.mono (calls_of _ e h) (onRet_mono (fun _ _ h => decV_spec h))

-- 24 prelude/batch.Encode; callees ['batch_first', 'codec_New', 'codec_Writer_Uint', 'codec_Writer_Int', 'keys_Bytes', 'codec_Writer_Raw', 'codec_Writer_Out']
def sh_batch_Encode (c_batch_first : Slc → Value → World → (Int → Int → World → Prop) → Prop) (c_codec_New : World → (Option Addr → World → Prop) → Prop) (c_codec_Writer_Uint : Option Addr → Int → World → (World → Prop) → Prop) (c_codec_Writer_Int : Option Addr → Int → World → (World → Prop) → Prop) (c_keys_Bytes : Int → Int → World → (Slc → Int → World → Prop) → Prop) (c_codec_Writer_Raw : Option Addr → Slc → World → (World → Prop) → Prop) (c_codec_Writer_Out : Option Addr → World → (Slc → World → Prop) → Prop) (x_0 : Slc) (w : World) (K : Slc → Int → World → Prop) : Prop :=
  c_batch_first x_0 (.func (.func 43) #[] #[]) w fun r1 r2 w3 => iteB ((r2 : Int) != 0)
  (K ⟨none, 0, 0⟩ r2 w3)
  (c_codec_New  w3 fun r4 w5 => c_codec_Writer_Uint r4 (IntKind.u64.wrap (x_0.l : Int)) w5 fun w6 => loopP (σ := Int × Unit) (fun st8 next7 w9 => (fun (x10 : Int) => iteB (decide ((x10 : Int) < (x_0.l : Int)))
  (idxP x_0.a x_0.l x10 4 fun a11 => ldI .i64 a11 w9 fun n12 => ldS (a11.add 1) w9 fun s13 => ldS (a11.add 2) w9 fun s14 => ldS (a11.add 3) w9 fun s15 => newP #[.int .i64 0, .slice none 0 0, .slice none 0 0, .slice none 0 0] 66 w9 fun a16 w17 => stP a16 (.int .i64 n12) w17 fun w18 => stP (a16.add 1) (.slice s13.a s13.l s13.c) w18 fun w19 => stP (a16.add 2) (.slice s14.a s14.l s14.c) w19 fun w20 => stP (a16.add 3) (.slice s15.a s15.l s15.c) w20 fun w21 => ldI .i64 a16 w21 fun n22 => c_codec_Writer_Uint r4 (IntKind.u64.wrap n22) w21 fun w23 => ldS (a16.add 1) w23 fun s24 => c_codec_Writer_Uint r4 (IntKind.u64.wrap (s24.l : Int)) w23 fun w25 => ldS (a16.add 1) w25 fun s26 => loopP (σ := Int × Unit) (fun st28 next27 w29 => (fun (x30 : Int) => iteB (decide ((x30 : Int) < (s26.l : Int)))
  (idxP s26.a s26.l x30 1 fun a31 => ldI .i64 a31 w29 fun n32 => c_codec_Writer_Int r4 n32 w29 fun w33 => next27 ((IntKind.i64.wrap (x30 + 1)), ()) w33)
  (ldS (a16.add 2) w29 fun s34 => ldS (a16.add 3) w29 fun s35 => loopP (σ := Int × Unit) (fun st37 next36 w38 => (fun (x39 : Int) => iteB (decide ((x39 : Int) < 2))
  ((∃ (r40 : Slc), ∃ w41, (Instr.index 87 (.agg #[.slice s34.a s34.l s34.c, .slice s35.a s35.l s35.c]) (.int .i64 x39)).run Try.prog w38 = .ok (.slice r40.a r40.l r40.c) w41 ∧ (c_codec_Writer_Uint r4 (IntKind.u64.wrap (r40.l : Int)) w41 fun w42 => loopP (σ := Int × Unit) (fun st44 next43 w45 => (fun (x46 : Int) => iteB (decide ((x46 : Int) < (r40.l : Int)))
  (idxP r40.a r40.l x46 2 fun a47 => ldI .i64 a47 w45 fun n48 => ldI .i64 (a47.add 1) w45 fun n49 => newP #[.int .i64 0, .int .i64 0] 70 w45 fun a50 w51 => stP a50 (.int .i64 n48) w51 fun w52 => stP (a50.add 1) (.int .i64 n49) w52 fun w53 => ldI .i64 a50 w53 fun n54 => ldI .i64 (a50.add 1) w53 fun n55 => c_keys_Bytes n54 n55 w53 fun r56 r57 w58 => c_codec_Writer_Raw r4 r56 w58 fun w59 => next43 ((IntKind.i64.wrap (x46 + 1)), ()) w59)
  (next36 ((IntKind.i64.wrap (x39 + 1)), ()) w45)) st44.1) (0, ()) w42)))
  (next7 ((IntKind.i64.wrap (x10 + 1)), ()) w38)) st37.1) (0, ()) w29)) st28.1) (0, ()) w25)
  (c_codec_Writer_Out r4 w9 fun r60 w61 => K r60 0 w61)) st8.1) (0, ()) w6)

def c_batch_Encode (x_0 : Slc) (w : World) (K : Slc → Int → World → Prop) : Prop := Calls Try.prog 24 #[.slice x_0.a x_0.l x_0.c] w (onRet (fun v w' => ∃ (y0 : Slc), ∃ (y1 : Int), v = .tuple #[.slice y0.a y0.l y0.c, .int .i64 y1] ∧ K y0 y1 w'))

theorem sim_batch_Encode {x_0 : Slc} {w : World} {K : Slc → Int → World → Prop} (h : sh_batch_Encode c_batch_first c_codec_New c_codec_Writer_Uint c_codec_Writer_Int c_keys_Bytes c_codec_Writer_Raw c_codec_Writer_Out x_0 w K) : c_batch_Encode x_0 w K := by
  have e : sh_batch_Encode c_batch_first c_codec_New c_codec_Writer_Uint c_codec_Writer_Int c_keys_Bytes c_codec_Writer_Raw c_codec_Writer_Out x_0 w K = shF Try.prog 24 ⟨[], [(7, [(33, (.int .i64))], [6, 31, 32]), (12, [(51, (.int .i64))], [6, 8, 31, 32, 33, 49, 50]), (17, [(64, (.int .i64))], [6, 31, 32, 33, 63]), (21, [(74, (.int .i64))], [6, 31, 32, 33, 63, 64, 72, 73])], []⟩ [.slice x_0.a x_0.l x_0.c] w (fun v w' => decT [(false, [.sl]), (false, [(.int .i64)])] v fun s => (fun (y0 : Slc) (y1 : Int) => K y0 y1 w') s.1 s.2.1) := by kernel_rfl
  exact Calls.mono (calls_of _ e h) (onRet_mono (fun _ _ h => by obtain ⟨s, h1, h2⟩ := decT_spec h; exact ⟨s.1, s.2.1, h1, h2⟩))

-- 70 prelude/preluderef01.Uint; callees []
def sh_preluderef01_Uint (n_0 : Int) (w : World) (K : Slc → World → Prop) : Prop :=
  loopP (σ := Int × Slc × Unit) (fun st2 next1 w3 => (fun (n_4 : Int) (b_5 : Slc) => iteB (decide ((n_4 : Int) ≥ 128))
  (dzP 128 (newP #[.int .u8 (IntKind.u8.wrap ((IntKind.u8.wrap (Int.tmod n_4 128)) + 128))] 5 w3 fun a6 w7 => apP Try.prog #[50, 50] 50 [.slice b_5.a b_5.l b_5.c, .slice (some a6) 1 1] w7 fun s9 w8 => dzP 128 (next1 ((IntKind.u64.wrap (Int.tdiv n_4 128)), s9, ()) w8)))
  (newP #[.int .u8 (IntKind.u8.wrap n_4)] 5 w3 fun a10 w11 => apP Try.prog #[50, 50] 50 [.slice b_5.a b_5.l b_5.c, .slice (some a10) 1 1] w11 fun s13 w12 => K s13 w12)) st2.1 st2.2.1) (n_0, ⟨none, 0, 0⟩, ()) w

def c_preluderef01_Uint (n_0 : Int) (w : World) (K : Slc → World → Prop) : Prop := Calls Try.prog 70 #[.int .u64 n_0] w (onRet (fun v w' => ∃ (y0 : Slc), v = .slice y0.a y0.l y0.c ∧ K y0 w'))

theorem sim_preluderef01_Uint {n_0 : Int} {w : World} {K : Slc → World → Prop} (h : sh_preluderef01_Uint n_0 w K) : c_preluderef01_Uint n_0 w K := by
  have e : sh_preluderef01_Uint n_0 w K = shF Try.prog 70 ⟨[], [(2, [(0, (.int .u64)), (3, .sl)], [])], []⟩ [.int .u64 n_0] w (fun v w' => decV .sl v fun y0 => K y0 w') := by kernel_rfl
  exact Calls.mono (calls_of _ e h) (onRet_mono (fun _ _ h => decV_spec h))

-- 50 prelude/preluderef06.count; callees ['preluderef01_Uint']
def sh_preluderef06_count (c_preluderef01_Uint : Int → World → (Slc → World → Prop) → Prop) (n_0 : Int) (w : World) (K : Slc → World → Prop) : Prop :=
  c_preluderef01_Uint (IntKind.u64.wrap n_0) w fun r1 w2 => K r1 w2

def c_preluderef06_count (n_0 : Int) (w : World) (K : Slc → World → Prop) : Prop := Calls Try.prog 50 #[.int .i64 n_0] w (onRet (fun v w' => ∃ (y0 : Slc), v = .slice y0.a y0.l y0.c ∧ K y0 w'))

theorem sim_preluderef06_count {n_0 : Int} {w : World} {K : Slc → World → Prop} (h : sh_preluderef06_count c_preluderef01_Uint n_0 w K) : c_preluderef06_count n_0 w K := by
  have e : sh_preluderef06_count c_preluderef01_Uint n_0 w K = shF Try.prog 50 ⟨[], [], []⟩ [.int .i64 n_0] w (fun v w' => decV .sl v fun y0 => K y0 w') := by kernel_rfl
  exact Calls.mono (calls_of _ e h) (onRet_mono (fun _ _ h => decV_spec h))

-- 72 prelude/preluderef01.Fold; callees []
def sh_preluderef01_Fold (n_0 : Int) (w : World) (K : Int → World → Prop) : Prop :=
  iteB (decide ((n_0 : Int) ≥ 0))
  (K (IntKind.u64.wrap (2 * (IntKind.u64.wrap n_0))) w)
  (K (IntKind.u64.wrap ((IntKind.u64.wrap (2 * (IntKind.u64.wrap (IntKind.i64.wrap ((-1) - n_0))))) + 1)) w)

def c_preluderef01_Fold (n_0 : Int) (w : World) (K : Int → World → Prop) : Prop := Calls Try.prog 72 #[.int .i64 n_0] w (onRet (fun v w' => ∃ (y0 : Int), v = .int .u64 y0 ∧ K y0 w'))

theorem sim_preluderef01_Fold {n_0 : Int} {w : World} {K : Int → World → Prop} (h : sh_preluderef01_Fold n_0 w K) : c_preluderef01_Fold n_0 w K := by
  have e : sh_preluderef01_Fold n_0 w K = shF Try.prog 72 ⟨[], [], []⟩ [.int .i64 n_0] w (fun v w' => decV (.int .u64) v fun y0 => K y0 w') := by kernel_rfl
  exact Calls.mono (calls_of _ e h) (onRet_mono (fun _ _ h => decV_spec h))

-- 52 prelude/preluderef01.Int; callees ['preluderef01_Fold', 'preluderef01_Uint']
def sh_preluderef01_Int (c_preluderef01_Fold : Int → World → (Int → World → Prop) → Prop) (c_preluderef01_Uint : Int → World → (Slc → World → Prop) → Prop) (n_0 : Int) (w : World) (K : Slc → World → Prop) : Prop :=
  c_preluderef01_Fold n_0 w fun r1 w2 => c_preluderef01_Uint r1 w2 fun r3 w4 => K r3 w4

def c_preluderef01_Int (n_0 : Int) (w : World) (K : Slc → World → Prop) : Prop := Calls Try.prog 52 #[.int .i64 n_0] w (onRet (fun v w' => ∃ (y0 : Slc), v = .slice y0.a y0.l y0.c ∧ K y0 w'))

theorem sim_preluderef01_Int {n_0 : Int} {w : World} {K : Slc → World → Prop} (h : sh_preluderef01_Int c_preluderef01_Fold c_preluderef01_Uint n_0 w K) : c_preluderef01_Int n_0 w K := by
  have e : sh_preluderef01_Int c_preluderef01_Fold c_preluderef01_Uint n_0 w K = shF Try.prog 52 ⟨[], [], []⟩ [.int .i64 n_0] w (fun v w' => decV .sl v fun y0 => K y0 w') := by kernel_rfl
  exact Calls.mono (calls_of _ e h) (onRet_mono (fun _ _ h => decV_spec h))

-- 85 prelude/preluderef02.ten; callees []
def sh_preluderef02_ten (k_0_0 : Int) (k_0_1 : Int) (w : World) (K : Int → Int → Int → Int → Int → Int → Int → Int → Int → Int → World → Prop) : Prop :=
  newP #[.int .i64 k_0_0, .int .i64 k_0_1] 70 w fun a1 w2 => newP #[.int .u8 0, .int .u8 0, .int .u8 0, .int .u8 0, .int .u8 0, .int .u8 0, .int .u8 0, .int .u8 0, .int .u8 0, .int .u8 0] 121 w2 fun a3 w4 => newP #[.int .u8 0, .int .u8 0, .int .u8 0, .int .u8 0, .int .u8 0, .int .u8 0, .int .u8 0, .int .u8 0, .int .u8 0, .int .u8 0] 121 w4 fun a5 w6 => ldI .i64 a1 w6 fun n7 => dzP 256 (arrP 10 0 (stP (a5.add (Int.toNat 0 * 1)) (.int .u8 (IntKind.u8.wrap (IntKind.i64.wrap (Int.tdiv n7 256)))) w6 fun w8 => ldI .i64 a1 w8 fun n9 => dzP 256 (arrP 10 1 (stP (a5.add (Int.toNat 1 * 1)) (.int .u8 (IntKind.u8.wrap (Int.tmod n9 256))) w8 fun w10 => ldI .i64 (a1.add 1) w10 fun n11 => loopP (σ := Int × Int × Unit) (fun st13 next12 w14 => (fun (u_15 : Int) (i_16 : Int) => iteB (decide ((i_16 : Int) < 8))
  (dzP 256 (arrP 10 (IntKind.i64.wrap (9 - i_16)) (stP (a5.add (Int.toNat (IntKind.i64.wrap (9 - i_16)) * 1)) (.int .u8 (IntKind.u8.wrap (Int.tmod u_15 256))) w14 fun w17 => dzP 256 (next12 ((IntKind.u64.wrap (Int.tdiv u_15 256)), (IntKind.i64.wrap (i_16 + 1)), ()) w17))))
  (ldI .u8 a5 w14 fun n18 => ldI .u8 (a5.add 1) w14 fun n19 => ldI .u8 (a5.add 2) w14 fun n20 => ldI .u8 (a5.add 3) w14 fun n21 => ldI .u8 (a5.add 4) w14 fun n22 => ldI .u8 (a5.add 5) w14 fun n23 => ldI .u8 (a5.add 6) w14 fun n24 => ldI .u8 (a5.add 7) w14 fun n25 => ldI .u8 (a5.add 8) w14 fun n26 => ldI .u8 (a5.add 9) w14 fun n27 => stP a3 (.int .u8 n18) w14 fun w28 => stP (a3.add 1) (.int .u8 n19) w28 fun w29 => stP (a3.add 2) (.int .u8 n20) w29 fun w30 => stP (a3.add 3) (.int .u8 n21) w30 fun w31 => stP (a3.add 4) (.int .u8 n22) w31 fun w32 => stP (a3.add 5) (.int .u8 n23) w32 fun w33 => stP (a3.add 6) (.int .u8 n24) w33 fun w34 => stP (a3.add 7) (.int .u8 n25) w34 fun w35 => stP (a3.add 8) (.int .u8 n26) w35 fun w36 => stP (a3.add 9) (.int .u8 n27) w36 fun w37 => ldI .u8 a3 w37 fun n38 => ldI .u8 (a3.add 1) w37 fun n39 => ldI .u8 (a3.add 2) w37 fun n40 => ldI .u8 (a3.add 3) w37 fun n41 => ldI .u8 (a3.add 4) w37 fun n42 => ldI .u8 (a3.add 5) w37 fun n43 => ldI .u8 (a3.add 6) w37 fun n44 => ldI .u8 (a3.add 7) w37 fun n45 => ldI .u8 (a3.add 8) w37 fun n46 => ldI .u8 (a3.add 9) w37 fun n47 => K n38 n39 n40 n41 n42 n43 n44 n45 n46 n47 w37)) st13.1 st13.2.1) ((bXor .u64 (IntKind.u64.wrap n11) 9223372036854775808), 0, ()) w10))))

def c_preluderef02_ten (k_0_0 : Int) (k_0_1 : Int) (w : World) (K : Int → Int → Int → Int → Int → Int → Int → Int → Int → Int → World → Prop) : Prop := Calls Try.prog 85 #[.agg #[.int .i64 k_0_0, .int .i64 k_0_1]] w (onRet (fun v w' => ∃ (y0 : Int), ∃ (y1 : Int), ∃ (y2 : Int), ∃ (y3 : Int), ∃ (y4 : Int), ∃ (y5 : Int), ∃ (y6 : Int), ∃ (y7 : Int), ∃ (y8 : Int), ∃ (y9 : Int), v = .agg #[.int .u8 y0, .int .u8 y1, .int .u8 y2, .int .u8 y3, .int .u8 y4, .int .u8 y5, .int .u8 y6, .int .u8 y7, .int .u8 y8, .int .u8 y9] ∧ K y0 y1 y2 y3 y4 y5 y6 y7 y8 y9 w'))

theorem sim_preluderef02_ten {k_0_0 : Int} {k_0_1 : Int} {w : World} {K : Int → Int → Int → Int → Int → Int → Int → Int → Int → Int → World → Prop} (h : sh_preluderef02_ten k_0_0 k_0_1 w K) : c_preluderef02_ten k_0_0 k_0_1 w K := by
  have e : sh_preluderef02_ten k_0_0 k_0_1 w K = shF Try.prog 85 ⟨[], [(6, [(4, (.int .u64)), (5, (.int .i64))], [2, 3])], []⟩ [.agg #[.int .i64 k_0_0, .int .i64 k_0_1]] w (fun v w' => decA [(.int .u8), (.int .u8), (.int .u8), (.int .u8), (.int .u8), (.int .u8), (.int .u8), (.int .u8), (.int .u8), (.int .u8)] v fun s => (fun (y0 : Int) (y1 : Int) (y2 : Int) (y3 : Int) (y4 : Int) (y5 : Int) (y6 : Int) (y7 : Int) (y8 : Int) (y9 : Int) => K y0 y1 y2 y3 y4 y5 y6 y7 y8 y9 w') s.1 s.2.1 s.2.2.1 s.2.2.2.1 s.2.2.2.2.1 s.2.2.2.2.2.1 s.2.2.2.2.2.2.1 s.2.2.2.2.2.2.2.1 s.2.2.2.2.2.2.2.2.1 s.2.2.2.2.2.2.2.2.2.1) := by kernel_rfl
  exact Calls.mono (calls_of _ e h) (onRet_mono (fun _ _ h => by obtain ⟨s, h1, h2⟩ := decA_spec h; exact ⟨s.1, s.2.1, s.2.2.1, s.2.2.2.1, s.2.2.2.2.1, s.2.2.2.2.2.1, s.2.2.2.2.2.2.1, s.2.2.2.2.2.2.2.1, s.2.2.2.2.2.2.2.2.1, s.2.2.2.2.2.2.2.2.2.1, h1, h2⟩))

-- 73 prelude/preluderef02.Bytes; callees ['preluderef02_Check', 'preluderef02_ten']
def sh_preluderef02_Bytes (c_preluderef02_Check : Int → Int → World → (Int → World → Prop) → Prop) (c_preluderef02_ten : Int → Int → World → (Int → Int → Int → Int → Int → Int → Int → Int → Int → Int → World → Prop) → Prop) (k_0_0 : Int) (k_0_1 : Int) (w : World) (K : Slc → Int → World → Prop) : Prop :=
  newP #[.int .i64 k_0_0, .int .i64 k_0_1] 70 w fun a1 w2 => ldI .i64 a1 w2 fun n3 => ldI .i64 (a1.add 1) w2 fun n4 => c_preluderef02_Check n3 n4 w2 fun r5 w6 => iteB ((r5 : Int) != 0)
  (K ⟨none, 0, 0⟩ r5 w6)
  (ldI .i64 a1 w6 fun n7 => ldI .i64 (a1.add 1) w6 fun n8 => c_preluderef02_ten n7 n8 w6 fun r9 r10 r11 r12 r13 r14 r15 r16 r17 r18 w19 => newP #[.int .u8 0, .int .u8 0, .int .u8 0, .int .u8 0, .int .u8 0, .int .u8 0, .int .u8 0, .int .u8 0, .int .u8 0, .int .u8 0] 121 w19 fun a20 w21 => stP a20 (.int .u8 r9) w21 fun w22 => stP (a20.add 1) (.int .u8 r10) w22 fun w23 => stP (a20.add 2) (.int .u8 r11) w23 fun w24 => stP (a20.add 3) (.int .u8 r12) w24 fun w25 => stP (a20.add 4) (.int .u8 r13) w25 fun w26 => stP (a20.add 5) (.int .u8 r14) w26 fun w27 => stP (a20.add 6) (.int .u8 r15) w27 fun w28 => stP (a20.add 7) (.int .u8 r16) w28 fun w29 => stP (a20.add 8) (.int .u8 r17) w29 fun w30 => stP (a20.add 9) (.int .u8 r18) w30 fun w31 => loopP (σ := Slc × Int × Unit) (fun st33 next32 w34 => (fun (l_35 : Slc) (i_36 : Int) => iteB (decide ((i_36 : Int) < 10))
  (arrP 10 i_36 (ldI .u8 (a20.add (Int.toNat i_36 * 1)) w34 fun n37 => newP #[.int .u8 n37] 5 w34 fun a38 w39 => apP Try.prog #[50, 50] 50 [.slice l_35.a l_35.l l_35.c, .slice (some a38) 1 1] w39 fun s41 w40 => next32 (s41, (IntKind.i64.wrap (i_36 + 1)), ()) w40))
  (K l_35 0 w34)) st33.1 st33.2.1) (⟨none, 0, 0⟩, 0, ()) w31)

def c_preluderef02_Bytes (k_0_0 : Int) (k_0_1 : Int) (w : World) (K : Slc → Int → World → Prop) : Prop := Calls Try.prog 73 #[.agg #[.int .i64 k_0_0, .int .i64 k_0_1]] w (onRet (fun v w' => ∃ (y0 : Slc), ∃ (y1 : Int), v = .tuple #[.slice y0.a y0.l y0.c, .int .i64 y1] ∧ K y0 y1 w'))

theorem sim_preluderef02_Bytes {k_0_0 : Int} {k_0_1 : Int} {w : World} {K : Slc → Int → World → Prop} (h : sh_preluderef02_Bytes c_preluderef02_Check c_preluderef02_ten k_0_0 k_0_1 w K) : c_preluderef02_Bytes k_0_0 k_0_1 w K := by
  have e : sh_preluderef02_Bytes c_preluderef02_Check c_preluderef02_ten k_0_0 k_0_1 w K = shF Try.prog 73 ⟨[], [(7, [(6, .sl), (7, (.int .i64))], [5])], []⟩ [.agg #[.int .i64 k_0_0, .int .i64 k_0_1]] w (fun v w' => decT [(false, [.sl]), (false, [(.int .i64)])] v fun s => (fun (y0 : Slc) (y1 : Int) => K y0 y1 w') s.1 s.2.1) := by kernel_rfl
  exact Calls.mono (calls_of _ e h) (onRet_mono (fun _ _ h => by obtain ⟨s, h1, h2⟩ := decT_spec h; exact ⟨s.1, s.2.1, h1, h2⟩))

-- 53 prelude/preluderef06.set; callees ['preluderef06_count', 'preluderef02_Bytes']
def sh_preluderef06_set (c_preluderef06_count : Int → World → (Slc → World → Prop) → Prop) (c_preluderef02_Bytes : Int → Int → World → (Slc → Int → World → Prop) → Prop) (l_0 : Slc) (w : World) (K : Slc → World → Prop) : Prop :=
  c_preluderef06_count (l_0.l : Int) w fun r1 w2 => loopP (σ := Slc × Int × Unit) (fun st4 next3 w5 => (fun (out_6 : Slc) (i_7 : Int) => iteB (decide ((i_7 : Int) < (l_0.l : Int)))
  (idxP l_0.a l_0.l i_7 2 fun a8 => ldI .i64 a8 w5 fun n9 => ldI .i64 (a8.add 1) w5 fun n10 => c_preluderef02_Bytes n9 n10 w5 fun r11 r12 w13 => apP Try.prog #[50, 50] 50 [.slice out_6.a out_6.l out_6.c, .slice r11.a r11.l r11.c] w13 fun s15 w14 => next3 (s15, (IntKind.i64.wrap (i_7 + 1)), ()) w14)
  (K out_6 w5)) st4.1 st4.2.1) (r1, 0, ()) w2

def c_preluderef06_set (l_0 : Slc) (w : World) (K : Slc → World → Prop) : Prop := Calls Try.prog 53 #[.slice l_0.a l_0.l l_0.c] w (onRet (fun v w' => ∃ (y0 : Slc), v = .slice y0.a y0.l y0.c ∧ K y0 w'))

theorem sim_preluderef06_set {l_0 : Slc} {w : World} {K : Slc → World → Prop} (h : sh_preluderef06_set c_preluderef06_count c_preluderef02_Bytes l_0 w K) : c_preluderef06_set l_0 w K := by
  have e : sh_preluderef06_set c_preluderef06_count c_preluderef02_Bytes l_0 w K = shF Try.prog 53 ⟨[], [(3, [(3, .sl), (4, (.int .i64))], [0])], []⟩ [.slice l_0.a l_0.l l_0.c] w (fun v w' => decV .sl v fun y0 => K y0 w') := by kernel_rfl
  exact Calls.mono (calls_of _ e h) (onRet_mono (fun _ _ h => decV_spec h))

-- 25 prelude/preluderef06.Encode; callees ['preluderef06_count', 'preluderef06_Formed', 'preluderef01_Int', 'preluderef06_set']
def sh_preluderef06_Encode (c_preluderef06_count : Int → World → (Slc → World → Prop) → Prop) (c_preluderef06_Formed : Int → Slc → Slc → Slc → World → (Int → World → Prop) → Prop) (c_preluderef01_Int : Int → World → (Slc → World → Prop) → Prop) (c_preluderef06_set : Slc → World → (Slc → World → Prop) → Prop) (x_0 : Slc) (w : World) (K : Slc → Int → World → Prop) : Prop :=
  iteB (decide (((x_0.l : Int) : Int) > 64))
  (K ⟨none, 0, 0⟩ 60 w)
  (c_preluderef06_count (x_0.l : Int) w fun r1 w2 => loopP (σ := Slc × Int × Unit) (fun st4 next3 w5 => (fun (x6 : Slc) (x7 : Int) => iteB (decide ((x7 : Int) < (x_0.l : Int)))
  (idxP x_0.a x_0.l x7 4 fun a8 => ldI .i64 a8 w5 fun n9 => ldS (a8.add 1) w5 fun s10 => ldS (a8.add 2) w5 fun s11 => ldS (a8.add 3) w5 fun s12 => c_preluderef06_Formed n9 s10 s11 s12 w5 fun r13 w14 => iteB ((r13 : Int) != 0)
  (K ⟨none, 0, 0⟩ r13 w14)
  (idxP x_0.a x_0.l x7 4 fun a15 => ldI .i64 a15 w14 fun n16 => c_preluderef06_count n16 w14 fun r17 w18 => apP Try.prog #[50, 50] 50 [.slice x6.a x6.l x6.c, .slice r17.a r17.l r17.c] w18 fun s20 w19 => idxP x_0.a x_0.l x7 4 fun a21 => ldS (a21.add 1) w19 fun s22 => c_preluderef06_count (s22.l : Int) w19 fun r23 w24 => apP Try.prog #[50, 50] 50 [.slice s20.a s20.l s20.c, .slice r23.a r23.l r23.c] w24 fun s26 w25 => loopP (σ := Slc × Int × Unit) (fun st28 next27 w29 => (fun (x30 : Slc) (x31 : Int) => idxP x_0.a x_0.l x7 4 fun a32 => ldS (a32.add 1) w29 fun s33 => iteB (decide ((x31 : Int) < (s33.l : Int)))
  (idxP x_0.a x_0.l x7 4 fun a34 => ldS (a34.add 1) w29 fun s35 => idxP s35.a s35.l x31 1 fun a36 => ldI .i64 a36 w29 fun n37 => c_preluderef01_Int n37 w29 fun r38 w39 => apP Try.prog #[50, 50] 50 [.slice x30.a x30.l x30.c, .slice r38.a r38.l r38.c] w39 fun s41 w40 => next27 (s41, (IntKind.i64.wrap (x31 + 1)), ()) w40)
  (idxP x_0.a x_0.l x7 4 fun a42 => ldS (a42.add 2) w29 fun s43 => c_preluderef06_set s43 w29 fun r44 w45 => apP Try.prog #[50, 50] 50 [.slice x30.a x30.l x30.c, .slice r44.a r44.l r44.c] w45 fun s47 w46 => idxP x_0.a x_0.l x7 4 fun a48 => ldS (a48.add 3) w46 fun s49 => c_preluderef06_set s49 w46 fun r50 w51 => apP Try.prog #[50, 50] 50 [.slice s47.a s47.l s47.c, .slice r50.a r50.l r50.c] w51 fun s53 w52 => next3 (s53, (IntKind.i64.wrap (x7 + 1)), ()) w52)) st28.1 st28.2.1) (s26, 0, ()) w25))
  (K x6 0 w5)) st4.1 st4.2.1) (r1, 0, ()) w2)

def c_preluderef06_Encode (x_0 : Slc) (w : World) (K : Slc → Int → World → Prop) : Prop := Calls Try.prog 25 #[.slice x_0.a x_0.l x_0.c] w (onRet (fun v w' => ∃ (y0 : Slc), ∃ (y1 : Int), v = .tuple #[.slice y0.a y0.l y0.c, .int .i64 y1] ∧ K y0 y1 w'))

theorem sim_preluderef06_Encode {x_0 : Slc} {w : World} {K : Slc → Int → World → Prop} (h : sh_preluderef06_Encode c_preluderef06_count c_preluderef06_Formed c_preluderef01_Int c_preluderef06_set x_0 w K) : c_preluderef06_Encode x_0 w K := by
  have e : sh_preluderef06_Encode c_preluderef06_count c_preluderef06_Formed c_preluderef01_Int c_preluderef06_set x_0 w K = shF Try.prog 25 ⟨[], [(5, [(4, .sl), (5, (.int .i64))], [0]), (13, [(4, .sl), (7, (.int .i64))], [0, 5])], []⟩ [.slice x_0.a x_0.l x_0.c] w (fun v w' => decT [(false, [.sl]), (false, [(.int .i64)])] v fun s => (fun (y0 : Slc) (y1 : Int) => K y0 y1 w') s.1 s.2.1) := by kernel_rfl
  exact Calls.mono (calls_of _ e h) (onRet_mono (fun _ _ h => by obtain ⟨s, h1, h2⟩ := decT_spec h; exact ⟨s.1, s.2.1, h1, h2⟩))

-- 26 prelude/preludelaw06.sameBytes; callees []
def sh_preludelaw06_sameBytes (a_0 : Slc) (b_1 : Slc) (w : World) (K : Bool → World → Prop) : Prop :=
  iteB (((a_0.l : Int) : Int) != (b_1.l : Int))
  (K false w)
  (loopP (σ := Int × Unit) (fun st2 next1 w3 => (fun (i_4 : Int) => iteB (decide ((i_4 : Int) < (a_0.l : Int)))
  (idxP a_0.a a_0.l i_4 1 fun a5 => ldI .u8 a5 w3.drew fun n6 => idxP b_1.a b_1.l i_4 1 fun a7 => ldI .u8 a7 w3.drew fun n8 => iteB ((n6 : Int) != n8)
  (K false w3.drew)
  (next1 ((IntKind.i64.wrap (i_4 + 1)), ()) w3.drew))
  (K true w3)) st2.1) (0, ()) w)

def c_preludelaw06_sameBytes (a_0 : Slc) (b_1 : Slc) (w : World) (K : Bool → World → Prop) : Prop := Calls Try.prog 26 #[.slice a_0.a a_0.l a_0.c, .slice b_1.a b_1.l b_1.c] w (onRet (fun v w' => ∃ (y0 : Bool), v = .bool y0 ∧ K y0 w'))

theorem sim_preludelaw06_sameBytes {a_0 : Slc} {b_1 : Slc} {w : World} {K : Bool → World → Prop} (h : sh_preludelaw06_sameBytes a_0 b_1 w K) : c_preludelaw06_sameBytes a_0 b_1 w K := by
  have e : sh_preludelaw06_sameBytes a_0 b_1 w K = shF Try.prog 26 ⟨[(6, [0, 1, 2, 3, 4, 5, 6, 7, 8])], [(4, [(5, (.int .i64))], [0, 1])], []⟩ [.slice a_0.a a_0.l a_0.c, .slice b_1.a b_1.l b_1.c] w (fun v w' => decV .b v fun y0 => K y0 w') := by kernel_rfl
  exact Calls.mono (calls_of _ e h) (onRet_mono (fun _ _ h => decV_spec h))

-- 5 prelude/preludelaw06.BatchEncodes; callees ['preluderef06_Parts', 'preludelaw06_lent', 'batch_Encode', 'preluderef06_Encode', 'preludelaw06_back', 'preludelaw06_num', 'preludelaw06_sameBytes', 'preludelaw06_shelf_apart']
def sh_preludelaw06_BatchEncodes (c_preluderef06_Parts : Slc → Int → World → (Int → World → Prop) → Prop) (c_preludelaw06_lent : Slc → World → (Slc → World → Prop) → Prop) (c_batch_Encode : Slc → World → (Slc → Int → World → Prop) → Prop) (c_preluderef06_Encode : Slc → World → (Slc → Int → World → Prop) → Prop) (c_preludelaw06_back : Slc → Slc → World → (Bool → World → Prop) → Prop) (c_preludelaw06_num : Int → World → (Int → World → Prop) → Prop) (c_preludelaw06_sameBytes : Slc → Slc → World → (Bool → World → Prop) → Prop) (c_preludelaw06_shelf_apart : Option Addr → World → (Bool → World → Prop) → Prop) (b_0 : Slc) (w : World) (K : Bool → World → Prop) : Prop :=
  c_preluderef06_Parts b_0 100000 w fun r1 w2 => iteB (decide ((r1 : Int) < 0))
  (K true w2)
  (c_preludelaw06_lent b_0 w2 fun r3 w4 => c_batch_Encode r3 w4 fun r5 r6 w7 => c_preluderef06_Encode b_0 w7 fun r8 r9 w10 => c_batch_Encode r3 w10 fun r11 r12 w13 => c_preludelaw06_back r3 b_0 w13 fun r14 w15 => iteB (!r14)
  (K false w15)
  (c_preludelaw06_num r6 w15 fun r16 w17 => iteB ((r16 : Int) != r9)
  (K false w17)
  (c_preludelaw06_sameBytes r5 r8 w17 fun r18 w19 => iteB (!r18)
  (K false w19)
  (c_preludelaw06_sameBytes r11 r8 w19 fun r20 w21 => iteB (!r20)
  (K false w21)
  (newP #[.slice r5.a r5.l r5.c, .slice r11.a r11.l r11.c] 50 w21 fun a22 w23 => newP #[.slice none 0 0, .slice none 0 0, .slice none 0 0, .slice none 0 0, .slice (some a22) 2 2] 37 w23 fun a24 w25 => c_preludelaw06_shelf_apart (some a24) w25 fun r26 w27 => K r26 w27)))))

def c_preludelaw06_BatchEncodes (b_0 : Slc) (w : World) (K : Bool → World → Prop) : Prop := Calls Try.prog 5 #[.slice b_0.a b_0.l b_0.c] w (onRet (fun v w' => ∃ (y0 : Bool), v = .bool y0 ∧ K y0 w'))

theorem sim_preludelaw06_BatchEncodes {b_0 : Slc} {w : World} {K : Bool → World → Prop} (h : sh_preludelaw06_BatchEncodes c_preluderef06_Parts c_preludelaw06_lent c_batch_Encode c_preluderef06_Encode c_preludelaw06_back c_preludelaw06_num c_preludelaw06_sameBytes c_preludelaw06_shelf_apart b_0 w K) : c_preludelaw06_BatchEncodes b_0 w K := by
  have e : sh_preludelaw06_BatchEncodes c_preluderef06_Parts c_preludelaw06_lent c_batch_Encode c_preluderef06_Encode c_preludelaw06_back c_preludelaw06_num c_preludelaw06_sameBytes c_preludelaw06_shelf_apart b_0 w K = shF Try.prog 5 ⟨[], [], []⟩ [.slice b_0.a b_0.l b_0.c] w (fun v w' => decV .b v fun y0 => K y0 w') := by kernel_rfl
  exact Calls.mono (calls_of _ e h) (onRet_mono (fun _ _ h => decV_spec h))

-- 55 prelude/codec.Read; callees ['slices_Clone_byte_byte']
def sh_codec_Read (c_slices_Clone_byte_byte : Slc → World → (Slc → World → Prop) → Prop) (b_0 : Slc) (w : World) (K : Option Addr → World → Prop) : Prop :=
  c_slices_Clone_byte_byte b_0 w fun r1 w2 => newP #[.slice r1.a r1.l r1.c, .int .i64 0, .int .i64 0] 127 w2 fun a3 w4 => K (some a3) w4

def c_codec_Read (b_0 : Slc) (w : World) (K : Option Addr → World → Prop) : Prop := Calls Try.prog 55 #[.slice b_0.a b_0.l b_0.c] w (onRet (fun v w' => ∃ (y0 : Option Addr), v = .pointer y0 ∧ K y0 w'))

theorem sim_codec_Read {b_0 : Slc} {w : World} {K : Option Addr → World → Prop} (h : sh_codec_Read c_slices_Clone_byte_byte b_0 w K) : c_codec_Read b_0 w K := by
  have e : sh_codec_Read c_slices_Clone_byte_byte b_0 w K = shF Try.prog 55 ⟨[], [], []⟩ [.slice b_0.a b_0.l b_0.c] w (fun v w' => decV .ptr v fun y0 => K y0 w') := by kernel_rfl
  exact Calls.mono (calls_of _ e h) (onRet_mono (fun _ _ h => decV_spec h))

-- 59 (*prelude/codec.Reader).At; callees []
def sh_codec_Reader_At (r_0 : Option Addr) (w : World) (K : Int → World → Prop) : Prop :=
  nnP r_0 fun a1 => ldI .i64 (a1.add 1) w fun n2 => K n2 w

def c_codec_Reader_At (r_0 : Option Addr) (w : World) (K : Int → World → Prop) : Prop := Calls Try.prog 59 #[.pointer r_0] w (onRet (fun v w' => ∃ (y0 : Int), v = .int .i64 y0 ∧ K y0 w'))

theorem sim_codec_Reader_At {r_0 : Option Addr} {w : World} {K : Int → World → Prop} (h : sh_codec_Reader_At r_0 w K) : c_codec_Reader_At r_0 w K := by
  have e : sh_codec_Reader_At r_0 w K = shF Try.prog 59 ⟨[], [], []⟩ [.pointer r_0] w (fun v w' => decV (.int .i64) v fun y0 => K y0 w') := by kernel_rfl
  exact Calls.mono (calls_of _ e h) (onRet_mono (fun _ _ h => decV_spec h))

-- 86 (*prelude/codec.Reader).uint; callees []
def sh_codec_Reader_uint (r_0 : Option Addr) (at_1 : Int) (w : World) (K : Int → Int → Int → World → Prop) : Prop :=
  loopP (σ := Int × Int × Unit) (fun st2 next1 w3 => (fun (n_4 : Int) (i_5 : Int) => nnP r_0 fun a6 => ldS a6 w3 fun s7 => iteB (decide (((IntKind.i64.wrap (at_1 + i_5)) : Int) ≥ (s7.l : Int)))
  (K 0 at_1 10 w3)
  (nnP r_0 fun a8 => ldS a8 w3 fun s9 => idxP s9.a s9.l (IntKind.i64.wrap (at_1 + i_5)) 1 fun a10 => ldI .u8 a10 w3 fun n11 => iteB ((i_5 : Int) == 9)
  (iteB (decide ((n11 : Int) > 1))
  (K 0 at_1 11 w3)
  (iteB (decide ((i_5 : Int) > 0))
  (iteB ((n11 : Int) == 0)
  (K 0 at_1 11 w3)
  (shP (IntKind.i64.wrap (7 * i_5)) (iteB (decide ((n11 : Int) < 128))
  (K (bOr .u64 n_4 (IntKind.u64.wrap ((IntKind.u64.wrap (bAnd .u8 n11 127)) * 2 ^ (min (Int.toNat (IntKind.i64.wrap (7 * i_5))) (IntKind.bits .u64))))) (IntKind.i64.wrap ((IntKind.i64.wrap (at_1 + i_5)) + 1)) 0 w3)
  (next1 ((bOr .u64 n_4 (IntKind.u64.wrap ((IntKind.u64.wrap (bAnd .u8 n11 127)) * 2 ^ (min (Int.toNat (IntKind.i64.wrap (7 * i_5))) (IntKind.bits .u64))))), (IntKind.i64.wrap (i_5 + 1)), ()) w3))))
  (shP (IntKind.i64.wrap (7 * i_5)) (iteB (decide ((n11 : Int) < 128))
  (K (bOr .u64 n_4 (IntKind.u64.wrap ((IntKind.u64.wrap (bAnd .u8 n11 127)) * 2 ^ (min (Int.toNat (IntKind.i64.wrap (7 * i_5))) (IntKind.bits .u64))))) (IntKind.i64.wrap ((IntKind.i64.wrap (at_1 + i_5)) + 1)) 0 w3)
  (next1 ((bOr .u64 n_4 (IntKind.u64.wrap ((IntKind.u64.wrap (bAnd .u8 n11 127)) * 2 ^ (min (Int.toNat (IntKind.i64.wrap (7 * i_5))) (IntKind.bits .u64))))), (IntKind.i64.wrap (i_5 + 1)), ()) w3)))))
  (iteB (decide ((i_5 : Int) > 0))
  (iteB ((n11 : Int) == 0)
  (K 0 at_1 11 w3)
  (shP (IntKind.i64.wrap (7 * i_5)) (iteB (decide ((n11 : Int) < 128))
  (K (bOr .u64 n_4 (IntKind.u64.wrap ((IntKind.u64.wrap (bAnd .u8 n11 127)) * 2 ^ (min (Int.toNat (IntKind.i64.wrap (7 * i_5))) (IntKind.bits .u64))))) (IntKind.i64.wrap ((IntKind.i64.wrap (at_1 + i_5)) + 1)) 0 w3)
  (next1 ((bOr .u64 n_4 (IntKind.u64.wrap ((IntKind.u64.wrap (bAnd .u8 n11 127)) * 2 ^ (min (Int.toNat (IntKind.i64.wrap (7 * i_5))) (IntKind.bits .u64))))), (IntKind.i64.wrap (i_5 + 1)), ()) w3))))
  (shP (IntKind.i64.wrap (7 * i_5)) (iteB (decide ((n11 : Int) < 128))
  (K (bOr .u64 n_4 (IntKind.u64.wrap ((IntKind.u64.wrap (bAnd .u8 n11 127)) * 2 ^ (min (Int.toNat (IntKind.i64.wrap (7 * i_5))) (IntKind.bits .u64))))) (IntKind.i64.wrap ((IntKind.i64.wrap (at_1 + i_5)) + 1)) 0 w3)
  (next1 ((bOr .u64 n_4 (IntKind.u64.wrap ((IntKind.u64.wrap (bAnd .u8 n11 127)) * 2 ^ (min (Int.toNat (IntKind.i64.wrap (7 * i_5))) (IntKind.bits .u64))))), (IntKind.i64.wrap (i_5 + 1)), ()) w3)))))) st2.1 st2.2.1) (0, 0, ()) w

def c_codec_Reader_uint (r_0 : Option Addr) (at_1 : Int) (w : World) (K : Int → Int → Int → World → Prop) : Prop := Calls Try.prog 86 #[.pointer r_0, .int .i64 at_1] w (onRet (fun v w' => ∃ (y0 : Int), ∃ (y1 : Int), ∃ (y2 : Int), v = .tuple #[.int .u64 y0, .int .i64 y1, .int .i64 y2] ∧ K y0 y1 y2 w'))

theorem sim_codec_Reader_uint {r_0 : Option Addr} {at_1 : Int} {w : World} {K : Int → Int → Int → World → Prop} (h : sh_codec_Reader_uint r_0 at_1 w K) : c_codec_Reader_uint r_0 at_1 w K := by
  have e : sh_codec_Reader_uint r_0 at_1 w K = shF Try.prog 86 ⟨[], [(4, [(7, (.int .u64)), (8, (.int .i64))], [0, 1])], []⟩ [.pointer r_0, .int .i64 at_1] w (fun v w' => decT [(false, [(.int .u64)]), (false, [(.int .i64)]), (false, [(.int .i64)])] v fun s => (fun (y0 : Int) (y1 : Int) (y2 : Int) => K y0 y1 y2 w') s.1 s.2.1 s.2.2.1) := by kernel_rfl
  exact Calls.mono (calls_of _ e h) (onRet_mono (fun _ _ h => by obtain ⟨s, h1, h2⟩ := decT_spec h; exact ⟨s.1, s.2.1, s.2.2.1, h1, h2⟩))

-- 74 (*prelude/codec.Reader).Upto; callees ['codec_Reader_uint']
def sh_codec_Reader_Upto (c_codec_Reader_uint : Option Addr → Int → World → (Int → Int → Int → World → Prop) → Prop) (r_0 : Option Addr) (most_1 : Int) (w : World) (K : Int → World → Prop) : Prop :=
  nnP r_0 fun a1 => ldI .i64 (a1.add 2) w fun n2 => iteB ((n2 : Int) != 0)
  (K 0 w)
  (nnP r_0 fun a3 => ldI .i64 (a3.add 1) w fun n4 => c_codec_Reader_uint r_0 n4 w fun r5 r6 r7 w8 => iteB ((r7 : Int) == 0)
  (iteB (decide ((r5 : Int) > most_1))
  (iteB ((12 : Int) != 0)
  (nnP r_0 fun a9 => stP (a9.add 2) (.int .i64 12) w8 fun w10 => K 0 w10)
  (nnP r_0 fun a11 => stP (a11.add 1) (.int .i64 r6) w8 fun w12 => K r5 w12))
  (iteB ((r7 : Int) != 0)
  (nnP r_0 fun a13 => stP (a13.add 2) (.int .i64 r7) w8 fun w14 => K 0 w14)
  (nnP r_0 fun a15 => stP (a15.add 1) (.int .i64 r6) w8 fun w16 => K r5 w16)))
  (iteB ((r7 : Int) != 0)
  (nnP r_0 fun a17 => stP (a17.add 2) (.int .i64 r7) w8 fun w18 => K 0 w18)
  (nnP r_0 fun a19 => stP (a19.add 1) (.int .i64 r6) w8 fun w20 => K r5 w20)))

def c_codec_Reader_Upto (r_0 : Option Addr) (most_1 : Int) (w : World) (K : Int → World → Prop) : Prop := Calls Try.prog 74 #[.pointer r_0, .int .u64 most_1] w (onRet (fun v w' => ∃ (y0 : Int), v = .int .u64 y0 ∧ K y0 w'))

theorem sim_codec_Reader_Upto {r_0 : Option Addr} {most_1 : Int} {w : World} {K : Int → World → Prop} (h : sh_codec_Reader_Upto c_codec_Reader_uint r_0 most_1 w K) : c_codec_Reader_Upto r_0 most_1 w K := by
  have e : sh_codec_Reader_Upto c_codec_Reader_uint r_0 most_1 w K = shF Try.prog 74 ⟨[], [], []⟩ [.pointer r_0, .int .u64 most_1] w (fun v w' => decV (.int .u64) v fun y0 => K y0 w') := by kernel_rfl
  exact Calls.mono (calls_of _ e h) (onRet_mono (fun _ _ h => decV_spec h))

-- 87 (*prelude/codec.Reader).Err; callees []
def sh_codec_Reader_Err (r_0 : Option Addr) (w : World) (K : Int → World → Prop) : Prop :=
  nnP r_0 fun a1 => ldI .i64 (a1.add 2) w fun n2 => K n2 w

def c_codec_Reader_Err (r_0 : Option Addr) (w : World) (K : Int → World → Prop) : Prop := Calls Try.prog 87 #[.pointer r_0] w (onRet (fun v w' => ∃ (y0 : Int), v = .int .i64 y0 ∧ K y0 w'))

theorem sim_codec_Reader_Err {r_0 : Option Addr} {w : World} {K : Int → World → Prop} (h : sh_codec_Reader_Err r_0 w K) : c_codec_Reader_Err r_0 w K := by
  have e : sh_codec_Reader_Err r_0 w K = shF Try.prog 87 ⟨[], [], []⟩ [.pointer r_0] w (fun v w' => decV (.int .i64) v fun y0 => K y0 w') := by kernel_rfl
  exact Calls.mono (calls_of _ e h) (onRet_mono (fun _ _ h => decV_spec h))

-- 75 (prelude/batch.reader).held; callees ['codec_Reader_Err']
def sh_batch_reader_held (c_codec_Reader_Err : Option Addr → World → (Int → World → Prop) → Prop) (r_0_0 : Option Addr) (at_1 : Int) (w : World) (K : World → Prop) (KP : List PanicEntry → World → Prop) : Prop :=
  newP #[.pointer r_0_0] 101 w fun a1 w2 => ldP a1 w2 fun p3 => c_codec_Reader_Err p3 w2 fun r4 w5 => iteB ((r4 : Int) != 0)
  (panP (.iface 96 (.agg #[.int .i64 at_1, .int .i64 r4])) KP w5)
  (K w5)

def c_batch_reader_held (r_0_0 : Option Addr) (at_1 : Int) (w : World) (K : World → Prop) (KP : List PanicEntry → World → Prop) : Prop := Calls Try.prog 75 #[.agg #[.pointer r_0_0], .int .i64 at_1] w (onRetX (fun v w' => v = .tuple #[] ∧ K w') KP)

theorem sim_batch_reader_held {r_0_0 : Option Addr} {at_1 : Int} {w : World} {K : World → Prop} {KP : List PanicEntry → World → Prop} (h : sh_batch_reader_held c_codec_Reader_Err r_0_0 at_1 w K KP) : c_batch_reader_held r_0_0 at_1 w K KP := by
  have e : sh_batch_reader_held c_codec_Reader_Err r_0_0 at_1 w K KP = shFX Try.prog 75 ⟨[], [], []⟩ [.agg #[.pointer r_0_0], .int .i64 at_1] w (fun v w' => decU v (K w')) ⟨[], KP⟩ := by kernel_rfl
  exact Calls.mono (callsX_of _ e h) (onRetX_mono (fun _ _ h => decU_spec h))

-- 56 (prelude/batch.reader).upto; callees ['codec_Reader_At', 'codec_Reader_Upto', 'batch_reader_held']
def sh_batch_reader_upto (c_codec_Reader_At : Option Addr → World → (Int → World → Prop) → Prop) (c_codec_Reader_Upto : Option Addr → Int → World → (Int → World → Prop) → Prop) (c_batch_reader_held : Option Addr → Int → World → (World → Prop) → (List PanicEntry → World → Prop) → Prop) (r_0_0 : Option Addr) (most_1 : Int) (w : World) (K : Int → World → Prop) (KP : List PanicEntry → World → Prop) : Prop :=
  newP #[.pointer r_0_0] 101 w fun a1 w2 => ldP a1 w2 fun p3 => c_codec_Reader_At p3 w2 fun r4 w5 => ldP a1 w5 fun p6 => c_codec_Reader_Upto p6 (IntKind.u64.wrap most_1) w5 fun r7 w8 => ldP a1 w8 fun p9 => c_batch_reader_held p9 r4 w8 (fun w10 => K (IntKind.i64.wrap r7) w10) KP

def c_batch_reader_upto (r_0_0 : Option Addr) (most_1 : Int) (w : World) (K : Int → World → Prop) (KP : List PanicEntry → World → Prop) : Prop := Calls Try.prog 56 #[.agg #[.pointer r_0_0], .int .i64 most_1] w (onRetX (fun v w' => ∃ (y0 : Int), v = .int .i64 y0 ∧ K y0 w') KP)

theorem sim_batch_reader_upto {r_0_0 : Option Addr} {most_1 : Int} {w : World} {K : Int → World → Prop} {KP : List PanicEntry → World → Prop} (h : sh_batch_reader_upto c_codec_Reader_At c_codec_Reader_Upto c_batch_reader_held r_0_0 most_1 w K KP) : c_batch_reader_upto r_0_0 most_1 w K KP := by
  have e : sh_batch_reader_upto c_codec_Reader_At c_codec_Reader_Upto c_batch_reader_held r_0_0 most_1 w K KP = shFX Try.prog 56 ⟨[], [], []⟩ [.agg #[.pointer r_0_0], .int .i64 most_1] w (fun v w' => decV (.int .i64) v fun y0 => K y0 w') ⟨[75], KP⟩ := by kernel_rfl
  exact Calls.mono (callsX_of _ e h) (onRetX_mono (fun _ _ h => decV_spec h))

-- 88 (*prelude/codec.Reader).Uint; callees ['codec_Reader_Upto']
def sh_codec_Reader_Uint (c_codec_Reader_Upto : Option Addr → Int → World → (Int → World → Prop) → Prop) (r_0 : Option Addr) (w : World) (K : Int → World → Prop) : Prop :=
  c_codec_Reader_Upto r_0 18446744073709551615 w fun r1 w2 => K r1 w2

def c_codec_Reader_Uint (r_0 : Option Addr) (w : World) (K : Int → World → Prop) : Prop := Calls Try.prog 88 #[.pointer r_0] w (onRet (fun v w' => ∃ (y0 : Int), v = .int .u64 y0 ∧ K y0 w'))

theorem sim_codec_Reader_Uint {r_0 : Option Addr} {w : World} {K : Int → World → Prop} (h : sh_codec_Reader_Uint c_codec_Reader_Upto r_0 w K) : c_codec_Reader_Uint r_0 w K := by
  have e : sh_codec_Reader_Uint c_codec_Reader_Upto r_0 w K = shF Try.prog 88 ⟨[], [], []⟩ [.pointer r_0] w (fun v w' => decV (.int .u64) v fun y0 => K y0 w') := by kernel_rfl
  exact Calls.mono (calls_of _ e h) (onRet_mono (fun _ _ h => decV_spec h))

-- 76 (*prelude/codec.Reader).Int; callees ['codec_Reader_Uint']
def sh_codec_Reader_Int (c_codec_Reader_Uint : Option Addr → World → (Int → World → Prop) → Prop) (r_0 : Option Addr) (w : World) (K : Int → World → Prop) : Prop :=
  c_codec_Reader_Uint r_0 w fun r1 w2 => shP 1 (K (bXor .i64 (IntKind.i64.wrap (Int.fdiv r1 (2 ^ (min (Int.toNat 1) (IntKind.bits .u64))))) (IntKind.i64.wrap (0 - (IntKind.i64.wrap (bAnd .u64 r1 1))))) w2)

def c_codec_Reader_Int (r_0 : Option Addr) (w : World) (K : Int → World → Prop) : Prop := Calls Try.prog 76 #[.pointer r_0] w (onRet (fun v w' => ∃ (y0 : Int), v = .int .i64 y0 ∧ K y0 w'))

theorem sim_codec_Reader_Int {r_0 : Option Addr} {w : World} {K : Int → World → Prop} (h : sh_codec_Reader_Int c_codec_Reader_Uint r_0 w K) : c_codec_Reader_Int r_0 w K := by
  have e : sh_codec_Reader_Int c_codec_Reader_Uint r_0 w K = shF Try.prog 76 ⟨[], [], []⟩ [.pointer r_0] w (fun v w' => decV (.int .i64) v fun y0 => K y0 w') := by kernel_rfl
  exact Calls.mono (calls_of _ e h) (onRet_mono (fun _ _ h => decV_spec h))

-- 89 (*prelude/codec.Reader).Raw; callees ['slices_Clone_byte_byte']
def sh_codec_Reader_Raw (c_slices_Clone_byte_byte : Slc → World → (Slc → World → Prop) → Prop) (r_0 : Option Addr) (n_1 : Int) (w : World) (K : Slc → World → Prop) : Prop :=
  nnP r_0 fun a1 => ldI .i64 (a1.add 2) w fun n2 => iteB ((n2 : Int) != 0)
  (K ⟨none, 0, 0⟩ w)
  (iteB (decide ((n_1 : Int) < 0))
  (nnP r_0 fun a3 => stP (a3.add 2) (.int .i64 11) w fun w4 => K ⟨none, 0, 0⟩ w4)
  (nnP r_0 fun a5 => ldS a5 w.drew fun s6 => nnP r_0 fun a7 => ldI .i64 (a7.add 1) w.drew fun n8 => iteB (decide ((n_1 : Int) > (IntKind.i64.wrap ((s6.l : Int) - n8))))
  (nnP r_0 fun a9 => stP (a9.add 2) (.int .i64 10) w.drew fun w10 => K ⟨none, 0, 0⟩ w10)
  (nnP r_0 fun a11 => ldI .i64 (a11.add 1) w.drew fun n12 => nnP r_0 fun a13 => stP (a13.add 1) (.int .i64 (IntKind.i64.wrap (n12 + n_1))) w.drew fun w14 => nnP r_0 fun a15 => ldS a15 w14.drew fun s16 => nnP r_0 fun a17 => ldI .i64 (a17.add 1) w14.drew fun n18 => nnP r_0 fun a19 => ldI .i64 (a19.add 1) w14.drew fun n20 => slP s16.a s16.l s16.c (some (IntKind.i64.wrap (n18 - n_1))) (some n20) 1 fun p21 l22 c23 => c_slices_Clone_byte_byte ⟨p21, l22, c23⟩ w14.drew fun r24 w25 => K r24 w25)))

def c_codec_Reader_Raw (r_0 : Option Addr) (n_1 : Int) (w : World) (K : Slc → World → Prop) : Prop := Calls Try.prog 89 #[.pointer r_0, .int .i64 n_1] w (onRet (fun v w' => ∃ (y0 : Slc), v = .slice y0.a y0.l y0.c ∧ K y0 w'))

theorem sim_codec_Reader_Raw {r_0 : Option Addr} {n_1 : Int} {w : World} {K : Slc → World → Prop} (h : sh_codec_Reader_Raw c_slices_Clone_byte_byte r_0 n_1 w K) : c_codec_Reader_Raw r_0 n_1 w K := by
  have e : sh_codec_Reader_Raw c_slices_Clone_byte_byte r_0 n_1 w K = shF Try.prog 89 ⟨[(6, [0, 1, 2, 3, 4, 5, 6, 7, 8, 9, 10, 11, 12]), (10, [0, 1, 2, 3, 4, 5, 6, 7, 8, 9, 10, 11, 12, 13, 14, 15, 16])], [], []⟩ [.pointer r_0, .int .i64 n_1] w (fun v w' => decV .sl v fun y0 => K y0 w') := by kernel_rfl
  exact Calls.mono (calls_of _ e h) (onRet_mono (fun _ _ h => decV_spec h))

-- 90 prelude/keys.FromBytes; callees []
def sh_keys_FromBytes (b_0 : Slc) (w : World) (K : Int → Int → Int → World → Prop) : Prop :=
  newP #[.int .i64 0, .int .i64 0] 70 w fun a1 w2 => iteB (decide (((b_0.l : Int) : Int) < 10))
  (stP a1 (.int .i64 0) w2 fun w3 => stP (a1.add 1) (.int .i64 0) w3 fun w4 => ldI .i64 a1 w4 fun n5 => ldI .i64 (a1.add 1) w4 fun n6 => K n5 n6 10 w4)
  (iteB (decide (((b_0.l : Int) : Int) > 10))
  (stP a1 (.int .i64 0) w2 fun w7 => stP (a1.add 1) (.int .i64 0) w7 fun w8 => ldI .i64 a1 w8 fun n9 => ldI .i64 (a1.add 1) w8 fun n10 => K n9 n10 11 w8)
  (slP b_0.a b_0.l b_0.c (some 2) none 1 fun p11 l12 c13 => loopP (σ := Int × Int × Unit) (fun st15 next14 w16 => (fun (row_17 : Int) (x18 : Int) => iteB (decide ((x18 : Int) < (l12 : Int)))
  (idxP p11 l12 x18 1 fun a19 => ldI .u8 a19 w16 fun n20 => shP 8 (next14 ((bOr .u64 (IntKind.u64.wrap (row_17 * 2 ^ (min (Int.toNat 8) (IntKind.bits .u64)))) (IntKind.u64.wrap n20)), (IntKind.i64.wrap (x18 + 1)), ()) w16))
  (idxP b_0.a b_0.l 0 1 fun a21 => ldI .u8 a21 w16.drew fun n22 => shP 8 (idxP b_0.a b_0.l 1 1 fun a23 => ldI .u8 a23 w16.drew fun n24 => stP a1 (.int .i64 (bOr .i64 (IntKind.i64.wrap ((IntKind.i64.wrap n22) * 2 ^ (min (Int.toNat 8) (IntKind.bits .i64)))) (IntKind.i64.wrap n24))) w16.drew fun w25 => stP (a1.add 1) (.int .i64 (IntKind.i64.wrap (bXor .u64 row_17 9223372036854775808))) w25 fun w26 => ldI .i64 a1 w26 fun n27 => ldI .i64 (a1.add 1) w26 fun n28 => K n27 n28 0 w26))) st15.1 st15.2.1) (0, 0, ()) w2))

def c_keys_FromBytes (b_0 : Slc) (w : World) (K : Int → Int → Int → World → Prop) : Prop := Calls Try.prog 90 #[.slice b_0.a b_0.l b_0.c] w (onRet (fun v w' => ∃ (y0 : Int), ∃ (y1 : Int), ∃ (y2 : Int), v = .tuple #[.agg #[.int .i64 y0, .int .i64 y1], .int .i64 y2] ∧ K y0 y1 y2 w'))

theorem sim_keys_FromBytes {b_0 : Slc} {w : World} {K : Int → Int → Int → World → Prop} (h : sh_keys_FromBytes b_0 w K) : c_keys_FromBytes b_0 w K := by
  have e : sh_keys_FromBytes b_0 w K = shF Try.prog 90 ⟨[(11, [0, 1, 2, 3, 4, 5, 6, 7, 8, 9, 10, 11, 12, 13, 14, 15])], [(7, [(4, (.int .u64)), (20, (.int .i64))], [0, 2, 18, 19])], []⟩ [.slice b_0.a b_0.l b_0.c] w (fun v w' => decT [(true, [(.int .i64), (.int .i64)]), (false, [(.int .i64)])] v fun s => (fun (y0 : Int) (y1 : Int) (y2 : Int) => K y0 y1 y2 w') s.1 s.2.1 s.2.2.1) := by kernel_rfl
  exact Calls.mono (calls_of _ e h) (onRet_mono (fun _ _ h => by obtain ⟨s, h1, h2⟩ := decT_spec h; exact ⟨s.1, s.2.1, s.2.2.1, h1, h2⟩))

-- 77 (prelude/batch.reader).set; callees ['batch_reader_upto', 'codec_Reader_At', 'codec_Reader_Raw', 'batch_reader_held', 'keys_FromBytes', 'keys_Compare']
def sh_batch_reader_set (c_batch_reader_upto : Option Addr → Int → World → (Int → World → Prop) → (List PanicEntry → World → Prop) → Prop) (c_codec_Reader_At : Option Addr → World → (Int → World → Prop) → Prop) (c_codec_Reader_Raw : Option Addr → Int → World → (Slc → World → Prop) → Prop) (c_batch_reader_held : Option Addr → Int → World → (World → Prop) → (List PanicEntry → World → Prop) → Prop) (c_keys_FromBytes : Slc → World → (Int → Int → Int → World → Prop) → Prop) (c_keys_Compare : Int → Int → Int → Int → World → (Int → World → Prop) → Prop) (r_0_0 : Option Addr) (most_1 : Int) (w : World) (K : Slc → World → Prop) (KP : List PanicEntry → World → Prop) : Prop :=
  newP #[.pointer r_0_0] 101 w fun a1 w2 => ldP a1 w2 fun p3 => c_batch_reader_upto p3 most_1 w2 (fun r4 w5 => loopP (σ := Slc × Int × Unit) (fun st7 next6 w8 => (fun (l_9 : Slc) (x10 : Int) => iteB (decide ((x10 : Int) < r4))
  (ldP a1 w8 fun p11 => c_codec_Reader_At p11 w8 fun r12 w13 => ldP a1 w13 fun p14 => c_codec_Reader_Raw p14 10 w13 fun r15 w16 => ldP a1 w16 fun p17 => c_batch_reader_held p17 r12 w16 (fun w18 => c_keys_FromBytes r15 w18 fun r19 r20 r21 w22 => newP #[.int .i64 0, .int .i64 0] 70 w22 fun a23 w24 => stP a23 (.int .i64 r19) w24 fun w25 => stP (a23.add 1) (.int .i64 r20) w25 fun w26 => iteB (decide (((l_9.l : Int) : Int) > 0))
  (idxP l_9.a l_9.l (IntKind.i64.wrap ((l_9.l : Int) - 1)) 2 fun a27 => ldI .i64 a27 w26.drew fun n28 => ldI .i64 (a27.add 1) w26.drew fun n29 => ldI .i64 a23 w26.drew fun n30 => ldI .i64 (a23.add 1) w26.drew fun n31 => c_keys_Compare n28 n29 n30 n31 w26.drew fun r32 w33 => iteB (decide ((r32 : Int) ≥ 0))
  (panP (.iface 96 (.agg #[.int .i64 r12, .int .i64 65])) KP w33)
  (ldI .i64 a23 w33 fun n34 => ldI .i64 (a23.add 1) w33 fun n35 => newP #[.int .i64 n34, .int .i64 n35] 70 w33 fun a36 w37 => apP Try.prog #[30, 30] 30 [.slice l_9.a l_9.l l_9.c, .slice (some a36) 1 1] w37 fun s39 w38 => next6 (s39, (IntKind.i64.wrap (x10 + 1)), ()) w38))
  (ldI .i64 a23 w26.drew fun n40 => ldI .i64 (a23.add 1) w26.drew fun n41 => newP #[.int .i64 n40, .int .i64 n41] 70 w26.drew fun a42 w43 => apP Try.prog #[30, 30] 30 [.slice l_9.a l_9.l l_9.c, .slice (some a42) 1 1] w43 fun s45 w44 => next6 (s45, (IntKind.i64.wrap (x10 + 1)), ()) w44)) KP)
  (K l_9 w8)) st7.1 st7.2.1) (⟨none, 0, 0⟩, 0, ()) w5) KP

def c_batch_reader_set (r_0_0 : Option Addr) (most_1 : Int) (w : World) (K : Slc → World → Prop) (KP : List PanicEntry → World → Prop) : Prop := Calls Try.prog 77 #[.agg #[.pointer r_0_0], .int .i64 most_1] w (onRetX (fun v w' => ∃ (y0 : Slc), v = .slice y0.a y0.l y0.c ∧ K y0 w') KP)

theorem sim_batch_reader_set {r_0_0 : Option Addr} {most_1 : Int} {w : World} {K : Slc → World → Prop} {KP : List PanicEntry → World → Prop} (h : sh_batch_reader_set c_batch_reader_upto c_codec_Reader_At c_codec_Reader_Raw c_batch_reader_held c_keys_FromBytes c_keys_Compare r_0_0 most_1 w K KP) : c_batch_reader_set r_0_0 most_1 w K KP := by
  have e : sh_batch_reader_set c_batch_reader_upto c_codec_Reader_At c_codec_Reader_Raw c_batch_reader_held c_keys_FromBytes c_keys_Compare r_0_0 most_1 w K KP = shFX Try.prog 77 ⟨[(8, [0, 1, 2, 3, 4, 5, 6, 7, 8, 9, 10, 11, 12, 13])], [(3, [(5, .sl), (13, (.int .i64))], [2, 12])], []⟩ [.agg #[.pointer r_0_0], .int .i64 most_1] w (fun v w' => decV .sl v fun y0 => K y0 w') ⟨[56, 75], KP⟩ := by kernel_rfl
  exact Calls.mono (callsX_of _ e h) (onRetX_mono (fun _ _ h => decV_spec h))

-- 57 (prelude/batch.reader).tx; callees ['batch_reader_upto', 'codec_Reader_At', 'codec_Reader_Int', 'batch_reader_held', 'batch_reader_set']
def sh_batch_reader_tx (c_batch_reader_upto : Option Addr → Int → World → (Int → World → Prop) → (List PanicEntry → World → Prop) → Prop) (c_codec_Reader_At : Option Addr → World → (Int → World → Prop) → Prop) (c_codec_Reader_Int : Option Addr → World → (Int → World → Prop) → Prop) (c_batch_reader_held : Option Addr → Int → World → (World → Prop) → (List PanicEntry → World → Prop) → Prop) (c_batch_reader_set : Option Addr → Int → World → (Slc → World → Prop) → (List PanicEntry → World → Prop) → Prop) (r_0_0 : Option Addr) (w : World) (K : Int → Slc → Slc → Slc → World → Prop) (KP : List PanicEntry → World → Prop) : Prop :=
  newP #[.pointer r_0_0] 101 w fun a1 w2 => newP #[.int .i64 0, .slice none 0 0, .slice none 0 0, .slice none 0 0] 66 w2 fun a3 w4 => ldP a1 w4 fun p5 => c_batch_reader_upto p5 63 w4 (fun r6 w7 => newP #[.int .i64 0, .slice none 0 0, .slice none 0 0, .slice none 0 0] 66 w7 fun a8 w9 => stP a8 (.int .i64 r6) w9 fun w10 => stP (a8.add 1) (.slice none 0 0) w10 fun w11 => stP (a8.add 2) (.slice none 0 0) w11 fun w12 => stP (a8.add 3) (.slice none 0 0) w12 fun w13 => ldP a1 w13 fun p14 => c_batch_reader_upto p14 16 w13 (fun r15 w16 => loopP (σ := Int × Unit) (fun st18 next17 w19 => (fun (x20 : Int) => iteB (decide ((x20 : Int) < r15))
  (ldP a1 w19 fun p21 => c_codec_Reader_At p21 w19 fun r22 w23 => ldP a1 w23 fun p24 => c_codec_Reader_Int p24 w23 fun r25 w26 => ldP a1 w26 fun p27 => c_batch_reader_held p27 r22 w26 (fun w28 => ldS (a8.add 1) w28 fun s29 => newP #[.int .i64 r25] 2 w28 fun a30 w31 => apP Try.prog #[64, 64] 64 [.slice s29.a s29.l s29.c, .slice (some a30) 1 1] w31 fun s33 w32 => stP (a8.add 1) (.slice s33.a s33.l s33.c) w32 fun w34 => next17 ((IntKind.i64.wrap (x20 + 1)), ()) w34) KP)
  (ldP a1 w19 fun p35 => c_batch_reader_set p35 16 w19 (fun r36 w37 => stP (a8.add 2) (.slice r36.a r36.l r36.c) w37 fun w38 => ldP a1 w38 fun p39 => c_batch_reader_set p39 16 w38 (fun r40 w41 => stP (a8.add 3) (.slice r40.a r40.l r40.c) w41 fun w42 => ldI .i64 a8 w42 fun n43 => ldS (a8.add 1) w42 fun s44 => ldS (a8.add 2) w42 fun s45 => ldS (a8.add 3) w42 fun s46 => stP a3 (.int .i64 n43) w42 fun w47 => stP (a3.add 1) (.slice s44.a s44.l s44.c) w47 fun w48 => stP (a3.add 2) (.slice s45.a s45.l s45.c) w48 fun w49 => stP (a3.add 3) (.slice s46.a s46.l s46.c) w49 fun w50 => ldI .i64 a3 w50 fun n51 => ldS (a3.add 1) w50 fun s52 => ldS (a3.add 2) w50 fun s53 => ldS (a3.add 3) w50 fun s54 => K n51 s52 s53 s54 w50) KP) KP)) st18.1) (0, ()) w16) KP) KP

def c_batch_reader_tx (r_0_0 : Option Addr) (w : World) (K : Int → Slc → Slc → Slc → World → Prop) (KP : List PanicEntry → World → Prop) : Prop := Calls Try.prog 57 #[.agg #[.pointer r_0_0]] w (onRetX (fun v w' => ∃ (y0 : Int), ∃ (y1 : Slc), ∃ (y2 : Slc), ∃ (y3 : Slc), v = .agg #[.int .i64 y0, .slice y1.a y1.l y1.c, .slice y2.a y2.l y2.c, .slice y3.a y3.l y3.c] ∧ K y0 y1 y2 y3 w') KP)

theorem sim_batch_reader_tx {r_0_0 : Option Addr} {w : World} {K : Int → Slc → Slc → Slc → World → Prop} {KP : List PanicEntry → World → Prop} (h : sh_batch_reader_tx c_batch_reader_upto c_codec_Reader_At c_codec_Reader_Int c_batch_reader_held c_batch_reader_set r_0_0 w K KP) : c_batch_reader_tx r_0_0 w K KP := by
  have e : sh_batch_reader_tx c_batch_reader_upto c_codec_Reader_At c_codec_Reader_Int c_batch_reader_held c_batch_reader_set r_0_0 w K KP = shFX Try.prog 57 ⟨[], [(3, [(11, (.int .i64))], [1, 2, 3, 10])], []⟩ [.agg #[.pointer r_0_0]] w (fun v w' => decA [(.int .i64), .sl, .sl, .sl] v fun s => (fun (y0 : Int) (y1 : Slc) (y2 : Slc) (y3 : Slc) => K y0 y1 y2 y3 w') s.1 s.2.1 s.2.2.1 s.2.2.2.1) ⟨[56, 75, 77], KP⟩ := by kernel_rfl
  exact Calls.mono (callsX_of _ e h) (onRetX_mono (fun _ _ h => by obtain ⟨s, h1, h2⟩ := decA_spec h; exact ⟨s.1, s.2.1, s.2.2.1, s.2.2.2.1, h1, h2⟩))

-- 58 (*prelude/codec.Reader).Left; callees []
def sh_codec_Reader_Left (r_0 : Option Addr) (w : World) (K : Int → World → Prop) : Prop :=
  nnP r_0 fun a1 => ldS a1 w.drew fun s2 => nnP r_0 fun a3 => ldI .i64 (a3.add 1) w.drew fun n4 => K (IntKind.i64.wrap ((s2.l : Int) - n4)) w.drew

def c_codec_Reader_Left (r_0 : Option Addr) (w : World) (K : Int → World → Prop) : Prop := Calls Try.prog 58 #[.pointer r_0] w (onRet (fun v w' => ∃ (y0 : Int), v = .int .i64 y0 ∧ K y0 w'))

theorem sim_codec_Reader_Left {r_0 : Option Addr} {w : World} {K : Int → World → Prop} (h : sh_codec_Reader_Left r_0 w K) : c_codec_Reader_Left r_0 w K := by
  have e : sh_codec_Reader_Left r_0 w K = shF Try.prog 58 ⟨[(1, [0, 1, 2, 3, 4, 5, 6, 7, 8, 9, 10])], [], []⟩ [.pointer r_0] w (fun v w' => decV (.int .i64) v fun y0 => K y0 w') := by kernel_rfl
  exact Calls.mono (calls_of _ e h) (onRet_mono (fun _ _ h => decV_spec h))

-- 27 prelude/batch.Decode; callees ['codec_Read', 'batch_reader_upto', 'batch_reader_tx', 'codec_Reader_Left', 'codec_Reader_At']
def sh_batch_Decode (c_codec_Read : Slc → World → (Option Addr → World → Prop) → Prop) (c_batch_reader_upto : Option Addr → Int → World → (Int → World → Prop) → (List PanicEntry → World → Prop) → Prop) (c_batch_reader_tx : Option Addr → World → (Int → Slc → Slc → Slc → World → Prop) → (List PanicEntry → World → Prop) → Prop) (c_codec_Reader_Left : Option Addr → World → (Int → World → Prop) → Prop) (c_codec_Reader_At : Option Addr → World → (Int → World → Prop) → Prop) (data_0 : Slc) (w : World) (K : Slc → Int → Int → World → Prop) : Prop :=
  newP #[.slice none 0 0] 22 w fun a1 w2 => newP #[.int .i64 0] 3 w2 fun a3 w4 => newP #[.int .i64 0] 43 w4 fun a5 w6 => c_codec_Read data_0 w6 fun r14 w15 => newP #[.pointer none] 101 w15 fun a16 w17 => stP a16 (.pointer r14) w17 fun w18 => ldP a16 w18 fun p19 => c_batch_reader_upto p19 64 w18 (fun r20 w21 => loopP (σ := Int × Unit) (fun st23 next22 w24 => (fun (x25 : Int) => iteB (decide ((x25 : Int) < r20))
  (ldS a1 w24.drew fun s26 => ldP a16 w24.drew fun p27 => c_batch_reader_tx p27 w24.drew (fun r28 r29 r30 r31 w32 => w32.cell? a1 = some (.slice s26.a s26.l s26.c) ∧ (newP #[.int .i64 r28, .slice r29.a r29.l r29.c, .slice r30.a r30.l r30.c, .slice r31.a r31.l r31.c] 66 w32 fun a33 w34 => w34.cell? a1 = some (.slice s26.a s26.l s26.c) ∧ (apP Try.prog #[22, 22] 22 [.slice s26.a s26.l s26.c, .slice (some a33) 1 1] w34 fun s36 w35 => stP a1 (.slice s36.a s36.l s36.c) w35 fun w37 => next22 ((IntKind.i64.wrap (x25 + 1)), ()) w37))) (fun ch8 w9 => dfP Try.prog (.func (.func 54) #[] #[.pointer (some a1), .pointer (some a3), .pointer (some a5)]) (.panicking ch8) w9 fun w10 => ldS a1 w10 fun s11 => ldI .i64 a3 w10 fun n12 => ldI .i64 a5 w10 fun n13 => K s11 n12 n13 w10))
  (ldP a16 w24 fun p38 => c_codec_Reader_Left p38 w24 fun r39 w40 => iteB (decide ((r39 : Int) > 0))
  (ldP a16 w40 fun p41 => c_codec_Reader_At p41 w40 fun r42 w43 => panP (.iface 96 (.agg #[.int .i64 r42, .int .i64 11])) (fun ch8 w9 => dfP Try.prog (.func (.func 54) #[] #[.pointer (some a1), .pointer (some a3), .pointer (some a5)]) (.panicking ch8) w9 fun w10 => ldS a1 w10 fun s11 => ldI .i64 a3 w10 fun n12 => ldI .i64 a5 w10 fun n13 => K s11 n12 n13 w10) w43)
  (ldS a1 w40 fun s44 => stP a1 (.slice s44.a s44.l s44.c) w40 fun w45 => stP a3 (.int .i64 0) w45 fun w46 => stP a5 (.int .i64 0) w46 fun w47 => dfP Try.prog (.func (.func 54) #[] #[.pointer (some a1), .pointer (some a3), .pointer (some a5)]) .returning w47 fun w48 => ldS a1 w48 fun s49 => ldI .i64 a3 w48 fun n50 => ldI .i64 a5 w48 fun n51 => K s49 n50 n51 w48))) st23.1) (0, ()) w21) (fun ch8 w9 => dfP Try.prog (.func (.func 54) #[] #[.pointer (some a1), .pointer (some a3), .pointer (some a5)]) (.panicking ch8) w9 fun w10 => ldS a1 w10 fun s11 => ldI .i64 a3 w10 fun n12 => ldI .i64 a5 w10 fun n13 => K s11 n12 n13 w10)

def c_batch_Decode (data_0 : Slc) (w : World) (K : Slc → Int → Int → World → Prop) : Prop := Calls Try.prog 27 #[.slice data_0.a data_0.l data_0.c] w (onRet (fun v w' => ∃ (y0 : Slc), ∃ (y1 : Int), ∃ (y2 : Int), v = .tuple #[.slice y0.a y0.l y0.c, .int .i64 y1, .int .i64 y2] ∧ K y0 y1 y2 w'))

theorem sim_batch_Decode {data_0 : Slc} {w : World} {K : Slc → Int → Int → World → Prop} (h : sh_batch_Decode c_codec_Read c_batch_reader_upto c_batch_reader_tx c_codec_Reader_Left c_codec_Reader_At data_0 w K) : c_batch_Decode data_0 w K := by
  have e : sh_batch_Decode c_codec_Read c_batch_reader_upto c_batch_reader_tx c_codec_Reader_Left c_codec_Reader_At data_0 w K = shFD Try.prog [56, 57] 27 ⟨[(5, [0, 1, 2, 3, 4, 5])], [(4, [(12, (.int .i64))], [2, 3, 4, 5, 11])], []⟩ [.slice data_0.a data_0.l data_0.c] w (fun v w' => decT [(false, [.sl]), (false, [(.int .i64)]), (false, [(.int .i64)])] v fun s => (fun (y0 : Slc) (y1 : Int) (y2 : Int) => K y0 y1 y2 w') s.1 s.2.1 s.2.2.1) := by kernel_rfl
  exact Calls.mono (callsD_of _ e h) (onRet_mono (fun _ _ h => by obtain ⟨s, h1, h2⟩ := decT_spec h; exact ⟨s.1, s.2.1, s.2.2.1, h1, h2⟩))

-- 91 prelude/preluderef01.number; callees []
def sh_preluderef01_number (b_0 : Slc) (w : World) (K : Int → Int → Int → World → Prop) : Prop :=
  loopP (σ := Int × Int × Unit) (fun st2 next1 w3 => (fun (n_4 : Int) (k_5 : Int) => iteB (decide ((k_5 : Int) < 10))
  (iteB ((k_5 : Int) == (b_0.l : Int))
  (K 0 0 10 w3)
  (iteB ((k_5 : Int) == 9)
  (idxP b_0.a b_0.l k_5 1 fun a6 => ldI .u8 a6 w3 fun n7 => iteB (decide ((n7 : Int) > 1))
  (K 0 0 11 w3)
  (iteB (decide ((k_5 : Int) > 0))
  (idxP b_0.a b_0.l k_5 1 fun a8 => ldI .u8 a8 w3 fun n9 => iteB ((n9 : Int) == 0)
  (K 0 0 11 w3)
  (idxP b_0.a b_0.l k_5 1 fun a10 => ldI .u8 a10 w3 fun n11 => dzP 128 (shP (IntKind.i64.wrap (7 * k_5)) (idxP b_0.a b_0.l k_5 1 fun a12 => ldI .u8 a12 w3 fun n13 => iteB (decide ((n13 : Int) < 128))
  (K (IntKind.u64.wrap (n_4 + (IntKind.u64.wrap ((IntKind.u64.wrap (Int.tmod n11 128)) * 2 ^ (min (Int.toNat (IntKind.i64.wrap (7 * k_5))) (IntKind.bits .u64)))))) (IntKind.i64.wrap (k_5 + 1)) 0 w3)
  (next1 ((IntKind.u64.wrap (n_4 + (IntKind.u64.wrap ((IntKind.u64.wrap (Int.tmod n11 128)) * 2 ^ (min (Int.toNat (IntKind.i64.wrap (7 * k_5))) (IntKind.bits .u64)))))), (IntKind.i64.wrap (k_5 + 1)), ()) w3)))))
  (idxP b_0.a b_0.l k_5 1 fun a14 => ldI .u8 a14 w3 fun n15 => dzP 128 (shP (IntKind.i64.wrap (7 * k_5)) (idxP b_0.a b_0.l k_5 1 fun a16 => ldI .u8 a16 w3 fun n17 => iteB (decide ((n17 : Int) < 128))
  (K (IntKind.u64.wrap (n_4 + (IntKind.u64.wrap ((IntKind.u64.wrap (Int.tmod n15 128)) * 2 ^ (min (Int.toNat (IntKind.i64.wrap (7 * k_5))) (IntKind.bits .u64)))))) (IntKind.i64.wrap (k_5 + 1)) 0 w3)
  (next1 ((IntKind.u64.wrap (n_4 + (IntKind.u64.wrap ((IntKind.u64.wrap (Int.tmod n15 128)) * 2 ^ (min (Int.toNat (IntKind.i64.wrap (7 * k_5))) (IntKind.bits .u64)))))), (IntKind.i64.wrap (k_5 + 1)), ()) w3))))))
  (iteB (decide ((k_5 : Int) > 0))
  (idxP b_0.a b_0.l k_5 1 fun a18 => ldI .u8 a18 w3 fun n19 => iteB ((n19 : Int) == 0)
  (K 0 0 11 w3)
  (idxP b_0.a b_0.l k_5 1 fun a20 => ldI .u8 a20 w3 fun n21 => dzP 128 (shP (IntKind.i64.wrap (7 * k_5)) (idxP b_0.a b_0.l k_5 1 fun a22 => ldI .u8 a22 w3 fun n23 => iteB (decide ((n23 : Int) < 128))
  (K (IntKind.u64.wrap (n_4 + (IntKind.u64.wrap ((IntKind.u64.wrap (Int.tmod n21 128)) * 2 ^ (min (Int.toNat (IntKind.i64.wrap (7 * k_5))) (IntKind.bits .u64)))))) (IntKind.i64.wrap (k_5 + 1)) 0 w3)
  (next1 ((IntKind.u64.wrap (n_4 + (IntKind.u64.wrap ((IntKind.u64.wrap (Int.tmod n21 128)) * 2 ^ (min (Int.toNat (IntKind.i64.wrap (7 * k_5))) (IntKind.bits .u64)))))), (IntKind.i64.wrap (k_5 + 1)), ()) w3)))))
  (idxP b_0.a b_0.l k_5 1 fun a24 => ldI .u8 a24 w3 fun n25 => dzP 128 (shP (IntKind.i64.wrap (7 * k_5)) (idxP b_0.a b_0.l k_5 1 fun a26 => ldI .u8 a26 w3 fun n27 => iteB (decide ((n27 : Int) < 128))
  (K (IntKind.u64.wrap (n_4 + (IntKind.u64.wrap ((IntKind.u64.wrap (Int.tmod n25 128)) * 2 ^ (min (Int.toNat (IntKind.i64.wrap (7 * k_5))) (IntKind.bits .u64)))))) (IntKind.i64.wrap (k_5 + 1)) 0 w3)
  (next1 ((IntKind.u64.wrap (n_4 + (IntKind.u64.wrap ((IntKind.u64.wrap (Int.tmod n25 128)) * 2 ^ (min (Int.toNat (IntKind.i64.wrap (7 * k_5))) (IntKind.bits .u64)))))), (IntKind.i64.wrap (k_5 + 1)), ()) w3)))))))
  (K 0 0 11 w3)) st2.1 st2.2.1) (0, 0, ()) w

def c_preluderef01_number (b_0 : Slc) (w : World) (K : Int → Int → Int → World → Prop) : Prop := Calls Try.prog 91 #[.slice b_0.a b_0.l b_0.c] w (onRet (fun v w' => ∃ (y0 : Int), ∃ (y1 : Int), ∃ (y2 : Int), v = .tuple #[.int .u64 y0, .int .i64 y1, .int .i64 y2] ∧ K y0 y1 y2 w'))

theorem sim_preluderef01_number {b_0 : Slc} {w : World} {K : Int → Int → Int → World → Prop} (h : sh_preluderef01_number b_0 w K) : c_preluderef01_number b_0 w K := by
  have e : sh_preluderef01_number b_0 w K = shF Try.prog 91 ⟨[], [(3, [(5, (.int .u64)), (6, (.int .i64))], [0])], []⟩ [.slice b_0.a b_0.l b_0.c] w (fun v w' => decT [(false, [(.int .u64)]), (false, [(.int .i64)]), (false, [(.int .i64)])] v fun s => (fun (y0 : Int) (y1 : Int) (y2 : Int) => K y0 y1 y2 w') s.1 s.2.1 s.2.2.1) := by kernel_rfl
  exact Calls.mono (calls_of _ e h) (onRet_mono (fun _ _ h => by obtain ⟨s, h1, h2⟩ := decT_spec h; exact ⟨s.1, s.2.1, s.2.2.1, h1, h2⟩))

-- 78 (*prelude/preluderef01.Reader).Uint; callees ['preluderef01_number']
def sh_preluderef01_Reader_Uint (c_preluderef01_number : Slc → World → (Int → Int → Int → World → Prop) → Prop) (r_0 : Option Addr) (w : World) (K : Int → World → Prop) : Prop :=
  nnP r_0 fun a1 => ldI .i64 (a1.add 2) w fun n2 => iteB ((n2 : Int) != 0)
  (K 0 w)
  (nnP r_0 fun a3 => ldS a3 w.drew fun s4 => nnP r_0 fun a5 => ldI .i64 (a5.add 1) w.drew fun n6 => slP s4.a s4.l s4.c (some n6) none 1 fun p7 l8 c9 => c_preluderef01_number ⟨p7, l8, c9⟩ w.drew fun r10 r11 r12 w13 => nnP r_0 fun a14 => stP (a14.add 2) (.int .i64 r12) w13 fun w15 => nnP r_0 fun a16 => ldI .i64 (a16.add 1) w15 fun n17 => nnP r_0 fun a18 => stP (a18.add 1) (.int .i64 (IntKind.i64.wrap (n17 + r11))) w15 fun w19 => K r10 w19)

def c_preluderef01_Reader_Uint (r_0 : Option Addr) (w : World) (K : Int → World → Prop) : Prop := Calls Try.prog 78 #[.pointer r_0] w (onRet (fun v w' => ∃ (y0 : Int), v = .int .u64 y0 ∧ K y0 w'))

theorem sim_preluderef01_Reader_Uint {r_0 : Option Addr} {w : World} {K : Int → World → Prop} (h : sh_preluderef01_Reader_Uint c_preluderef01_number r_0 w K) : c_preluderef01_Reader_Uint r_0 w K := by
  have e : sh_preluderef01_Reader_Uint c_preluderef01_number r_0 w K = shF Try.prog 78 ⟨[(3, [0, 1, 2, 3, 4, 5, 6, 7, 8, 9, 10, 11, 12, 13, 14, 15, 16])], [], []⟩ [.pointer r_0] w (fun v w' => decV (.int .u64) v fun y0 => K y0 w') := by kernel_rfl
  exact Calls.mono (calls_of _ e h) (onRet_mono (fun _ _ h => decV_spec h))

-- 60 (*prelude/preluderef01.Reader).Upto; callees ['preluderef01_Reader_Uint']
def sh_preluderef01_Reader_Upto (c_preluderef01_Reader_Uint : Option Addr → World → (Int → World → Prop) → Prop) (r_0 : Option Addr) (most_1 : Int) (w : World) (K : Int → World → Prop) : Prop :=
  nnP r_0 fun a1 => ldI .i64 (a1.add 1) w fun n2 => c_preluderef01_Reader_Uint r_0 w fun r3 w4 => nnP r_0 fun a5 => ldI .i64 (a5.add 2) w4 fun n6 => iteB ((n6 : Int) == 0)
  (iteB (decide ((r3 : Int) > most_1))
  (nnP r_0 fun a7 => stP (a7.add 2) (.int .i64 12) w4 fun w8 => nnP r_0 fun a9 => stP (a9.add 1) (.int .i64 n2) w8 fun w10 => K 0 w10)
  (K r3 w4))
  (K r3 w4)

def c_preluderef01_Reader_Upto (r_0 : Option Addr) (most_1 : Int) (w : World) (K : Int → World → Prop) : Prop := Calls Try.prog 60 #[.pointer r_0, .int .u64 most_1] w (onRet (fun v w' => ∃ (y0 : Int), v = .int .u64 y0 ∧ K y0 w'))

theorem sim_preluderef01_Reader_Upto {r_0 : Option Addr} {most_1 : Int} {w : World} {K : Int → World → Prop} (h : sh_preluderef01_Reader_Upto c_preluderef01_Reader_Uint r_0 most_1 w K) : c_preluderef01_Reader_Upto r_0 most_1 w K := by
  have e : sh_preluderef01_Reader_Upto c_preluderef01_Reader_Uint r_0 most_1 w K = shF Try.prog 60 ⟨[], [], []⟩ [.pointer r_0, .int .u64 most_1] w (fun v w' => decV (.int .u64) v fun y0 => K y0 w') := by kernel_rfl
  exact Calls.mono (calls_of _ e h) (onRet_mono (fun _ _ h => decV_spec h))

-- 92 prelude/preluderef01.Unfold; callees []
def sh_preluderef01_Unfold (n_0 : Int) (w : World) (K : Int → World → Prop) : Prop :=
  dzP 2 (iteB (((Int.tmod n_0 2) : Int) == 0)
  (dzP 2 (K (IntKind.i64.wrap (IntKind.u64.wrap (Int.tdiv n_0 2))) w))
  (dzP 2 (K (IntKind.i64.wrap ((-1) - (IntKind.i64.wrap (IntKind.u64.wrap (Int.tdiv n_0 2))))) w)))

def c_preluderef01_Unfold (n_0 : Int) (w : World) (K : Int → World → Prop) : Prop := Calls Try.prog 92 #[.int .u64 n_0] w (onRet (fun v w' => ∃ (y0 : Int), v = .int .i64 y0 ∧ K y0 w'))

theorem sim_preluderef01_Unfold {n_0 : Int} {w : World} {K : Int → World → Prop} (h : sh_preluderef01_Unfold n_0 w K) : c_preluderef01_Unfold n_0 w K := by
  have e : sh_preluderef01_Unfold n_0 w K = shF Try.prog 92 ⟨[], [], []⟩ [.int .u64 n_0] w (fun v w' => decV (.int .i64) v fun y0 => K y0 w') := by kernel_rfl
  exact Calls.mono (calls_of _ e h) (onRet_mono (fun _ _ h => decV_spec h))

-- 79 (*prelude/preluderef01.Reader).Int; callees ['preluderef01_Reader_Uint', 'preluderef01_Unfold']
def sh_preluderef01_Reader_Int (c_preluderef01_Reader_Uint : Option Addr → World → (Int → World → Prop) → Prop) (c_preluderef01_Unfold : Int → World → (Int → World → Prop) → Prop) (r_0 : Option Addr) (w : World) (K : Int → World → Prop) : Prop :=
  c_preluderef01_Reader_Uint r_0 w fun r1 w2 => c_preluderef01_Unfold r1 w2 fun r3 w4 => K r3 w4

def c_preluderef01_Reader_Int (r_0 : Option Addr) (w : World) (K : Int → World → Prop) : Prop := Calls Try.prog 79 #[.pointer r_0] w (onRet (fun v w' => ∃ (y0 : Int), v = .int .i64 y0 ∧ K y0 w'))

theorem sim_preluderef01_Reader_Int {r_0 : Option Addr} {w : World} {K : Int → World → Prop} (h : sh_preluderef01_Reader_Int c_preluderef01_Reader_Uint c_preluderef01_Unfold r_0 w K) : c_preluderef01_Reader_Int r_0 w K := by
  have e : sh_preluderef01_Reader_Int c_preluderef01_Reader_Uint c_preluderef01_Unfold r_0 w K = shF Try.prog 79 ⟨[], [], []⟩ [.pointer r_0] w (fun v w' => decV (.int .i64) v fun y0 => K y0 w') := by kernel_rfl
  exact Calls.mono (calls_of _ e h) (onRet_mono (fun _ _ h => decV_spec h))

-- 93 (*prelude/preluderef01.Reader).Raw; callees []
def sh_preluderef01_Reader_Raw (r_0 : Option Addr) (n_1 : Int) (w : World) (K : Slc → World → Prop) : Prop :=
  nnP r_0 fun a1 => ldI .i64 (a1.add 2) w fun n2 => iteB ((n2 : Int) != 0)
  (K ⟨none, 0, 0⟩ w)
  (iteB (decide ((n_1 : Int) < 0))
  (nnP r_0 fun a3 => stP (a3.add 2) (.int .i64 11) w fun w4 => K ⟨none, 0, 0⟩ w4)
  (nnP r_0 fun a5 => ldS a5 w.drew fun s6 => nnP r_0 fun a7 => ldI .i64 (a7.add 1) w.drew fun n8 => iteB (decide ((n_1 : Int) > (IntKind.i64.wrap ((s6.l : Int) - n8))))
  (nnP r_0 fun a9 => stP (a9.add 2) (.int .i64 10) w.drew fun w10 => K ⟨none, 0, 0⟩ w10)
  (loopP (σ := Slc × Int × Unit) (fun st12 next11 w13 => (fun (l_14 : Slc) (i_15 : Int) => iteB (decide ((i_15 : Int) < n_1))
  (nnP r_0 fun a16 => ldS a16 w13.drew fun s17 => nnP r_0 fun a18 => ldI .i64 (a18.add 1) w13.drew fun n19 => idxP s17.a s17.l (IntKind.i64.wrap (n19 + i_15)) 1 fun a20 => ldI .u8 a20 w13.drew fun n21 => newP #[.int .u8 n21] 5 w13.drew fun a22 w23 => apP Try.prog #[50, 50] 50 [.slice l_14.a l_14.l l_14.c, .slice (some a22) 1 1] w23 fun s25 w24 => next11 (s25, (IntKind.i64.wrap (i_15 + 1)), ()) w24)
  (nnP r_0 fun a26 => ldI .i64 (a26.add 1) w13 fun n27 => nnP r_0 fun a28 => stP (a28.add 1) (.int .i64 (IntKind.i64.wrap (n27 + n_1))) w13 fun w29 => K l_14 w29)) st12.1 st12.2.1) (⟨none, 0, 0⟩, 0, ()) w.drew)))

def c_preluderef01_Reader_Raw (r_0 : Option Addr) (n_1 : Int) (w : World) (K : Slc → World → Prop) : Prop := Calls Try.prog 93 #[.pointer r_0, .int .i64 n_1] w (onRet (fun v w' => ∃ (y0 : Slc), v = .slice y0.a y0.l y0.c ∧ K y0 w'))

theorem sim_preluderef01_Reader_Raw {r_0 : Option Addr} {n_1 : Int} {w : World} {K : Slc → World → Prop} (h : sh_preluderef01_Reader_Raw r_0 n_1 w K) : c_preluderef01_Reader_Raw r_0 n_1 w K := by
  have e : sh_preluderef01_Reader_Raw r_0 n_1 w K = shF Try.prog 93 ⟨[(6, [0, 1, 2, 3, 4, 5, 6, 7, 8, 9, 10, 11]), (13, [0, 1, 2, 3, 4, 5, 6, 7, 8, 9, 10, 11, 12, 13, 14, 15])], [(11, [(5, .sl), (6, (.int .i64))], [0, 1])], []⟩ [.pointer r_0, .int .i64 n_1] w (fun v w' => decV .sl v fun y0 => K y0 w') := by kernel_rfl
  exact Calls.mono (calls_of _ e h) (onRet_mono (fun _ _ h => decV_spec h))

-- 94 prelude/preluderef02.FromBytes; callees []
def sh_preluderef02_FromBytes (b_0 : Slc) (w : World) (K : Int → Int → Int → World → Prop) : Prop :=
  newP #[.int .i64 0, .int .i64 0] 70 w fun a1 w2 => iteB (decide (((b_0.l : Int) : Int) < 10))
  (stP a1 (.int .i64 0) w2 fun w3 => stP (a1.add 1) (.int .i64 0) w3 fun w4 => ldI .i64 a1 w4 fun n5 => ldI .i64 (a1.add 1) w4 fun n6 => K n5 n6 10 w4)
  (iteB (decide (((b_0.l : Int) : Int) > 10))
  (stP a1 (.int .i64 0) w2 fun w7 => stP (a1.add 1) (.int .i64 0) w7 fun w8 => ldI .i64 a1 w8 fun n9 => ldI .i64 (a1.add 1) w8 fun n10 => K n9 n10 11 w8)
  (loopP (σ := Int × Int × Unit) (fun st12 next11 w13 => (fun (u_14 : Int) (i_15 : Int) => iteB (decide ((i_15 : Int) < 10))
  (idxP b_0.a b_0.l i_15 1 fun a16 => ldI .u8 a16 w13 fun n17 => next11 ((IntKind.u64.wrap ((IntKind.u64.wrap (u_14 * 256)) + (IntKind.u64.wrap n17))), (IntKind.i64.wrap (i_15 + 1)), ()) w13)
  (idxP b_0.a b_0.l 0 1 fun a18 => ldI .u8 a18 w13.drew fun n19 => idxP b_0.a b_0.l 1 1 fun a20 => ldI .u8 a20 w13.drew fun n21 => stP a1 (.int .i64 (IntKind.i64.wrap ((IntKind.i64.wrap ((IntKind.i64.wrap n19) * 256)) + (IntKind.i64.wrap n21)))) w13.drew fun w22 => stP (a1.add 1) (.int .i64 (IntKind.i64.wrap (bXor .u64 u_14 9223372036854775808))) w22 fun w23 => ldI .i64 a1 w23 fun n24 => ldI .i64 (a1.add 1) w23 fun n25 => K n24 n25 0 w23)) st12.1 st12.2.1) (0, 2, ()) w2))

def c_preluderef02_FromBytes (b_0 : Slc) (w : World) (K : Int → Int → Int → World → Prop) : Prop := Calls Try.prog 94 #[.slice b_0.a b_0.l b_0.c] w (onRet (fun v w' => ∃ (y0 : Int), ∃ (y1 : Int), ∃ (y2 : Int), v = .tuple #[.agg #[.int .i64 y0, .int .i64 y1], .int .i64 y2] ∧ K y0 y1 y2 w'))

theorem sim_preluderef02_FromBytes {b_0 : Slc} {w : World} {K : Int → Int → Int → World → Prop} (h : sh_preluderef02_FromBytes b_0 w K) : c_preluderef02_FromBytes b_0 w K := by
  have e : sh_preluderef02_FromBytes b_0 w K = shF Try.prog 94 ⟨[(10, [0, 1, 2, 3, 4, 5, 6, 7, 8, 9, 10, 11, 12, 13, 14, 15])], [(7, [(4, (.int .u64)), (5, (.int .i64))], [0, 2])], []⟩ [.slice b_0.a b_0.l b_0.c] w (fun v w' => decT [(true, [(.int .i64), (.int .i64)]), (false, [(.int .i64)])] v fun s => (fun (y0 : Int) (y1 : Int) (y2 : Int) => K y0 y1 y2 w') s.1 s.2.1 s.2.2.1) := by kernel_rfl
  exact Calls.mono (calls_of _ e h) (onRet_mono (fun _ _ h => by obtain ⟨s, h1, h2⟩ := decT_spec h; exact ⟨s.1, s.2.1, s.2.2.1, h1, h2⟩))

-- 80 prelude/preluderef06.keys; callees ['preluderef01_Reader_Upto', 'preluderef01_Reader_Raw', 'preluderef02_FromBytes', 'preluderef02_Compare']
def sh_preluderef06_keys (c_preluderef01_Reader_Upto : Option Addr → Int → World → (Int → World → Prop) → Prop) (c_preluderef01_Reader_Raw : Option Addr → Int → World → (Slc → World → Prop) → Prop) (c_preluderef02_FromBytes : Slc → World → (Int → Int → Int → World → Prop) → Prop) (c_preluderef02_Compare : Int → Int → Int → Int → World → (Int → World → Prop) → Prop) (x_0 : Option Addr) (x_1 : Int) (w : World) (K : Slc → World → Prop) : Prop :=
  c_preluderef01_Reader_Upto x_0 x_1 w fun r1 w2 => loopP (σ := Slc × Int × Unit) (fun st4 next3 w5 => (fun (x6 : Slc) (x7 : Int) => iteB (decide ((x7 : Int) < r1))
  (nnP x_0 fun a8 => ldI .i64 (a8.add 2) w5 fun n9 => iteB ((n9 : Int) == 0)
  (nnP x_0 fun a10 => ldI .i64 (a10.add 1) w5 fun n11 => c_preluderef01_Reader_Raw x_0 10 w5 fun r12 w13 => nnP x_0 fun a14 => ldI .i64 (a14.add 2) w13 fun n15 => iteB ((n15 : Int) != 0)
  (K ⟨none, 0, 0⟩ w13)
  (c_preluderef02_FromBytes r12 w13 fun r16 r17 r18 w19 => newP #[.int .i64 0, .int .i64 0] 70 w19 fun a20 w21 => stP a20 (.int .i64 r16) w21 fun w22 => stP (a20.add 1) (.int .i64 r17) w22 fun w23 => iteB (decide (((x6.l : Int) : Int) > 0))
  (idxP x6.a x6.l (IntKind.i64.wrap ((x6.l : Int) - 1)) 2 fun a24 => ldI .i64 a24 w23.drew fun n25 => ldI .i64 (a24.add 1) w23.drew fun n26 => ldI .i64 a20 w23.drew fun n27 => ldI .i64 (a20.add 1) w23.drew fun n28 => c_preluderef02_Compare n25 n26 n27 n28 w23.drew fun r29 w30 => iteB (decide ((r29 : Int) ≥ 0))
  (nnP x_0 fun a31 => stP (a31.add 1) (.int .i64 n11) w30 fun w32 => nnP x_0 fun a33 => stP (a33.add 2) (.int .i64 65) w32 fun w34 => K ⟨none, 0, 0⟩ w34)
  (ldI .i64 a20 w30 fun n35 => ldI .i64 (a20.add 1) w30 fun n36 => newP #[.int .i64 n35, .int .i64 n36] 70 w30 fun a37 w38 => apP Try.prog #[30, 30] 30 [.slice x6.a x6.l x6.c, .slice (some a37) 1 1] w38 fun s40 w39 => next3 (s40, (IntKind.u64.wrap (x7 + 1)), ()) w39))
  (ldI .i64 a20 w23.drew fun n41 => ldI .i64 (a20.add 1) w23.drew fun n42 => newP #[.int .i64 n41, .int .i64 n42] 70 w23.drew fun a43 w44 => apP Try.prog #[30, 30] 30 [.slice x6.a x6.l x6.c, .slice (some a43) 1 1] w44 fun s46 w45 => next3 (s46, (IntKind.u64.wrap (x7 + 1)), ()) w45)))
  (K x6 w5))
  (K x6 w5)) st4.1 st4.2.1) (⟨none, 0, 0⟩, 0, ()) w2

def c_preluderef06_keys (x_0 : Option Addr) (x_1 : Int) (w : World) (K : Slc → World → Prop) : Prop := Calls Try.prog 80 #[.pointer x_0, .int .u64 x_1] w (onRet (fun v w' => ∃ (y0 : Slc), v = .slice y0.a y0.l y0.c ∧ K y0 w'))

theorem sim_preluderef06_keys {x_0 : Option Addr} {x_1 : Int} {w : World} {K : Slc → World → Prop} (h : sh_preluderef06_keys c_preluderef01_Reader_Upto c_preluderef01_Reader_Raw c_preluderef02_FromBytes c_preluderef02_Compare x_0 x_1 w K) : c_preluderef06_keys x_0 x_1 w K := by
  have e : sh_preluderef06_keys c_preluderef01_Reader_Upto c_preluderef01_Reader_Raw c_preluderef02_FromBytes c_preluderef02_Compare x_0 x_1 w K = shF Try.prog 80 ⟨[(11, [0, 1, 2, 3, 4, 5, 6, 7, 8, 9, 10, 11, 12, 13])], [(4, [(6, .sl), (7, (.int .u64))], [0, 5])], []⟩ [.pointer x_0, .int .u64 x_1] w (fun v w' => decV .sl v fun y0 => K y0 w') := by kernel_rfl
  exact Calls.mono (calls_of _ e h) (onRet_mono (fun _ _ h => decV_spec h))

-- 61 prelude/preluderef06.one; callees ['preluderef01_Reader_Upto', 'preluderef01_Reader_Int', 'preluderef06_keys']
def sh_preluderef06_one (c_preluderef01_Reader_Upto : Option Addr → Int → World → (Int → World → Prop) → Prop) (c_preluderef01_Reader_Int : Option Addr → World → (Int → World → Prop) → Prop) (c_preluderef06_keys : Option Addr → Int → World → (Slc → World → Prop) → Prop) (r_0 : Option Addr) (w : World) (K : Int → Slc → Slc → Slc → World → Prop) : Prop :=
  newP #[.int .i64 0, .slice none 0 0, .slice none 0 0, .slice none 0 0] 66 w fun a1 w2 => newP #[.int .i64 0, .slice none 0 0, .slice none 0 0, .slice none 0 0] 66 w2 fun a3 w4 => c_preluderef01_Reader_Upto r_0 63 w4 fun r5 w6 => stP a3 (.int .i64 (IntKind.i64.wrap r5)) w6 fun w7 => c_preluderef01_Reader_Upto r_0 16 w7 fun r8 w9 => loopP (σ := Int × Unit) (fun st11 next10 w12 => (fun (i_13 : Int) => iteB (decide ((i_13 : Int) < r8))
  (nnP r_0 fun a14 => ldI .i64 (a14.add 2) w12 fun n15 => iteB ((n15 : Int) == 0)
  (c_preluderef01_Reader_Int r_0 w12 fun r16 w17 => ldS (a3.add 1) w17 fun s18 => newP #[.int .i64 r16] 2 w17 fun a19 w20 => apP Try.prog #[64, 64] 64 [.slice s18.a s18.l s18.c, .slice (some a19) 1 1] w20 fun s22 w21 => stP (a3.add 1) (.slice s22.a s22.l s22.c) w21 fun w23 => next10 ((IntKind.u64.wrap (i_13 + 1)), ()) w23)
  (c_preluderef06_keys r_0 16 w12 fun r24 w25 => stP (a3.add 2) (.slice r24.a r24.l r24.c) w25 fun w26 => c_preluderef06_keys r_0 16 w26 fun r27 w28 => stP (a3.add 3) (.slice r27.a r27.l r27.c) w28 fun w29 => ldI .i64 a3 w29 fun n30 => ldS (a3.add 1) w29 fun s31 => ldS (a3.add 2) w29 fun s32 => ldS (a3.add 3) w29 fun s33 => stP a1 (.int .i64 n30) w29 fun w34 => stP (a1.add 1) (.slice s31.a s31.l s31.c) w34 fun w35 => stP (a1.add 2) (.slice s32.a s32.l s32.c) w35 fun w36 => stP (a1.add 3) (.slice s33.a s33.l s33.c) w36 fun w37 => ldI .i64 a1 w37 fun n38 => ldS (a1.add 1) w37 fun s39 => ldS (a1.add 2) w37 fun s40 => ldS (a1.add 3) w37 fun s41 => K n38 s39 s40 s41 w37))
  (c_preluderef06_keys r_0 16 w12 fun r42 w43 => stP (a3.add 2) (.slice r42.a r42.l r42.c) w43 fun w44 => c_preluderef06_keys r_0 16 w44 fun r45 w46 => stP (a3.add 3) (.slice r45.a r45.l r45.c) w46 fun w47 => ldI .i64 a3 w47 fun n48 => ldS (a3.add 1) w47 fun s49 => ldS (a3.add 2) w47 fun s50 => ldS (a3.add 3) w47 fun s51 => stP a1 (.int .i64 n48) w47 fun w52 => stP (a1.add 1) (.slice s49.a s49.l s49.c) w52 fun w53 => stP (a1.add 2) (.slice s50.a s50.l s50.c) w53 fun w54 => stP (a1.add 3) (.slice s51.a s51.l s51.c) w54 fun w55 => ldI .i64 a1 w55 fun n56 => ldS (a1.add 1) w55 fun s57 => ldS (a1.add 2) w55 fun s58 => ldS (a1.add 3) w55 fun s59 => K n56 s57 s58 s59 w55)) st11.1) (0, ()) w9

def c_preluderef06_one (r_0 : Option Addr) (w : World) (K : Int → Slc → Slc → Slc → World → Prop) : Prop := Calls Try.prog 61 #[.pointer r_0] w (onRet (fun v w' => ∃ (y0 : Int), ∃ (y1 : Slc), ∃ (y2 : Slc), ∃ (y3 : Slc), v = .agg #[.int .i64 y0, .slice y1.a y1.l y1.c, .slice y2.a y2.l y2.c, .slice y3.a y3.l y3.c] ∧ K y0 y1 y2 y3 w'))

theorem sim_preluderef06_one {r_0 : Option Addr} {w : World} {K : Int → Slc → Slc → Slc → World → Prop} (h : sh_preluderef06_one c_preluderef01_Reader_Upto c_preluderef01_Reader_Int c_preluderef06_keys r_0 w K) : c_preluderef06_one r_0 w K := by
  have e : sh_preluderef06_one c_preluderef01_Reader_Upto c_preluderef01_Reader_Int c_preluderef06_keys r_0 w K = shF Try.prog 61 ⟨[], [(5, [(5, (.int .u64))], [0, 2, 3, 4])], []⟩ [.pointer r_0] w (fun v w' => decA [(.int .i64), .sl, .sl, .sl] v fun s => (fun (y0 : Int) (y1 : Slc) (y2 : Slc) (y3 : Slc) => K y0 y1 y2 y3 w') s.1 s.2.1 s.2.2.1 s.2.2.2.1) := by kernel_rfl
  exact Calls.mono (calls_of _ e h) (onRet_mono (fun _ _ h => by obtain ⟨s, h1, h2⟩ := decA_spec h; exact ⟨s.1, s.2.1, s.2.2.1, s.2.2.2.1, h1, h2⟩))

-- 62 (*prelude/preluderef01.Reader).End; callees []
def sh_preluderef01_Reader_End (r_0 : Option Addr) (w : World) (K : Int → World → Prop) : Prop :=
  nnP r_0 fun a1 => ldI .i64 (a1.add 2) w.drew fun n2 => iteB ((n2 : Int) == 0)
  (nnP r_0 fun a3 => ldI .i64 (a3.add 1) w.drew fun n4 => nnP r_0 fun a5 => ldS a5 w.drew fun s6 => iteB (decide ((n4 : Int) < (s6.l : Int)))
  (K 11 w.drew)
  (nnP r_0 fun a7 => ldI .i64 (a7.add 2) w.drew fun n8 => K n8 w.drew))
  (nnP r_0 fun a9 => ldI .i64 (a9.add 2) w.drew fun n10 => K n10 w.drew)

def c_preluderef01_Reader_End (r_0 : Option Addr) (w : World) (K : Int → World → Prop) : Prop := Calls Try.prog 62 #[.pointer r_0] w (onRet (fun v w' => ∃ (y0 : Int), v = .int .i64 y0 ∧ K y0 w'))

theorem sim_preluderef01_Reader_End {r_0 : Option Addr} {w : World} {K : Int → World → Prop} (h : sh_preluderef01_Reader_End r_0 w K) : c_preluderef01_Reader_End r_0 w K := by
  have e : sh_preluderef01_Reader_End r_0 w K = shF Try.prog 62 ⟨[(1, [0, 1, 2, 3, 4, 5, 6, 7, 8, 9, 10, 11, 12, 13, 14, 15, 16])], [], []⟩ [.pointer r_0] w (fun v w' => decV (.int .i64) v fun y0 => K y0 w') := by kernel_rfl
  exact Calls.mono (calls_of _ e h) (onRet_mono (fun _ _ h => decV_spec h))

-- 28 prelude/preluderef06.Decode; callees ['preluderef01_Reader_Upto', 'preluderef06_one', 'preluderef01_Reader_End']
def sh_preluderef06_Decode (c_preluderef01_Reader_Upto : Option Addr → Int → World → (Int → World → Prop) → Prop) (c_preluderef06_one : Option Addr → World → (Int → Slc → Slc → Slc → World → Prop) → Prop) (c_preluderef01_Reader_End : Option Addr → World → (Int → World → Prop) → Prop) (data_0 : Slc) (w : World) (K : Slc → Int → Int → World → Prop) : Prop :=
  newP #[.slice data_0.a data_0.l data_0.c, .int .i64 0, .int .i64 0] 107 w fun a1 w2 => c_preluderef01_Reader_Upto (some a1) 64 w2 fun r3 w4 => loopP (σ := Slc × Int × Unit) (fun st6 next5 w7 => (fun (b_8 : Slc) (i_9 : Int) => iteB (decide ((i_9 : Int) < r3))
  (nnP (some a1) fun a10 => ldI .i64 (a10.add 2) w7 fun n11 => iteB ((n11 : Int) == 0)
  (c_preluderef06_one (some a1) w7 fun r12 r13 r14 r15 w16 => newP #[.int .i64 0, .slice none 0 0, .slice none 0 0, .slice none 0 0] 66 w16 fun a17 w18 => stP a17 (.int .i64 r12) w18 fun w19 => stP (a17.add 1) (.slice r13.a r13.l r13.c) w19 fun w20 => stP (a17.add 2) (.slice r14.a r14.l r14.c) w20 fun w21 => stP (a17.add 3) (.slice r15.a r15.l r15.c) w21 fun w22 => ldI .i64 a17 w22 fun n23 => ldS (a17.add 1) w22 fun s24 => ldS (a17.add 2) w22 fun s25 => ldS (a17.add 3) w22 fun s26 => newP #[.int .i64 n23, .slice s24.a s24.l s24.c, .slice s25.a s25.l s25.c, .slice s26.a s26.l s26.c] 66 w22 fun a27 w28 => apP Try.prog #[22, 22] 22 [.slice b_8.a b_8.l b_8.c, .slice (some a27) 1 1] w28 fun s30 w29 => next5 (s30, (IntKind.u64.wrap (i_9 + 1)), ()) w29)
  (c_preluderef01_Reader_End (some a1) w7 fun r31 w32 => iteB ((r31 : Int) != 0)
  (nnP (some a1) fun a33 => ldI .i64 (a33.add 1) w32.drew fun n34 => K ⟨none, 0, 0⟩ n34 r31 w32.drew)
  (K b_8 0 0 w32)))
  (c_preluderef01_Reader_End (some a1) w7 fun r35 w36 => iteB ((r35 : Int) != 0)
  (nnP (some a1) fun a37 => ldI .i64 (a37.add 1) w36.drew fun n38 => K ⟨none, 0, 0⟩ n38 r35 w36.drew)
  (K b_8 0 0 w36))) st6.1 st6.2.1) (⟨none, 0, 0⟩, 0, ()) w4

def c_preluderef06_Decode (data_0 : Slc) (w : World) (K : Slc → Int → Int → World → Prop) : Prop := Calls Try.prog 28 #[.slice data_0.a data_0.l data_0.c] w (onRet (fun v w' => ∃ (y0 : Slc), ∃ (y1 : Int), ∃ (y2 : Int), v = .tuple #[.slice y0.a y0.l y0.c, .int .i64 y1, .int .i64 y2] ∧ K y0 y1 y2 w'))

theorem sim_preluderef06_Decode {data_0 : Slc} {w : World} {K : Slc → Int → Int → World → Prop} (h : sh_preluderef06_Decode c_preluderef01_Reader_Upto c_preluderef06_one c_preluderef01_Reader_End data_0 w K) : c_preluderef06_Decode data_0 w K := by
  have e : sh_preluderef06_Decode c_preluderef01_Reader_Upto c_preluderef06_one c_preluderef01_Reader_End data_0 w K = shF Try.prog 28 ⟨[(11, [0, 1, 2, 3, 4, 5, 6, 7])], [(5, [(7, .sl), (8, (.int .u64))], [5, 6])], []⟩ [.slice data_0.a data_0.l data_0.c] w (fun v w' => decT [(false, [.sl]), (false, [(.int .i64)]), (false, [(.int .i64)])] v fun s => (fun (y0 : Slc) (y1 : Int) (y2 : Int) => K y0 y1 y2 w') s.1 s.2.1 s.2.2.1) := by kernel_rfl
  exact Calls.mono (calls_of _ e h) (onRet_mono (fun _ _ h => by obtain ⟨s, h1, h2⟩ := decT_spec h; exact ⟨s.1, s.2.1, s.2.2.1, h1, h2⟩))

-- 30 (*prelude/preludelaw06.shelf).batch; callees []
def sh_preludelaw06_shelf_batch (s_0 : Option Addr) (b_1 : Slc) (w : World) (K : World → Prop) : Prop :=
  nnP s_0 fun a1 => ldS a1 w fun s2 => newP #[.slice b_1.a b_1.l b_1.c] 22 w fun a3 w4 => apP Try.prog #[32, 32] 32 [.slice s2.a s2.l s2.c, .slice (some a3) 1 1] w4 fun s6 w5 => nnP s_0 fun a7 => stP a7 (.slice s6.a s6.l s6.c) w5 fun w8 => loopP (σ := Int × Unit) (fun st10 next9 w11 => (fun (i_12 : Int) => iteB (decide ((i_12 : Int) < (b_1.l : Int)))
  (nnP s_0 fun a13 => ldS (a13.add 2) w11.drew fun s14 => idxP b_1.a b_1.l i_12 4 fun a15 => ldS (a15.add 1) w11.drew fun s16 => newP #[.slice s16.a s16.l s16.c] 64 w11.drew fun a17 w18 => w18.cell? (a13.add 2) = some (.slice s14.a s14.l s14.c) ∧ (apP Try.prog #[33, 33] 33 [.slice s14.a s14.l s14.c, .slice (some a17) 1 1] w18 fun s20 w19 => nnP s_0 fun a21 => stP (a21.add 2) (.slice s20.a s20.l s20.c) w19 fun w22 => nnP s_0 fun a23 => ldS (a23.add 1) w22.drew fun s24 => idxP b_1.a b_1.l i_12 4 fun a25 => ldS (a25.add 2) w22.drew fun s26 => newP #[.slice s26.a s26.l s26.c] 30 w22.drew fun a27 w28 => w28.cell? (a23.add 1) = some (.slice s24.a s24.l s24.c) ∧ (apP Try.prog #[26, 26] 26 [.slice s24.a s24.l s24.c, .slice (some a27) 1 1] w28 fun s30 w29 => nnP s_0 fun a31 => stP (a31.add 1) (.slice s30.a s30.l s30.c) w29 fun w32 => nnP s_0 fun a33 => ldS (a33.add 1) w32.drew fun s34 => idxP b_1.a b_1.l i_12 4 fun a35 => ldS (a35.add 3) w32.drew fun s36 => newP #[.slice s36.a s36.l s36.c] 30 w32.drew fun a37 w38 => w38.cell? (a33.add 1) = some (.slice s34.a s34.l s34.c) ∧ (apP Try.prog #[26, 26] 26 [.slice s34.a s34.l s34.c, .slice (some a37) 1 1] w38 fun s40 w39 => nnP s_0 fun a41 => stP (a41.add 1) (.slice s40.a s40.l s40.c) w39 fun w42 => next9 ((IntKind.i64.wrap (i_12 + 1)), ()) w42))))
  (K w11)) st10.1) (0, ()) w8

def c_preludelaw06_shelf_batch (s_0 : Option Addr) (b_1 : Slc) (w : World) (K : World → Prop) : Prop := Calls Try.prog 30 #[.pointer s_0, .slice b_1.a b_1.l b_1.c] w (onRet (fun v w' => v = .tuple #[] ∧ K w'))

theorem sim_preludelaw06_shelf_batch {s_0 : Option Addr} {b_1 : Slc} {w : World} {K : World → Prop} (h : sh_preludelaw06_shelf_batch s_0 b_1 w K) : c_preludelaw06_shelf_batch s_0 b_1 w K := by
  have e : sh_preludelaw06_shelf_batch s_0 b_1 w K = shF Try.prog 30 ⟨[(4, [0, 1, 2, 3, 4, 5, 6, 7, 8, 9, 10, 11, 12, 13, 14]), (5, [0, 1, 2, 3, 4, 5, 6, 7, 8, 9, 10, 11, 12, 13, 14]), (6, [0, 1, 2, 3, 4, 5, 6, 7, 8, 9, 10, 11, 12, 13, 14])], [(2, [(4, (.int .i64))], [0, 1])], []⟩ [.pointer s_0, .slice b_1.a b_1.l b_1.c] w (fun v w' => decU v (K w')) := by kernel_rfl
  exact Calls.mono (calls_of _ e h) (onRet_mono (fun _ _ h => decU_spec h))

-- 6 prelude/preludelaw06.BatchDecodes; callees ['batch_Decode', 'preluderef06_Decode', 'preludelaw06_sameBatch', 'preludelaw06_num', 'preludelaw06_sameBytes', 'preludelaw06_shelf_batch', 'preludelaw06_shelf_apart']
def sh_preludelaw06_BatchDecodes (c_batch_Decode : Slc → World → (Slc → Int → Int → World → Prop) → Prop) (c_preluderef06_Decode : Slc → World → (Slc → Int → Int → World → Prop) → Prop) (c_preludelaw06_sameBatch : Slc → Slc → World → (Bool → World → Prop) → Prop) (c_preludelaw06_num : Int → World → (Int → World → Prop) → Prop) (c_preludelaw06_sameBytes : Slc → Slc → World → (Bool → World → Prop) → Prop) (c_preludelaw06_shelf_batch : Option Addr → Slc → World → (World → Prop) → Prop) (c_preludelaw06_shelf_apart : Option Addr → World → (Bool → World → Prop) → Prop) (x_0 : Slc) (w : World) (K : Bool → World → Prop) : Prop :=
  newP #[] 5 w fun a1 w2 => apP Try.prog #[50, 50] 50 [.slice (some a1) 0 0, .slice x_0.a x_0.l x_0.c] w2 fun s4 w3 => newP #[.int .u8 165] 5 w3 fun a5 w6 => apP Try.prog #[50, 50] 50 [.slice s4.a s4.l s4.c, .slice (some a5) 1 1] w6 fun s8 w7 => slP s8.a s8.l s8.c none (some (x_0.l : Int)) 1 fun p9 l10 c11 => c_batch_Decode ⟨p9, l10, c11⟩ w7 fun r12 r13 r14 w15 => c_preluderef06_Decode x_0 w15 fun r16 r17 r18 w19 => c_preludelaw06_sameBatch r12 r16 w19 fun r20 w21 => iteB (!r20)
  (K false w21)
  (iteB ((r13 : Int) != r17)
  (K false w21)
  (c_preludelaw06_num r14 w21 fun r22 w23 => iteB ((r22 : Int) != r18)
  (K false w23)
  (slP s8.a s8.l s8.c none (some (x_0.l : Int)) 1 fun p24 l25 c26 => c_preludelaw06_sameBytes ⟨p24, l25, c26⟩ x_0 w23 fun r27 w28 => iteB (!r27)
  (K false w28)
  (idxP s8.a s8.l (x_0.l : Int) 1 fun a29 => ldI .u8 a29 w28 fun n30 => iteB ((n30 : Int) != 165)
  (K false w28)
  (loopP (σ := Int × Unit) (fun st32 next31 w33 => (fun (x34 : Int) => iteB (decide ((x34 : Int) < (s8.l : Int)))
  (idxP s8.a s8.l x34 1 fun a35 => ldI .u8 a35 w33 fun n36 => idxP s8.a s8.l x34 1 fun a37 => stP a37 (.int .u8 (bXor .u8 (IntKind.max .u8) n36)) w33 fun w38 => next31 ((IntKind.i64.wrap (x34 + 1)), ()) w38)
  (newP #[] 5 w33 fun a39 w40 => apP Try.prog #[50, 50] 50 [.slice (some a39) 0 0, .slice x_0.a x_0.l x_0.c] w40 fun s42 w41 => c_batch_Decode s42 w41 fun r43 r44 r45 w46 => c_preludelaw06_sameBatch r12 r16 w46 fun r47 w48 => iteB (!r47)
  (K false w48)
  (c_preludelaw06_sameBatch r43 r16 w48 fun r49 w50 => iteB (!r49)
  (K false w50)
  (newP #[.slice none 0 0, .slice none 0 0, .slice none 0 0, .slice none 0 0, .slice none 0 0] 37 w50 fun a51 w52 => c_preludelaw06_shelf_batch (some a51) r12 w52 fun w53 => c_preludelaw06_shelf_batch (some a51) r43 w53 fun w54 => c_preludelaw06_shelf_apart (some a51) w54 fun r55 w56 => K r55 w56)))) st32.1) (0, ()) w28)))))

def c_preludelaw06_BatchDecodes (x_0 : Slc) (w : World) (K : Bool → World → Prop) : Prop := Calls Try.prog 6 #[.slice x_0.a x_0.l x_0.c] w (onRet (fun v w' => ∃ (y0 : Bool), v = .bool y0 ∧ K y0 w'))

theorem sim_preludelaw06_BatchDecodes {x_0 : Slc} {w : World} {K : Bool → World → Prop} (h : sh_preludelaw06_BatchDecodes c_batch_Decode c_preluderef06_Decode c_preludelaw06_sameBatch c_preludelaw06_num c_preludelaw06_sameBytes c_preludelaw06_shelf_batch c_preludelaw06_shelf_apart x_0 w K) : c_preludelaw06_BatchDecodes x_0 w K := by
  have e : sh_preludelaw06_BatchDecodes c_batch_Decode c_preluderef06_Decode c_preludelaw06_sameBatch c_preludelaw06_num c_preludelaw06_sameBytes c_preludelaw06_shelf_batch c_preludelaw06_shelf_apart x_0 w K = shF Try.prog 6 ⟨[], [(7, [(10, (.int .i64))], [0, 3, 4, 7])], []⟩ [.slice x_0.a x_0.l x_0.c] w (fun v w' => decV .b v fun y0 => K y0 w') := by kernel_rfl
  exact Calls.mono (calls_of _ e h) (onRet_mono (fun _ _ h => decV_spec h))

-- 64 prelude/preludelaw06.plain; callees []
def sh_preludelaw06_plain (w : World) (K : Slc → Slc → Slc → World → Prop) : Prop :=
  newP #[.int .i64 6, .int .i64 0, .int .i64 32, .int .i64 0] 134 w fun a1 w2 => newP #[.string (ByteArray.mk #[112, 117, 116]), .int .i64 1, .int .i64 0, .int .i64 1, .int .i64 0, .slice (some a1) 2 2] 77 w2 fun a3 w4 => newP #[.int .i64 10] 2 w4 fun a5 w6 => newP #[.int .i64 0, .int .i64 1] 70 w6 fun a7 w8 => newP #[.int .i64 0, .slice (some a5) 1 1, .slice none 0 0, .slice (some a7) 1 1] 66 w8 fun a9 w10 => newP #[.int .u8 1, .int .u8 0, .int .u8 1, .int .u8 20, .int .u8 0, .int .u8 1, .int .u8 0, .int .u8 0, .int .u8 128, .int .u8 0, .int .u8 0, .int .u8 0, .int .u8 0, .int .u8 0, .int .u8 0, .int .u8 1] 5 w10 fun a11 w12 => K ⟨(some a3), 1, 1⟩ ⟨(some a9), 1, 1⟩ ⟨(some a11), 16, 16⟩ w12

def c_preludelaw06_plain (w : World) (K : Slc → Slc → Slc → World → Prop) : Prop := Calls Try.prog 64 #[] w (onRet (fun v w' => ∃ (y0 : Slc), ∃ (y1 : Slc), ∃ (y2 : Slc), v = .tuple #[.slice y0.a y0.l y0.c, .slice y1.a y1.l y1.c, .slice y2.a y2.l y2.c] ∧ K y0 y1 y2 w'))

theorem sim_preludelaw06_plain {w : World} {K : Slc → Slc → Slc → World → Prop} (h : sh_preludelaw06_plain w K) : c_preludelaw06_plain  w K := by
  have e : sh_preludelaw06_plain w K = shF Try.prog 64 ⟨[], [], []⟩ [] w (fun v w' => decT [(false, [.sl]), (false, [.sl]), (false, [.sl])] v fun s => (fun (y0 : Slc) (y1 : Slc) (y2 : Slc) => K y0 y1 y2 w') s.1 s.2.1 s.2.2.1) := by kernel_rfl
  exact Calls.mono (calls_of _ e h) (onRet_mono (fun _ _ h => by obtain ⟨s, h1, h2⟩ := decT_spec h; exact ⟨s.1, s.2.1, s.2.2.1, h1, h2⟩))

-- 65 prelude/batch.Accept; callees ['batch_Decode', 'batch_Check']
def sh_batch_Accept (c_batch_Decode : Slc → World → (Slc → Int → Int → World → Prop) → Prop) (c_batch_Check : Slc → Slc → World → (Int → Int → World → Prop) → Prop) (lib_0 : Slc) (data_1 : Slc) (w : World) (K : Slc → Value → World → Prop) : Prop :=
  c_batch_Decode data_1 w fun r1 r2 r3 w4 => iteB ((r3 : Int) != 0)
  (newP #[.int .i64 r2, .iface 43 (.int .i64 r3)] 137 w4 fun a5 w6 => K ⟨none, 0, 0⟩ (.iface 135 (.pointer (some a5))) w6)
  (c_batch_Check lib_0 r1 w4 fun r7 r8 w9 => iteB ((r8 : Int) != 0)
  (newP #[.int .i64 r7, .iface 43 (.int .i64 r8)] 140 w9 fun a10 w11 => K ⟨none, 0, 0⟩ (.iface 138 (.pointer (some a10))) w11)
  (K r1 .nilIface w9))

def c_batch_Accept (lib_0 : Slc) (data_1 : Slc) (w : World) (K : Slc → Value → World → Prop) : Prop := Calls Try.prog 65 #[.slice lib_0.a lib_0.l lib_0.c, .slice data_1.a data_1.l data_1.c] w (onRet (fun v w' => ∃ (y0 : Slc), ∃ (y1 : Value), v = .tuple #[.slice y0.a y0.l y0.c, y1] ∧ K y0 y1 w'))

theorem sim_batch_Accept {lib_0 : Slc} {data_1 : Slc} {w : World} {K : Slc → Value → World → Prop} (h : sh_batch_Accept c_batch_Decode c_batch_Check lib_0 data_1 w K) : c_batch_Accept lib_0 data_1 w K := by
  have e : sh_batch_Accept c_batch_Decode c_batch_Check lib_0 data_1 w K = shF Try.prog 65 ⟨[], [], []⟩ [.slice lib_0.a lib_0.l lib_0.c, .slice data_1.a data_1.l data_1.c] w (fun v w' => decT [(false, [.sl]), (false, [.any])] v fun s => (fun (y0 : Slc) (y1 : Value) => K y0 y1 w') s.1 s.2.1) := by kernel_rfl
  exact Calls.mono (calls_of _ e h) (onRet_mono (fun _ _ h => by obtain ⟨s, h1, h2⟩ := decT_spec h; exact ⟨s.1, s.2.1, h1, h2⟩))

-- 31 prelude/preludelaw06.works; callees ['preludelaw06_plain', 'batch_Encode', 'batch_Accept', 'preludelaw06_num', 'preludelaw06_sameBytes', 'preludelaw06_sameBatch']
def sh_preludelaw06_works (c_preludelaw06_plain : World → (Slc → Slc → Slc → World → Prop) → Prop) (c_batch_Encode : Slc → World → (Slc → Int → World → Prop) → Prop) (c_batch_Accept : Slc → Slc → World → (Slc → Value → World → Prop) → Prop) (c_preludelaw06_num : Int → World → (Int → World → Prop) → Prop) (c_preludelaw06_sameBytes : Slc → Slc → World → (Bool → World → Prop) → Prop) (c_preludelaw06_sameBatch : Slc → Slc → World → (Bool → World → Prop) → Prop) (w : World) (K : Bool → World → Prop) : Prop :=
  c_preludelaw06_plain  w fun r1 r2 r3 w4 => c_batch_Encode r2 w4 fun r5 r6 w7 => c_batch_Accept r1 r3 w7 fun r8 r9 w10 => c_preludelaw06_num r6 w10 fun r11 w12 => iteB ((r11 : Int) == 0)
  (c_preludelaw06_sameBytes r5 r3 w12 fun r13 w14 => iteB r13
  (nilI r9 fun b15 => iteB b15
  (c_preludelaw06_sameBatch r8 r2 w14 fun r16 w17 => K r16 w17)
  (K false w14))
  (K false w14))
  (K false w12)

def c_preludelaw06_works (w : World) (K : Bool → World → Prop) : Prop := Calls Try.prog 31 #[] w (onRet (fun v w' => ∃ (y0 : Bool), v = .bool y0 ∧ K y0 w'))

theorem sim_preludelaw06_works {w : World} {K : Bool → World → Prop} (h : sh_preludelaw06_works c_preludelaw06_plain c_batch_Encode c_batch_Accept c_preludelaw06_num c_preludelaw06_sameBytes c_preludelaw06_sameBatch w K) : c_preludelaw06_works  w K := by
  have e : sh_preludelaw06_works c_preludelaw06_plain c_batch_Encode c_batch_Accept c_preludelaw06_num c_preludelaw06_sameBytes c_preludelaw06_sameBatch w K = shF Try.prog 31 ⟨[], [], []⟩ [] w (fun v w' => decV .b v fun y0 => K y0 w') := by kernel_rfl
  exact Calls.mono (calls_of _ e h) (onRet_mono (fun _ _ h => decV_spec h))

-- 7 prelude/preludelaw06.BatchBack; callees ['preluderef06_Parts', 'preludelaw06_works', 'preludelaw06_lent', 'batch_Encode', 'preludelaw06_num', 'batch_Decode', 'preludelaw06_sameBatch', 'preludelaw06_sameBytes']
def sh_preludelaw06_BatchBack (c_preluderef06_Parts : Slc → Int → World → (Int → World → Prop) → Prop) (c_preludelaw06_works : World → (Bool → World → Prop) → Prop) (c_preludelaw06_lent : Slc → World → (Slc → World → Prop) → Prop) (c_batch_Encode : Slc → World → (Slc → Int → World → Prop) → Prop) (c_preludelaw06_num : Int → World → (Int → World → Prop) → Prop) (c_batch_Decode : Slc → World → (Slc → Int → Int → World → Prop) → Prop) (c_preludelaw06_sameBatch : Slc → Slc → World → (Bool → World → Prop) → Prop) (c_preludelaw06_sameBytes : Slc → Slc → World → (Bool → World → Prop) → Prop) (x_0 : Slc) (x_1 : Slc) (w : World) (K : Bool → World → Prop) : Prop :=
  c_preluderef06_Parts x_0 100000 w fun r1 w2 => iteB (decide ((r1 : Int) < 0))
  (K true w2)
  (c_preludelaw06_works  w2 fun r3 w4 => iteB (!r3)
  (K false w4)
  (c_preludelaw06_lent x_0 w4 fun r5 w6 => c_batch_Encode r5 w6 fun r7 r8 w9 => c_preludelaw06_num r8 w9 fun r10 w11 => iteB ((r10 : Int) == 0)
  (c_batch_Decode r7 w11 fun r12 r13 r14 w15 => c_preludelaw06_num r14 w15 fun r16 w17 => iteB ((r16 : Int) != 0)
  (K false w17)
  (iteB ((r13 : Int) != 0)
  (K false w17)
  (c_preludelaw06_sameBatch r12 x_0 w17 fun r18 w19 => iteB (!r18)
  (K false w19)
  (newP #[] 5 w19 fun a20 w21 => apP Try.prog #[50, 50] 50 [.slice (some a20) 0 0, .slice x_1.a x_1.l x_1.c] w21 fun s23 w22 => c_batch_Decode s23 w22 fun r24 r25 r26 w27 => c_preludelaw06_num r26 w27 fun r28 w29 => iteB ((r28 : Int) != 0)
  (iteB (((r24.l : Int) : Int) == 0)
  (iteB (decide ((r25 : Int) ≥ 0))
  (K (decide ((r25 : Int) ≤ (x_1.l : Int))) w29)
  (K false w29))
  (K false w29))
  (c_batch_Encode r24 w29 fun r30 r31 w32 => c_preludelaw06_num r31 w32 fun r33 w34 => iteB ((r33 : Int) == 0)
  (c_preludelaw06_sameBytes r30 x_1 w34 fun r35 w36 => K r35 w36)
  (K false w34))))))
  (iteB (((r7.l : Int) : Int) != 0)
  (K false w11)
  (newP #[] 5 w11 fun a37 w38 => apP Try.prog #[50, 50] 50 [.slice (some a37) 0 0, .slice x_1.a x_1.l x_1.c] w38 fun s40 w39 => c_batch_Decode s40 w39 fun r41 r42 r43 w44 => c_preludelaw06_num r43 w44 fun r45 w46 => iteB ((r45 : Int) != 0)
  (iteB (((r41.l : Int) : Int) == 0)
  (iteB (decide ((r42 : Int) ≥ 0))
  (K (decide ((r42 : Int) ≤ (x_1.l : Int))) w46)
  (K false w46))
  (K false w46))
  (c_batch_Encode r41 w46 fun r47 r48 w49 => c_preludelaw06_num r48 w49 fun r50 w51 => iteB ((r50 : Int) == 0)
  (c_preludelaw06_sameBytes r47 x_1 w51 fun r52 w53 => K r52 w53)
  (K false w51))))))

def c_preludelaw06_BatchBack (x_0 : Slc) (x_1 : Slc) (w : World) (K : Bool → World → Prop) : Prop := Calls Try.prog 7 #[.slice x_0.a x_0.l x_0.c, .slice x_1.a x_1.l x_1.c] w (onRet (fun v w' => ∃ (y0 : Bool), v = .bool y0 ∧ K y0 w'))

theorem sim_preludelaw06_BatchBack {x_0 : Slc} {x_1 : Slc} {w : World} {K : Bool → World → Prop} (h : sh_preludelaw06_BatchBack c_preluderef06_Parts c_preludelaw06_works c_preludelaw06_lent c_batch_Encode c_preludelaw06_num c_batch_Decode c_preludelaw06_sameBatch c_preludelaw06_sameBytes x_0 x_1 w K) : c_preludelaw06_BatchBack x_0 x_1 w K := by
  have e : sh_preludelaw06_BatchBack c_preluderef06_Parts c_preludelaw06_works c_preludelaw06_lent c_batch_Encode c_preludelaw06_num c_batch_Decode c_preludelaw06_sameBatch c_preludelaw06_sameBytes x_0 x_1 w K = shF Try.prog 7 ⟨[], [], []⟩ [.slice x_0.a x_0.l x_0.c, .slice x_1.a x_1.l x_1.c] w (fun v w' => decV .b v fun y0 => K y0 w') := by kernel_rfl
  exact Calls.mono (calls_of _ e h) (onRet_mono (fun _ _ h => decV_spec h))

-- 8 prelude/preludelaw06.BatchEnds; callees ['preluderef06_Parts', 'preludelaw06_works', 'preludelaw06_lent', 'batch_Encode', 'preludelaw06_num', 'batch_Decode']
def sh_preludelaw06_BatchEnds (c_preluderef06_Parts : Slc → Int → World → (Int → World → Prop) → Prop) (c_preludelaw06_works : World → (Bool → World → Prop) → Prop) (c_preludelaw06_lent : Slc → World → (Slc → World → Prop) → Prop) (c_batch_Encode : Slc → World → (Slc → Int → World → Prop) → Prop) (c_preludelaw06_num : Int → World → (Int → World → Prop) → Prop) (c_batch_Decode : Slc → World → (Slc → Int → Int → World → Prop) → Prop) (x_0 : Slc) (x_1 : Slc) (x_2 : Slc) (x_3 : Int) (w : World) (K : Bool → World → Prop) : Prop :=
  c_preluderef06_Parts x_0 100000 w fun r1 w2 => iteB (decide ((r1 : Int) < 0))
  (K true w2)
  (c_preludelaw06_works  w2 fun r3 w4 => iteB (!r3)
  (K false w4)
  (c_preludelaw06_lent x_0 w4 fun r5 w6 => c_batch_Encode r5 w6 fun r7 r8 w9 => c_preludelaw06_num r8 w9 fun r10 w11 => iteB ((r10 : Int) == 0)
  (iteB (decide (((x_2.l : Int) : Int) > 0))
  (newP #[] 5 w11 fun a12 w13 => apP Try.prog #[50, 50] 50 [.slice (some a12) 0 0, .slice r7.a r7.l r7.c] w13 fun s15 w14 => apP Try.prog #[50, 50] 50 [.slice s15.a s15.l s15.c, .slice x_2.a x_2.l x_2.c] w14 fun s17 w16 => c_batch_Decode s17 w16 fun r18 r19 r20 w21 => c_preludelaw06_num r20 w21 fun r22 w23 => iteB ((r22 : Int) != 11)
  (K false w23)
  (iteB ((r19 : Int) != (r7.l : Int))
  (K false w23)
  (iteB (decide ((x_3 : Int) ≥ 0))
  (iteB (decide ((x_3 : Int) < (r7.l : Int)))
  (newP #[] 5 w23 fun a24 w25 => slP r7.a r7.l r7.c none (some x_3) 1 fun p26 l27 c28 => apP Try.prog #[50, 50] 50 [.slice (some a24) 0 0, .slice p26 l27 c28] w25 fun s30 w29 => c_batch_Decode s30 w29 fun r31 r32 r33 w34 => c_preludelaw06_num r33 w34 fun r35 w36 => iteB ((r35 : Int) != 10)
  (K false w36)
  (iteB (decide ((r32 : Int) > x_3))
  (K false w36)
  (newP #[] 5 w36 fun a37 w38 => apP Try.prog #[50, 50] 50 [.slice (some a37) 0 0, .slice x_1.a x_1.l x_1.c] w38 fun s40 w39 => c_batch_Decode s40 w39 fun r41 r42 r43 w44 => c_preludelaw06_num r43 w44 fun r45 w46 => iteB ((r45 : Int) == 0)
  (K true w46)
  (c_preludelaw06_num r43 w46 fun r47 w48 => iteB ((r47 : Int) == 10)
  (K true w48)
  (newP #[] 5 w48 fun a49 w50 => apP Try.prog #[50, 50] 50 [.slice (some a49) 0 0, .slice x_1.a x_1.l x_1.c] w50 fun s52 w51 => apP Try.prog #[50, 50] 50 [.slice s52.a s52.l s52.c, .slice x_2.a x_2.l x_2.c] w51 fun s54 w53 => c_batch_Decode s54 w53 fun r55 r56 r57 w58 => iteB ((r56 : Int) == r42)
  (c_preludelaw06_num r57 w58 fun r59 w60 => c_preludelaw06_num r43 w60 fun r61 w62 => K ((r59 : Int) == r61) w62)
  (K false w58))))))
  (newP #[] 5 w23 fun a63 w64 => apP Try.prog #[50, 50] 50 [.slice (some a63) 0 0, .slice x_1.a x_1.l x_1.c] w64 fun s66 w65 => c_batch_Decode s66 w65 fun r67 r68 r69 w70 => c_preludelaw06_num r69 w70 fun r71 w72 => iteB ((r71 : Int) == 0)
  (K true w72)
  (c_preludelaw06_num r69 w72 fun r73 w74 => iteB ((r73 : Int) == 10)
  (K true w74)
  (newP #[] 5 w74 fun a75 w76 => apP Try.prog #[50, 50] 50 [.slice (some a75) 0 0, .slice x_1.a x_1.l x_1.c] w76 fun s78 w77 => apP Try.prog #[50, 50] 50 [.slice s78.a s78.l s78.c, .slice x_2.a x_2.l x_2.c] w77 fun s80 w79 => c_batch_Decode s80 w79 fun r81 r82 r83 w84 => iteB ((r82 : Int) == r68)
  (c_preludelaw06_num r83 w84 fun r85 w86 => c_preludelaw06_num r69 w86 fun r87 w88 => K ((r85 : Int) == r87) w88)
  (K false w84)))))
  (newP #[] 5 w23 fun a89 w90 => apP Try.prog #[50, 50] 50 [.slice (some a89) 0 0, .slice x_1.a x_1.l x_1.c] w90 fun s92 w91 => c_batch_Decode s92 w91 fun r93 r94 r95 w96 => c_preludelaw06_num r95 w96 fun r97 w98 => iteB ((r97 : Int) == 0)
  (K true w98)
  (c_preludelaw06_num r95 w98 fun r99 w100 => iteB ((r99 : Int) == 10)
  (K true w100)
  (newP #[] 5 w100 fun a101 w102 => apP Try.prog #[50, 50] 50 [.slice (some a101) 0 0, .slice x_1.a x_1.l x_1.c] w102 fun s104 w103 => apP Try.prog #[50, 50] 50 [.slice s104.a s104.l s104.c, .slice x_2.a x_2.l x_2.c] w103 fun s106 w105 => c_batch_Decode s106 w105 fun r107 r108 r109 w110 => iteB ((r108 : Int) == r94)
  (c_preludelaw06_num r109 w110 fun r111 w112 => c_preludelaw06_num r95 w112 fun r113 w114 => K ((r111 : Int) == r113) w114)
  (K false w110)))))))
  (iteB (decide ((x_3 : Int) ≥ 0))
  (iteB (decide ((x_3 : Int) < (r7.l : Int)))
  (newP #[] 5 w11 fun a115 w116 => slP r7.a r7.l r7.c none (some x_3) 1 fun p117 l118 c119 => apP Try.prog #[50, 50] 50 [.slice (some a115) 0 0, .slice p117 l118 c119] w116 fun s121 w120 => c_batch_Decode s121 w120 fun r122 r123 r124 w125 => c_preludelaw06_num r124 w125 fun r126 w127 => iteB ((r126 : Int) != 10)
  (K false w127)
  (iteB (decide ((r123 : Int) > x_3))
  (K false w127)
  (newP #[] 5 w127 fun a128 w129 => apP Try.prog #[50, 50] 50 [.slice (some a128) 0 0, .slice x_1.a x_1.l x_1.c] w129 fun s131 w130 => c_batch_Decode s131 w130 fun r132 r133 r134 w135 => c_preludelaw06_num r134 w135 fun r136 w137 => iteB ((r136 : Int) == 0)
  (K true w137)
  (c_preludelaw06_num r134 w137 fun r138 w139 => iteB ((r138 : Int) == 10)
  (K true w139)
  (newP #[] 5 w139 fun a140 w141 => apP Try.prog #[50, 50] 50 [.slice (some a140) 0 0, .slice x_1.a x_1.l x_1.c] w141 fun s143 w142 => apP Try.prog #[50, 50] 50 [.slice s143.a s143.l s143.c, .slice x_2.a x_2.l x_2.c] w142 fun s145 w144 => c_batch_Decode s145 w144 fun r146 r147 r148 w149 => iteB ((r147 : Int) == r133)
  (c_preludelaw06_num r148 w149 fun r150 w151 => c_preludelaw06_num r134 w151 fun r152 w153 => K ((r150 : Int) == r152) w153)
  (K false w149))))))
  (newP #[] 5 w11 fun a154 w155 => apP Try.prog #[50, 50] 50 [.slice (some a154) 0 0, .slice x_1.a x_1.l x_1.c] w155 fun s157 w156 => c_batch_Decode s157 w156 fun r158 r159 r160 w161 => c_preludelaw06_num r160 w161 fun r162 w163 => iteB ((r162 : Int) == 0)
  (K true w163)
  (c_preludelaw06_num r160 w163 fun r164 w165 => iteB ((r164 : Int) == 10)
  (K true w165)
  (newP #[] 5 w165 fun a166 w167 => apP Try.prog #[50, 50] 50 [.slice (some a166) 0 0, .slice x_1.a x_1.l x_1.c] w167 fun s169 w168 => apP Try.prog #[50, 50] 50 [.slice s169.a s169.l s169.c, .slice x_2.a x_2.l x_2.c] w168 fun s171 w170 => c_batch_Decode s171 w170 fun r172 r173 r174 w175 => iteB ((r173 : Int) == r159)
  (c_preludelaw06_num r174 w175 fun r176 w177 => c_preludelaw06_num r160 w177 fun r178 w179 => K ((r176 : Int) == r178) w179)
  (K false w175)))))
  (newP #[] 5 w11 fun a180 w181 => apP Try.prog #[50, 50] 50 [.slice (some a180) 0 0, .slice x_1.a x_1.l x_1.c] w181 fun s183 w182 => c_batch_Decode s183 w182 fun r184 r185 r186 w187 => c_preludelaw06_num r186 w187 fun r188 w189 => iteB ((r188 : Int) == 0)
  (K true w189)
  (c_preludelaw06_num r186 w189 fun r190 w191 => iteB ((r190 : Int) == 10)
  (K true w191)
  (newP #[] 5 w191 fun a192 w193 => apP Try.prog #[50, 50] 50 [.slice (some a192) 0 0, .slice x_1.a x_1.l x_1.c] w193 fun s195 w194 => apP Try.prog #[50, 50] 50 [.slice s195.a s195.l s195.c, .slice x_2.a x_2.l x_2.c] w194 fun s197 w196 => c_batch_Decode s197 w196 fun r198 r199 r200 w201 => iteB ((r199 : Int) == r185)
  (c_preludelaw06_num r200 w201 fun r202 w203 => c_preludelaw06_num r186 w203 fun r204 w205 => K ((r202 : Int) == r204) w205)
  (K false w201))))))
  (newP #[] 5 w11 fun a206 w207 => apP Try.prog #[50, 50] 50 [.slice (some a206) 0 0, .slice x_1.a x_1.l x_1.c] w207 fun s209 w208 => c_batch_Decode s209 w208 fun r210 r211 r212 w213 => c_preludelaw06_num r212 w213 fun r214 w215 => iteB ((r214 : Int) == 0)
  (K true w215)
  (c_preludelaw06_num r212 w215 fun r216 w217 => iteB ((r216 : Int) == 10)
  (K true w217)
  (newP #[] 5 w217 fun a218 w219 => apP Try.prog #[50, 50] 50 [.slice (some a218) 0 0, .slice x_1.a x_1.l x_1.c] w219 fun s221 w220 => apP Try.prog #[50, 50] 50 [.slice s221.a s221.l s221.c, .slice x_2.a x_2.l x_2.c] w220 fun s223 w222 => c_batch_Decode s223 w222 fun r224 r225 r226 w227 => iteB ((r225 : Int) == r211)
  (c_preludelaw06_num r226 w227 fun r228 w229 => c_preludelaw06_num r212 w229 fun r230 w231 => K ((r228 : Int) == r230) w231)
  (K false w227))))))

def c_preludelaw06_BatchEnds (x_0 : Slc) (x_1 : Slc) (x_2 : Slc) (x_3 : Int) (w : World) (K : Bool → World → Prop) : Prop := Calls Try.prog 8 #[.slice x_0.a x_0.l x_0.c, .slice x_1.a x_1.l x_1.c, .slice x_2.a x_2.l x_2.c, .int .i64 x_3] w (onRet (fun v w' => ∃ (y0 : Bool), v = .bool y0 ∧ K y0 w'))

theorem sim_preludelaw06_BatchEnds {x_0 : Slc} {x_1 : Slc} {x_2 : Slc} {x_3 : Int} {w : World} {K : Bool → World → Prop} (h : sh_preludelaw06_BatchEnds c_preluderef06_Parts c_preludelaw06_works c_preludelaw06_lent c_batch_Encode c_preludelaw06_num c_batch_Decode x_0 x_1 x_2 x_3 w K) : c_preludelaw06_BatchEnds x_0 x_1 x_2 x_3 w K := by
  have e : sh_preludelaw06_BatchEnds c_preluderef06_Parts c_preludelaw06_works c_preludelaw06_lent c_batch_Encode c_preludelaw06_num c_batch_Decode x_0 x_1 x_2 x_3 w K = shF Try.prog 8 ⟨[], [], []⟩ [.slice x_0.a x_0.l x_0.c, .slice x_1.a x_1.l x_1.c, .slice x_2.a x_2.l x_2.c, .int .i64 x_3] w (fun v w' => decV .b v fun y0 => K y0 w') := by kernel_rfl
  exact Calls.mono (calls_of _ e h) (onRet_mono (fun _ _ h => decV_spec h))

-- 9 prelude/preludelaw06.BatchOne; callees ['preluderef04_Parts', 'preluderef06_Parts', 'preludelaw06_works', 'preludelaw06_lent', 'batch_Check', 'preludelaw06_num']
def sh_preludelaw06_BatchOne (c_preluderef04_Parts : Slc → Int → World → (Int → World → Prop) → Prop) (c_preluderef06_Parts : Slc → Int → World → (Int → World → Prop) → Prop) (c_preludelaw06_works : World → (Bool → World → Prop) → Prop) (c_preludelaw06_lent : Slc → World → (Slc → World → Prop) → Prop) (c_batch_Check : Slc → Slc → World → (Int → Int → World → Prop) → Prop) (c_preludelaw06_num : Int → World → (Int → World → Prop) → Prop) (x_0 : Slc) (x_1 : Slc) (w : World) (K : Bool → World → Prop) : Prop :=
  c_preluderef04_Parts x_0 100000 w fun r1 w2 => c_preluderef06_Parts x_1 r1 w2 fun r3 w4 => iteB (decide ((r3 : Int) < 0))
  (K true w4)
  (c_preludelaw06_works  w4 fun r5 w6 => iteB (!r5)
  (K false w6)
  (c_preludelaw06_lent x_1 w6 fun r7 w8 => c_batch_Check x_0 r7 w8 fun r9 r10 w11 => iteB (decide (((x_1.l : Int) : Int) > 64))
  (iteB ((r9 : Int) == 0)
  (c_preludelaw06_num r10 w11 fun r12 w13 => K ((r12 : Int) == 60) w13)
  (K false w11))
  (loopP (σ := Int × Unit) (fun st15 next14 w16 => (fun (x17 : Int) => iteB (decide ((x17 : Int) < (x_1.l : Int)))
  (slP x_1.a x_1.l x_1.c (some x17) (some (IntKind.i64.wrap (x17 + 1))) 4 fun p18 l19 c20 => c_preludelaw06_lent ⟨p18, l19, c20⟩ w16 fun r21 w22 => c_batch_Check x_0 r21 w22 fun r23 r24 w25 => iteB ((r23 : Int) != 0)
  (K false w25)
  (c_preludelaw06_num r24 w25 fun r26 w27 => iteB ((r26 : Int) != 0)
  (iteB ((r9 : Int) == x17)
  (c_preludelaw06_num r10 w27 fun r28 w29 => c_preludelaw06_num r24 w29 fun r30 w31 => K ((r28 : Int) == r30) w31)
  (K false w27))
  (next14 ((IntKind.i64.wrap (x17 + 1)), ()) w27)))
  (iteB ((r9 : Int) == 0)
  (c_preludelaw06_num r10 w16 fun r32 w33 => K ((r32 : Int) == 0) w33)
  (K false w16))) st15.1) (0, ()) w11)))

def c_preludelaw06_BatchOne (x_0 : Slc) (x_1 : Slc) (w : World) (K : Bool → World → Prop) : Prop := Calls Try.prog 9 #[.slice x_0.a x_0.l x_0.c, .slice x_1.a x_1.l x_1.c] w (onRet (fun v w' => ∃ (y0 : Bool), v = .bool y0 ∧ K y0 w'))

theorem sim_preludelaw06_BatchOne {x_0 : Slc} {x_1 : Slc} {w : World} {K : Bool → World → Prop} (h : sh_preludelaw06_BatchOne c_preluderef04_Parts c_preluderef06_Parts c_preludelaw06_works c_preludelaw06_lent c_batch_Check c_preludelaw06_num x_0 x_1 w K) : c_preludelaw06_BatchOne x_0 x_1 w K := by
  have e : sh_preludelaw06_BatchOne c_preluderef04_Parts c_preluderef06_Parts c_preludelaw06_works c_preludelaw06_lent c_batch_Check c_preludelaw06_num x_0 x_1 w K = shF Try.prog 9 ⟨[], [(9, [(7, (.int .i64))], [0, 1, 5, 6])], []⟩ [.slice x_0.a x_0.l x_0.c, .slice x_1.a x_1.l x_1.c] w (fun v w' => decV .b v fun y0 => K y0 w') := by kernel_rfl
  exact Calls.mono (calls_of _ e h) (onRet_mono (fun _ _ h => decV_spec h))

-- 54 prelude/batch.Decode$1; callees []
def shN_batch_Decode_1 (cap_0 : Addr) (cap_1 : Addr) (cap_2 : Addr) (w : World) (K : World → Prop) : Prop :=
  K w

theorem simN_batch_Decode_1 {cap_0 : Addr} {cap_1 : Addr} {cap_2 : Addr} {w : World} {K : World → Prop} (h : shN_batch_Decode_1 cap_0 cap_1 cap_2 w K) : CallsD Try.prog 54 #[.pointer (some cap_0), .pointer (some cap_1), .pointer (some cap_2)] .returning w (fun en u' w' => u' = (recov .returning).2 ∧ onRet (fun v w' => v = .tuple #[] ∧ K w') en w') := by
  have e : shN_batch_Decode_1 cap_0 cap_1 cap_2 w K = shFR Try.prog 54 ⟨[], [], []⟩ [.pointer (some cap_0), .pointer (some cap_1), .pointer (some cap_2)] (recov .returning).1 w (fun v w' => decU v (K w')) := by kernel_rfl
  exact CallsD.mono (callsR_of (u := .returning) _ e h) (fun en u' w' hx => ⟨hx.1, onRet_mono (fun _ _ h => decU_spec h) _ _ hx.2⟩)

def shR_batch_Decode_1 (x_0 : Int) (x_1 : Int) (cap_0 : Addr) (cap_1 : Addr) (cap_2 : Addr) (w : World) (K : World → Prop) : Prop :=
  (∃ (r1 : Int), ∃ (r2 : Int), ∃ (r3 : Bool), ∃ w4, (Instr.typeAssert (.iface 96 (.agg #[.int .i64 x_0, .int .i64 x_1])) 20 96 true).run Try.prog w = .ok (.tuple #[.agg #[.int .i64 r1, .int .i64 r2], .bool r3]) w4 ∧ (newP #[.int .i64 0, .int .i64 0] 96 w4 fun a5 w6 => stP a5 (.int .i64 r1) w6 fun w7 => stP (a5.add 1) (.int .i64 r2) w7 fun w8 => iteB (!r3)
  (panP (.iface 96 (.agg #[.int .i64 x_0, .int .i64 x_1])) noP w8)
  (ldI .i64 a5 w8.drew fun n9 => ldI .i64 (a5.add 1) w8.drew fun n10 => stP cap_0 (.slice none 0 0) w8.drew fun w11 => w11.cell? (a5.add 1) = some (.int .i64 n10) ∧ w11.cell? a5 = some (.int .i64 n9) ∧ (stP cap_1 (.int .i64 n9) w11 fun w12 => w12.cell? (a5.add 1) = some (.int .i64 n10) ∧ (stP cap_2 (.int .i64 n10) w12 fun w13 => K w13)))))

theorem simR_batch_Decode_1 {x_0 : Int} {x_1 : Int} {cap_0 : Addr} {cap_1 : Addr} {cap_2 : Addr} {older : List PanicEntry} {w : World} {K : World → Prop} (h : shR_batch_Decode_1 x_0 x_1 cap_0 cap_1 cap_2 w K) : CallsD Try.prog 54 #[.pointer (some cap_0), .pointer (some cap_1), .pointer (some cap_2)] (.panicking ({ v := .iface 96 (.agg #[.int .i64 x_0, .int .i64 x_1]), recovered := false, goexit := false } :: older)) w (fun en u' w' => u' = (recov (.panicking ({ v := .iface 96 (.agg #[.int .i64 x_0, .int .i64 x_1]), recovered := false, goexit := false } :: older))).2 ∧ onRet (fun v w' => v = .tuple #[] ∧ K w') en w') := by
  have e : shR_batch_Decode_1 x_0 x_1 cap_0 cap_1 cap_2 w K = shFR Try.prog 54 ⟨[(5, [0, 1, 2, 3, 4, 5, 6])], [], []⟩ [.pointer (some cap_0), .pointer (some cap_1), .pointer (some cap_2)] (recov (.panicking ({ v := .iface 96 (.agg #[.int .i64 x_0, .int .i64 x_1]), recovered := false, goexit := false } :: older))).1 w (fun v w' => decU v (K w')) := by kernel_rfl
  exact CallsD.mono (callsR_of (u := (.panicking ({ v := .iface 96 (.agg #[.int .i64 x_0, .int .i64 x_1]), recovered := false, goexit := false } :: older))) _ e h) (fun en u' w' hx => ⟨hx.1, onRet_mono (fun _ _ h => decU_spec h) _ _ hx.2⟩)

end Go.Proofs.Ytlnhecbgjjglfaa
