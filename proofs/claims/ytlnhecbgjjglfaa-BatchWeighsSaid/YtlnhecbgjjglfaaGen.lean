import Derived.Test.YtlnhecbgjjglfaaProg
import Derived.Test.YtlnhecbgjjglfaaSh
set_option linter.unusedVariables false
namespace Go.Proofs.Ytlnhecbgjjglfaa
open Go Go.Sh
-- 10 prelude/preluderef06.Parts; callees []
def sh_preluderef06_Parts (b_0 : Slc) (left_1 : Int) (w : World) (K : Int → World → Prop) : Prop :=
  loopP (σ := Int × Int × Unit) (fun st2 next1 w3 => (fun (left_4 : Int) (i_5 : Int) => iteB (decide ((i_5 : Int) < (b_0.l : Int)))
  (iteB (decide ((left_4 : Int) ≥ 0))
  (idxP b_0.a b_0.l i_5 4 fun a6 => ldS (a6.add 1) w3.drew fun s7 => idxP b_0.a b_0.l i_5 4 fun a8 => ldS (a8.add 2) w3.drew fun s9 => idxP b_0.a b_0.l i_5 4 fun a10 => ldS (a10.add 3) w3.drew fun s11 => next1 ((IntKind.i64.wrap ((IntKind.i64.wrap ((IntKind.i64.wrap ((IntKind.i64.wrap (left_4 - 1)) - (s7.l : Int))) - (s9.l : Int))) - (s11.l : Int))), (IntKind.i64.wrap (i_5 + 1)), ()) w3.drew)
  (K left_4 w3))
  (K left_4 w3)) st2.1 st2.2.1) (left_1, 0, ()) w

def c_preluderef06_Parts (b_0 : Slc) (left_1 : Int) (w : World) (K : Int → World → Prop) : Prop := Calls Try.prog 10 #[.slice b_0.a b_0.l b_0.c, .int .i64 left_1] w (onRet (fun v w' => ∃ (y0 : Int), v = .int .i64 y0 ∧ K y0 w'))

theorem sim_preluderef06_Parts {b_0 : Slc} {left_1 : Int} {w : World} {K : Int → World → Prop} (h : sh_preluderef06_Parts b_0 left_1 w K) : c_preluderef06_Parts b_0 left_1 w K := by
  have e : sh_preluderef06_Parts b_0 left_1 w K = shF Try.prog 10 ⟨[(4, [0, 1, 2, 3, 4, 5, 6, 7, 8, 9, 10, 11, 12, 13, 14, 15, 16, 17, 18, 19, 20, 21, 22, 23])], [(2, [(1, (.int .i64)), (5, (.int .i64))], [0])], []⟩ [.slice b_0.a b_0.l b_0.c, .int .i64 left_1] w (fun v w' => decV (.int .i64) v fun y0 => K y0 w') := by kernel_rfl
  exact Calls.mono (calls_of _ e h) (onRet_mono (fun _ _ h => decV_spec h))

-- 32 prelude/preludelaw06.ints; callees []
def sh_preludelaw06_ints (l_0 : Slc) (w : World) (K : Slc → World → Prop) : Prop :=
  iteB ((l_0.a).isNone)
  (K ⟨none, 0, 0⟩ w)
  (mkP Try.prog 64 (.int .i64 (IntKind.i64.wrap ((l_0.l : Int) + 3))) (.int .i64 (IntKind.i64.wrap ((l_0.l : Int) + 3))) w fun s1 w2 => cpP Try.prog #[64, 64] 3 [.slice s1.a s1.l s1.c, .slice l_0.a l_0.l l_0.c] w2 fun n4 w3 => loopP (σ := Int × Unit) (fun st6 next5 w7 => (fun (i_8 : Int) => iteB (decide ((i_8 : Int) < (s1.l : Int)))
  (idxP s1.a s1.l i_8 1 fun a9 => stP a9 (.int .i64 (-31)) w7 fun w10 => next5 ((IntKind.i64.wrap (i_8 + 1)), ()) w10)
  (slP s1.a s1.l s1.c none (some (l_0.l : Int)) 1 fun p11 l12 c13 => K ⟨p11, l12, c13⟩ w7)) st6.1) ((l_0.l : Int), ()) w3)

def c_preludelaw06_ints (l_0 : Slc) (w : World) (K : Slc → World → Prop) : Prop := Calls Try.prog 32 #[.slice l_0.a l_0.l l_0.c] w (onRet (fun v w' => ∃ (y0 : Slc), v = .slice y0.a y0.l y0.c ∧ K y0 w'))

theorem sim_preludelaw06_ints {l_0 : Slc} {w : World} {K : Slc → World → Prop} (h : sh_preludelaw06_ints l_0 w K) : c_preludelaw06_ints l_0 w K := by
  have e : sh_preludelaw06_ints l_0 w K = shF Try.prog 32 ⟨[], [(6, [(4, (.int .i64))], [0, 3])], []⟩ [.slice l_0.a l_0.l l_0.c] w (fun v w' => decV .sl v fun y0 => K y0 w') := by kernel_rfl
  exact Calls.mono (calls_of _ e h) (onRet_mono (fun _ _ h => decV_spec h))

-- 33 prelude/preludelaw06.keyList; callees []
def sh_preludelaw06_keyList (l_0 : Slc) (w : World) (K : Slc → World → Prop) : Prop :=
  iteB ((l_0.a).isNone)
  (K ⟨none, 0, 0⟩ w)
  (mkP Try.prog 30 (.int .i64 (IntKind.i64.wrap ((l_0.l : Int) + 3))) (.int .i64 (IntKind.i64.wrap ((l_0.l : Int) + 3))) w fun s1 w2 => cpP Try.prog #[30, 30] 3 [.slice s1.a s1.l s1.c, .slice l_0.a l_0.l l_0.c] w2 fun n4 w3 => loopP (σ := Int × Unit) (fun st6 next5 w7 => (fun (i_8 : Int) => iteB (decide ((i_8 : Int) < (s1.l : Int)))
  (idxP s1.a s1.l i_8 2 fun a9 => stP a9 (.int .i64 (-31)) w7 fun w10 => stP (a9.add 1) (.int .i64 0) w10 fun w11 => next5 ((IntKind.i64.wrap (i_8 + 1)), ()) w11)
  (slP s1.a s1.l s1.c none (some (l_0.l : Int)) 2 fun p12 l13 c14 => K ⟨p12, l13, c14⟩ w7)) st6.1) ((l_0.l : Int), ()) w3)

def c_preludelaw06_keyList (l_0 : Slc) (w : World) (K : Slc → World → Prop) : Prop := Calls Try.prog 33 #[.slice l_0.a l_0.l l_0.c] w (onRet (fun v w' => ∃ (y0 : Slc), v = .slice y0.a y0.l y0.c ∧ K y0 w'))

theorem sim_preludelaw06_keyList {l_0 : Slc} {w : World} {K : Slc → World → Prop} (h : sh_preludelaw06_keyList l_0 w K) : c_preludelaw06_keyList l_0 w K := by
  have e : sh_preludelaw06_keyList l_0 w K = shF Try.prog 33 ⟨[], [(6, [(4, (.int .i64))], [0, 3])], []⟩ [.slice l_0.a l_0.l l_0.c] w (fun v w' => decV .sl v fun y0 => K y0 w') := by kernel_rfl
  exact Calls.mono (calls_of _ e h) (onRet_mono (fun _ _ h => decV_spec h))

-- 11 prelude/preludelaw06.lent; callees ['preludelaw06_ints', 'preludelaw06_keyList']
def sh_preludelaw06_lent (c_preludelaw06_ints : Slc → World → (Slc → World → Prop) → Prop) (c_preludelaw06_keyList : Slc → World → (Slc → World → Prop) → Prop) (b_0 : Slc) (w : World) (K : Slc → World → Prop) : Prop :=
  iteB ((b_0.a).isNone)
  (K ⟨none, 0, 0⟩ w)
  (mkP Try.prog 22 (.int .i64 (IntKind.i64.wrap ((b_0.l : Int) + 3))) (.int .i64 (IntKind.i64.wrap ((b_0.l : Int) + 3))) w fun s1 w2 => loopP (σ := Int × Unit) (fun st4 next3 w5 => (fun (i_6 : Int) => iteB (decide ((i_6 : Int) < (s1.l : Int)))
  (idxP s1.a s1.l i_6 4 fun a7 => stP a7 (.int .i64 (-31)) w5 fun w8 => stP (a7.add 1) (.slice none 0 0) w8 fun w9 => stP (a7.add 2) (.slice none 0 0) w9 fun w10 => stP (a7.add 3) (.slice none 0 0) w10 fun w11 => next3 ((IntKind.i64.wrap (i_6 + 1)), ()) w11)
  (loopP (σ := Int × Unit) (fun st13 next12 w14 => (fun (i_15 : Int) => iteB (decide ((i_15 : Int) < (b_0.l : Int)))
  (idxP b_0.a b_0.l i_15 4 fun a16 => ldI .i64 a16 w14.drew fun n17 => idxP b_0.a b_0.l i_15 4 fun a18 => ldS (a18.add 1) w14.drew fun s19 => idxP b_0.a b_0.l i_15 4 fun a20 => ldS (a20.add 2) w14.drew fun s21 => idxP b_0.a b_0.l i_15 4 fun a22 => ldS (a22.add 3) w14.drew fun s23 => c_preludelaw06_ints s19 w14.drew fun r24 w25 => w25.cell? (a22.add 3) = some (.slice s23.a s23.l s23.c) ∧ w25.cell? (a20.add 2) = some (.slice s21.a s21.l s21.c) ∧ w25.cell? a16 = some (.int .i64 n17) ∧ (c_preludelaw06_keyList s21 w25 fun r26 w27 => w27.cell? (a22.add 3) = some (.slice s23.a s23.l s23.c) ∧ w27.cell? a16 = some (.int .i64 n17) ∧ (c_preludelaw06_keyList s23 w27 fun r28 w29 => w29.cell? a16 = some (.int .i64 n17) ∧ (idxP s1.a s1.l i_15 4 fun a30 => stP a30 (.int .i64 n17) w29 fun w31 => stP (a30.add 1) (.slice r24.a r24.l r24.c) w31 fun w32 => stP (a30.add 2) (.slice r26.a r26.l r26.c) w32 fun w33 => stP (a30.add 3) (.slice r28.a r28.l r28.c) w33 fun w34 => next12 ((IntKind.i64.wrap (i_15 + 1)), ()) w34))))
  (slP s1.a s1.l s1.c none (some (b_0.l : Int)) 4 fun p35 l36 c37 => K ⟨p35, l36, c37⟩ w14)) st13.1) (0, ()) w5)) st4.1) (0, ()) w2)

def c_preludelaw06_lent (b_0 : Slc) (w : World) (K : Slc → World → Prop) : Prop := Calls Try.prog 11 #[.slice b_0.a b_0.l b_0.c] w (onRet (fun v w' => ∃ (y0 : Slc), v = .slice y0.a y0.l y0.c ∧ K y0 w'))

theorem sim_preludelaw06_lent {b_0 : Slc} {w : World} {K : Slc → World → Prop} (h : sh_preludelaw06_lent c_preludelaw06_ints c_preludelaw06_keyList b_0 w K) : c_preludelaw06_lent b_0 w K := by
  have e : sh_preludelaw06_lent c_preludelaw06_ints c_preludelaw06_keyList b_0 w K = shF Try.prog 11 ⟨[(11, [0, 1, 2, 3, 4, 5, 6, 7, 8, 9, 10, 11, 13, 14, 15, 16, 17, 19, 20, 21, 22, 23, 12, 18, 24, 25, 26, 27])], [(5, [(4, (.int .i64))], [0, 3]), (9, [(5, (.int .i64))], [0, 3])], []⟩ [.slice b_0.a b_0.l b_0.c] w (fun v w' => decV .sl v fun y0 => K y0 w') := by kernel_rfl
  exact Calls.mono (calls_of _ e h) (onRet_mono (fun _ _ h => decV_spec h))

-- 12 prelude/batch.Weight; callees []
def sh_batch_Weight (b_0 : Slc) (w : World) (K : Int → World → Prop) : Prop :=
  loopP (σ := Int × Int × Unit) (fun st2 next1 w3 => (fun (n_4 : Int) (x5 : Int) => iteB (decide ((x5 : Int) < (b_0.l : Int)))
  (idxP b_0.a b_0.l x5 4 fun a6 => ldI .i64 a6 w3 fun n7 => ldS (a6.add 1) w3 fun s8 => ldS (a6.add 2) w3 fun s9 => ldS (a6.add 3) w3 fun s10 => newP #[.int .i64 0, .slice none 0 0, .slice none 0 0, .slice none 0 0] 66 w3 fun a11 w12 => stP a11 (.int .i64 n7) w12 fun w13 => stP (a11.add 1) (.slice s8.a s8.l s8.c) w13 fun w14 => stP (a11.add 2) (.slice s9.a s9.l s9.c) w14 fun w15 => stP (a11.add 3) (.slice s10.a s10.l s10.c) w15 fun w16 => ldS (a11.add 3) w16 fun s17 => next1 ((IntKind.i64.wrap (n_4 + (s17.l : Int))), (IntKind.i64.wrap (x5 + 1)), ()) w16)
  (K n_4 w3)) st2.1 st2.2.1) (0, 0, ()) w

def c_batch_Weight (b_0 : Slc) (w : World) (K : Int → World → Prop) : Prop := Calls Try.prog 12 #[.slice b_0.a b_0.l b_0.c] w (onRet (fun v w' => ∃ (y0 : Int), v = .int .i64 y0 ∧ K y0 w'))

theorem sim_batch_Weight {b_0 : Slc} {w : World} {K : Int → World → Prop} (h : sh_batch_Weight b_0 w K) : c_batch_Weight b_0 w K := by
  have e : sh_batch_Weight b_0 w K = shF Try.prog 12 ⟨[], [(3, [(3, (.int .i64)), (8, (.int .i64))], [6, 7])], []⟩ [.slice b_0.a b_0.l b_0.c] w (fun v w' => decV (.int .i64) v fun y0 => K y0 w') := by kernel_rfl
  exact Calls.mono (calls_of _ e h) (onRet_mono (fun _ _ h => decV_spec h))

-- 34 slices.Clone[[]prelude/api.Key,prelude/api.Key]; callees []
def sh_slices_Clone_api_Key_api_Key (s_0 : Slc) (w : World) (K : Slc → World → Prop) : Prop :=
  iteB ((s_0.a).isNone)
  (K ⟨none, 0, 0⟩ w)
  (newP #[] 70 w fun a1 w2 => apP Try.prog #[30, 30] 30 [.slice (some a1) 0 0, .slice s_0.a s_0.l s_0.c] w2 fun s4 w3 => K s4 w3)

def c_slices_Clone_api_Key_api_Key (s_0 : Slc) (w : World) (K : Slc → World → Prop) : Prop := Calls Try.prog 34 #[.slice s_0.a s_0.l s_0.c] w (onRet (fun v w' => ∃ (y0 : Slc), v = .slice y0.a y0.l y0.c ∧ K y0 w'))

theorem sim_slices_Clone_api_Key_api_Key {s_0 : Slc} {w : World} {K : Slc → World → Prop} (h : sh_slices_Clone_api_Key_api_Key s_0 w K) : c_slices_Clone_api_Key_api_Key s_0 w K := by
  have e : sh_slices_Clone_api_Key_api_Key s_0 w K = shF Try.prog 34 ⟨[], [], []⟩ [.slice s_0.a s_0.l s_0.c] w (fun v w' => decV .sl v fun y0 => K y0 w') := by kernel_rfl
  exact Calls.mono (calls_of _ e h) (onRet_mono (fun _ _ h => decV_spec h))

-- 13 prelude/batch.Writes; callees ['slices_Clone_api_Key_api_Key']
def sh_batch_Writes (c_slices_Clone_api_Key_api_Key : Slc → World → (Slc → World → Prop) → Prop) (b_0 : Slc) (w : World) (K : Slc → World → Prop) : Prop :=
  mkP Try.prog 26 (.int .i64 0) (.int .i64 (b_0.l : Int)) w fun s1 w2 => loopP (σ := Slc × Int × Unit) (fun st4 next3 w5 => (fun (l_6 : Slc) (x7 : Int) => iteB (decide ((x7 : Int) < (b_0.l : Int)))
  (idxP b_0.a b_0.l x7 4 fun a8 => ldI .i64 a8 w5 fun n9 => ldS (a8.add 1) w5 fun s10 => ldS (a8.add 2) w5 fun s11 => ldS (a8.add 3) w5 fun s12 => newP #[.int .i64 0, .slice none 0 0, .slice none 0 0, .slice none 0 0] 66 w5 fun a13 w14 => stP a13 (.int .i64 n9) w14 fun w15 => stP (a13.add 1) (.slice s10.a s10.l s10.c) w15 fun w16 => stP (a13.add 2) (.slice s11.a s11.l s11.c) w16 fun w17 => stP (a13.add 3) (.slice s12.a s12.l s12.c) w17 fun w18 => ldS (a13.add 3) w18 fun s19 => c_slices_Clone_api_Key_api_Key s19 w18 fun r20 w21 => newP #[.slice r20.a r20.l r20.c] 30 w21 fun a22 w23 => apP Try.prog #[26, 26] 26 [.slice l_6.a l_6.l l_6.c, .slice (some a22) 1 1] w23 fun s25 w24 => next3 (s25, (IntKind.i64.wrap (x7 + 1)), ()) w24)
  (K l_6 w5)) st4.1 st4.2.1) (s1, 0, ()) w2

def c_batch_Writes (b_0 : Slc) (w : World) (K : Slc → World → Prop) : Prop := Calls Try.prog 13 #[.slice b_0.a b_0.l b_0.c] w (onRet (fun v w' => ∃ (y0 : Slc), v = .slice y0.a y0.l y0.c ∧ K y0 w'))

theorem sim_batch_Writes {b_0 : Slc} {w : World} {K : Slc → World → Prop} (h : sh_batch_Writes c_slices_Clone_api_Key_api_Key b_0 w K) : c_batch_Writes b_0 w K := by
  have e : sh_batch_Writes c_slices_Clone_api_Key_api_Key b_0 w K = shF Try.prog 13 ⟨[], [(3, [(3, .sl), (11, (.int .i64))], [9, 10])], []⟩ [.slice b_0.a b_0.l b_0.c] w (fun v w' => decV .sl v fun y0 => K y0 w') := by kernel_rfl
  exact Calls.mono (calls_of _ e h) (onRet_mono (fun _ _ h => decV_spec h))

-- 63 prelude/preludelaw06.sameInts; callees []
def sh_preludelaw06_sameInts (a_0 : Slc) (b_1 : Slc) (w : World) (K : Bool → World → Prop) : Prop :=
  iteB (((a_0.l : Int) : Int) != (b_1.l : Int))
  (K false w)
  (loopP (σ := Int × Unit) (fun st2 next1 w3 => (fun (i_4 : Int) => iteB (decide ((i_4 : Int) < (a_0.l : Int)))
  (idxP a_0.a a_0.l i_4 1 fun a5 => ldI .i64 a5 w3.drew fun n6 => idxP b_1.a b_1.l i_4 1 fun a7 => ldI .i64 a7 w3.drew fun n8 => iteB ((n6 : Int) != n8)
  (K false w3.drew)
  (next1 ((IntKind.i64.wrap (i_4 + 1)), ()) w3.drew))
  (K true w3)) st2.1) (0, ()) w)

def c_preludelaw06_sameInts (a_0 : Slc) (b_1 : Slc) (w : World) (K : Bool → World → Prop) : Prop := Calls Try.prog 63 #[.slice a_0.a a_0.l a_0.c, .slice b_1.a b_1.l b_1.c] w (onRet (fun v w' => ∃ (y0 : Bool), v = .bool y0 ∧ K y0 w'))

theorem sim_preludelaw06_sameInts {a_0 : Slc} {b_1 : Slc} {w : World} {K : Bool → World → Prop} (h : sh_preludelaw06_sameInts a_0 b_1 w K) : c_preludelaw06_sameInts a_0 b_1 w K := by
  have e : sh_preludelaw06_sameInts a_0 b_1 w K = shF Try.prog 63 ⟨[(6, [0, 1, 2, 3, 4, 5, 6, 7, 8])], [(4, [(5, (.int .i64))], [0, 1])], []⟩ [.slice a_0.a a_0.l a_0.c, .slice b_1.a b_1.l b_1.c] w (fun v w' => decV .b v fun y0 => K y0 w') := by kernel_rfl
  exact Calls.mono (calls_of _ e h) (onRet_mono (fun _ _ h => decV_spec h))

-- 17 prelude/preludelaw06.sameKeys; callees []
def sh_preludelaw06_sameKeys (a_0 : Slc) (b_1 : Slc) (w : World) (K : Bool → World → Prop) : Prop :=
  iteB (((a_0.l : Int) : Int) != (b_1.l : Int))
  (K false w)
  (loopP (σ := Int × Unit) (fun st2 next1 w3 => (fun (i_4 : Int) => iteB (decide ((i_4 : Int) < (a_0.l : Int)))
  (idxP a_0.a a_0.l i_4 2 fun a5 => ldI .i64 a5 w3.drew fun n6 => ldI .i64 (a5.add 1) w3.drew fun n7 => idxP b_1.a b_1.l i_4 2 fun a8 => ldI .i64 a8 w3.drew fun n9 => ldI .i64 (a8.add 1) w3.drew fun n10 => (∃ (r11 : Bool), ∃ w12, (do eqGuard .neq 70 (.tmp 20) (.tmp 24) (.agg #[.int .i64 n6, .int .i64 n7]) (.agg #[.int .i64 n9, .int .i64 n10]); binOp .neq 70 (.agg #[.int .i64 n6, .int .i64 n7]) (.agg #[.int .i64 n9, .int .i64 n10])).run Try.prog w3.drew = .ok (.bool r11) w12 ∧ (iteB r11
  (K false w12)
  (next1 ((IntKind.i64.wrap (i_4 + 1)), ()) w12))))
  (K true w3)) st2.1) (0, ()) w)

def c_preludelaw06_sameKeys (a_0 : Slc) (b_1 : Slc) (w : World) (K : Bool → World → Prop) : Prop := Calls Try.prog 17 #[.slice a_0.a a_0.l a_0.c, .slice b_1.a b_1.l b_1.c] w (onRet (fun v w' => ∃ (y0 : Bool), v = .bool y0 ∧ K y0 w'))

theorem sim_preludelaw06_sameKeys {a_0 : Slc} {b_1 : Slc} {w : World} {K : Bool → World → Prop} (h : sh_preludelaw06_sameKeys a_0 b_1 w K) : c_preludelaw06_sameKeys a_0 b_1 w K := by
  have e : sh_preludelaw06_sameKeys a_0 b_1 w K = shF Try.prog 17 ⟨[(6, [0, 1, 2, 3, 4, 5, 6, 7, 8])], [(4, [(5, (.int .i64))], [0, 1])], []⟩ [.slice a_0.a a_0.l a_0.c, .slice b_1.a b_1.l b_1.c] w (fun v w' => decV .b v fun y0 => K y0 w') := by kernel_rfl
  exact Calls.mono (calls_of _ e h) (onRet_mono (fun _ _ h => decV_spec h))

-- 29 prelude/preludelaw06.sameBatch; callees ['preludelaw06_sameInts', 'preludelaw06_sameKeys']
def sh_preludelaw06_sameBatch (c_preludelaw06_sameInts : Slc → Slc → World → (Bool → World → Prop) → Prop) (c_preludelaw06_sameKeys : Slc → Slc → World → (Bool → World → Prop) → Prop) (a_0 : Slc) (b_1 : Slc) (w : World) (K : Bool → World → Prop) : Prop :=
  iteB (((a_0.l : Int) : Int) != (b_1.l : Int))
  (K false w)
  (loopP (σ := Int × Unit) (fun st2 next1 w3 => (fun (i_4 : Int) => iteB (decide ((i_4 : Int) < (a_0.l : Int)))
  (idxP a_0.a a_0.l i_4 4 fun a5 => ldI .i64 a5 w3 fun n6 => ldS (a5.add 1) w3 fun s7 => ldS (a5.add 2) w3 fun s8 => ldS (a5.add 3) w3 fun s9 => newP #[.int .i64 0, .slice none 0 0, .slice none 0 0, .slice none 0 0] 66 w3 fun a10 w11 => stP a10 (.int .i64 n6) w11 fun w12 => stP (a10.add 1) (.slice s7.a s7.l s7.c) w12 fun w13 => stP (a10.add 2) (.slice s8.a s8.l s8.c) w13 fun w14 => stP (a10.add 3) (.slice s9.a s9.l s9.c) w14 fun w15 => idxP b_1.a b_1.l i_4 4 fun a16 => ldI .i64 a16 w15 fun n17 => ldS (a16.add 1) w15 fun s18 => ldS (a16.add 2) w15 fun s19 => ldS (a16.add 3) w15 fun s20 => newP #[.int .i64 0, .slice none 0 0, .slice none 0 0, .slice none 0 0] 66 w15 fun a21 w22 => stP a21 (.int .i64 n17) w22 fun w23 => stP (a21.add 1) (.slice s18.a s18.l s18.c) w23 fun w24 => stP (a21.add 2) (.slice s19.a s19.l s19.c) w24 fun w25 => stP (a21.add 3) (.slice s20.a s20.l s20.c) w25 fun w26 => ldI .i64 a10 w26 fun n27 => ldI .i64 a21 w26 fun n28 => iteB ((n27 : Int) != n28)
  (K false w26)
  (ldS (a10.add 1) w26 fun s29 => ldS (a21.add 1) w26 fun s30 => c_preludelaw06_sameInts s29 s30 w26 fun r31 w32 => iteB (!r31)
  (K false w32)
  (ldS (a10.add 2) w32 fun s33 => ldS (a21.add 2) w32 fun s34 => c_preludelaw06_sameKeys s33 s34 w32 fun r35 w36 => iteB (!r35)
  (K false w36)
  (ldS (a10.add 3) w36 fun s37 => ldS (a21.add 3) w36 fun s38 => c_preludelaw06_sameKeys s37 s38 w36 fun r39 w40 => iteB (!r39)
  (K false w40)
  (next1 ((IntKind.i64.wrap (i_4 + 1)), ()) w40)))))
  (K true w3)) st2.1) (0, ()) w)

def c_preludelaw06_sameBatch (a_0 : Slc) (b_1 : Slc) (w : World) (K : Bool → World → Prop) : Prop := Calls Try.prog 29 #[.slice a_0.a a_0.l a_0.c, .slice b_1.a b_1.l b_1.c] w (onRet (fun v w' => ∃ (y0 : Bool), v = .bool y0 ∧ K y0 w'))

theorem sim_preludelaw06_sameBatch {a_0 : Slc} {b_1 : Slc} {w : World} {K : Bool → World → Prop} (h : sh_preludelaw06_sameBatch c_preludelaw06_sameInts c_preludelaw06_sameKeys a_0 b_1 w K) : c_preludelaw06_sameBatch a_0 b_1 w K := by
  have e : sh_preludelaw06_sameBatch c_preludelaw06_sameInts c_preludelaw06_sameKeys a_0 b_1 w K = shF Try.prog 29 ⟨[], [(4, [(5, (.int .i64))], [0, 1])], []⟩ [.slice a_0.a a_0.l a_0.c, .slice b_1.a b_1.l b_1.c] w (fun v w' => decV .b v fun y0 => K y0 w') := by kernel_rfl
  exact Calls.mono (calls_of _ e h) (onRet_mono (fun _ _ h => decV_spec h))

-- 35 prelude/preludelaw06.tail; callees []
def sh_preludelaw06_tail (l_0 : Slc) (w : World) (K : Bool → World → Prop) : Prop :=
  iteB ((l_0.a).isNone)
  (K true w)
  (slP l_0.a l_0.l l_0.c none (some (IntKind.i64.wrap ((l_0.l : Int) + 3))) 2 fun p1 l2 c3 => loopP (σ := Int × Unit) (fun st5 next4 w6 => (fun (i_7 : Int) => iteB (decide ((i_7 : Int) < (l2 : Int)))
  (idxP p1 l2 i_7 2 fun a8 => ldI .i64 a8 w6 fun n9 => ldI .i64 (a8.add 1) w6 fun n10 => (∃ (r11 : Bool), ∃ w12, (do eqGuard .neq 70 (.tmp 23) (.tmp 24) (.agg #[.int .i64 n9, .int .i64 n10]) (.agg #[.int .i64 (-31), .int .i64 0]); binOp .neq 70 (.agg #[.int .i64 n9, .int .i64 n10]) (.agg #[.int .i64 (-31), .int .i64 0])).run Try.prog w6 = .ok (.bool r11) w12 ∧ (iteB r11
  (K false w12)
  (next4 ((IntKind.i64.wrap (i_7 + 1)), ()) w12))))
  (K true w6)) st5.1) ((l_0.l : Int), ()) w)

def c_preludelaw06_tail (l_0 : Slc) (w : World) (K : Bool → World → Prop) : Prop := Calls Try.prog 35 #[.slice l_0.a l_0.l l_0.c] w (onRet (fun v w' => ∃ (y0 : Bool), v = .bool y0 ∧ K y0 w'))

theorem sim_preludelaw06_tail {l_0 : Slc} {w : World} {K : Bool → World → Prop} (h : sh_preludelaw06_tail l_0 w K) : c_preludelaw06_tail l_0 w K := by
  have e : sh_preludelaw06_tail l_0 w K = shF Try.prog 35 ⟨[], [(5, [(4, (.int .i64))], [3])], []⟩ [.slice l_0.a l_0.l l_0.c] w (fun v w' => decV .b v fun y0 => K y0 w') := by kernel_rfl
  exact Calls.mono (calls_of _ e h) (onRet_mono (fun _ _ h => decV_spec h))

-- 36 prelude/preludelaw06.wipe; callees []
def sh_preludelaw06_wipe (x_0_0 : Int) (x_0_1 : Slc) (x_0_2 : Slc) (x_0_3 : Slc) (w : World) (K : World → Prop) : Prop :=
  newP #[.int .i64 x_0_0, .slice x_0_1.a x_0_1.l x_0_1.c, .slice x_0_2.a x_0_2.l x_0_2.c, .slice x_0_3.a x_0_3.l x_0_3.c] 66 w fun a1 w2 => loopP (σ := Int × Unit) (fun st4 next3 w5 => (fun (k_6 : Int) => ldS (a1.add 1) w5 fun s7 => iteB (decide ((k_6 : Int) < (s7.l : Int)))
  (ldS (a1.add 1) w5 fun s8 => idxP s8.a s8.l k_6 1 fun a9 => stP a9 (.int .i64 (-33)) w5 fun w10 => next3 ((IntKind.i64.wrap (k_6 + 1)), ()) w10)
  (loopP (σ := Int × Unit) (fun st12 next11 w13 => (fun (k_14 : Int) => ldS (a1.add 2) w13 fun s15 => iteB (decide ((k_14 : Int) < (s15.l : Int)))
  (ldS (a1.add 2) w13 fun s16 => idxP s16.a s16.l k_14 2 fun a17 => stP a17 (.int .i64 (-33)) w13 fun w18 => stP (a17.add 1) (.int .i64 0) w18 fun w19 => next11 ((IntKind.i64.wrap (k_14 + 1)), ()) w19)
  (loopP (σ := Int × Unit) (fun st21 next20 w22 => (fun (k_23 : Int) => ldS (a1.add 3) w22 fun s24 => iteB (decide ((k_23 : Int) < (s24.l : Int)))
  (ldS (a1.add 3) w22 fun s25 => idxP s25.a s25.l k_23 2 fun a26 => stP a26 (.int .i64 (-33)) w22 fun w27 => stP (a26.add 1) (.int .i64 0) w27 fun w28 => next20 ((IntKind.i64.wrap (k_23 + 1)), ()) w28)
  (K w22)) st21.1) (0, ()) w13)) st12.1) (0, ()) w5)) st4.1) (0, ()) w2

def c_preludelaw06_wipe (x_0_0 : Int) (x_0_1 : Slc) (x_0_2 : Slc) (x_0_3 : Slc) (w : World) (K : World → Prop) : Prop := Calls Try.prog 36 #[.agg #[.int .i64 x_0_0, .slice x_0_1.a x_0_1.l x_0_1.c, .slice x_0_2.a x_0_2.l x_0_2.c, .slice x_0_3.a x_0_3.l x_0_3.c]] w (onRet (fun v w' => v = .tuple #[] ∧ K w'))

theorem sim_preludelaw06_wipe {x_0_0 : Int} {x_0_1 : Slc} {x_0_2 : Slc} {x_0_3 : Slc} {w : World} {K : World → Prop} (h : sh_preludelaw06_wipe x_0_0 x_0_1 x_0_2 x_0_3 w K) : c_preludelaw06_wipe x_0_0 x_0_1 x_0_2 x_0_3 w K := by
  have e : sh_preludelaw06_wipe x_0_0 x_0_1 x_0_2 x_0_3 w K = shF Try.prog 36 ⟨[], [(2, [(2, (.int .i64))], [1]), (6, [(3, (.int .i64))], [1]), (10, [(4, (.int .i64))], [1])], []⟩ [.agg #[.int .i64 x_0_0, .slice x_0_1.a x_0_1.l x_0_1.c, .slice x_0_2.a x_0_2.l x_0_2.c, .slice x_0_3.a x_0_3.l x_0_3.c]] w (fun v w' => decU v (K w')) := by kernel_rfl
  exact Calls.mono (calls_of _ e h) (onRet_mono (fun _ _ h => decU_spec h))

-- 14 prelude/preludelaw06.back; callees ['preludelaw06_sameBatch', 'preludelaw06_tail', 'preludelaw06_wipe']
def sh_preludelaw06_back (c_preludelaw06_sameBatch : Slc → Slc → World → (Bool → World → Prop) → Prop) (c_preludelaw06_tail : Slc → World → (Bool → World → Prop) → Prop) (c_preludelaw06_wipe : Int → Slc → Slc → Slc → World → (World → Prop) → Prop) (x_0 : Slc) (x_1 : Slc) (w : World) (K : Bool → World → Prop) : Prop :=
  c_preludelaw06_sameBatch x_0 x_1 w fun r1 w2 => iteB (!r1)
  (K r1 w2)
  (iteB ((x_1.a).isNone)
  (K r1 w2)
  (slP x_0.a x_0.l x_0.c none (some (IntKind.i64.wrap ((x_1.l : Int) + 3))) 4 fun p3 l4 c5 => loopP (σ := Bool × Int × Unit) (fun st7 next6 w8 => (fun (x9 : Bool) (x10 : Int) => iteB (decide ((x10 : Int) < (l4 : Int)))
  (iteB x9
  (idxP p3 l4 x10 4 fun a11 => ldI .i64 a11 w8 fun n12 => next6 (((n12 : Int) == (-31)), (IntKind.i64.wrap (x10 + 1)), ()) w8)
  (next6 (false, (IntKind.i64.wrap (x10 + 1)), ()) w8))
  (loopP (σ := Bool × Int × Unit) (fun st14 next13 w15 => (fun (x16 : Bool) (x17 : Int) => iteB (decide ((x17 : Int) < (x_1.l : Int)))
  (idxP x_0.a x_0.l x17 4 fun a18 => ldS (a18.add 2) w15 fun s19 => c_preludelaw06_tail s19 w15 fun r20 w21 => idxP x_0.a x_0.l x17 4 fun a22 => ldS (a22.add 3) w21 fun s23 => c_preludelaw06_tail s23 w21 fun r24 w25 => joinP (σ := Bool × Unit) (fun J26 => iteB x16
  (iteB r20
  (J26 (r24, ()) w25)
  (J26 (false, ()) w25))
  (J26 (false, ()) w25))
  (fun st27 w29 => (fun (t28 : Bool) => joinP (σ := Bool × Unit) (fun J30 => idxP x_0.a x_0.l x17 4 fun a32 => ldS (a32.add 1) w29 fun s33 => iteB (!(s33.a).isNone)
  (idxP x_0.a x_0.l x17 4 fun a34 => ldS (a34.add 1) w29.drew fun s35 => idxP x_0.a x_0.l x17 4 fun a36 => ldS (a36.add 1) w29.drew fun s37 => slP s35.a s35.l s35.c none (some (IntKind.i64.wrap ((s37.l : Int) + 3))) 1 fun p38 l39 c40 => idxP x_0.a x_0.l x17 4 fun a41 => ldS (a41.add 1) w29.drew fun s42 => loopP (σ := Bool × Int × Unit) (fun st44 next43 w45 => (fun (x46 : Bool) (x47 : Int) => iteB (decide ((x47 : Int) < (l39 : Int)))
  (iteB x46
  (idxP p38 l39 x47 1 fun a48 => ldI .i64 a48 w45 fun n49 => next43 (((n49 : Int) == (-31)), (IntKind.i64.wrap (x47 + 1)), ()) w45)
  (next43 (false, (IntKind.i64.wrap (x47 + 1)), ()) w45))
  (J30 (x46, ()) w45)) st44.1 st44.2.1) (t28, (s42.l : Int), ()) w29.drew)
  (J30 (t28, ()) w29))
  (fun st31 w51 => (fun (t50 : Bool) => idxP x_0.a x_0.l x17 4 fun a52 => ldI .i64 a52 w51 fun n53 => ldS (a52.add 1) w51 fun s54 => ldS (a52.add 2) w51 fun s55 => ldS (a52.add 3) w51 fun s56 => c_preludelaw06_wipe n53 s54 s55 s56 w51 fun w57 => idxP p3 l4 x17 4 fun a58 => stP a58 (.int .i64 (-32)) w57 fun w59 => stP (a58.add 1) (.slice none 0 0) w59 fun w60 => stP (a58.add 2) (.slice none 0 0) w60 fun w61 => stP (a58.add 3) (.slice none 0 0) w61 fun w62 => next13 (t50, (IntKind.i64.wrap (x17 + 1)), ()) w62) st31.1)) st27.1))
  (K x16 w15)) st14.1 st14.2.1) (x9, 0, ()) w8)) st7.1 st7.2.1) (r1, (x_1.l : Int), ()) w2))

def c_preludelaw06_back (x_0 : Slc) (x_1 : Slc) (w : World) (K : Bool → World → Prop) : Prop := Calls Try.prog 14 #[.slice x_0.a x_0.l x_0.c, .slice x_1.a x_1.l x_1.c] w (onRet (fun v w' => ∃ (y0 : Bool), v = .bool y0 ∧ K y0 w'))

theorem sim_preludelaw06_back {x_0 : Slc} {x_1 : Slc} {w : World} {K : Bool → World → Prop} (h : sh_preludelaw06_back c_preludelaw06_sameBatch c_preludelaw06_tail c_preludelaw06_wipe x_0 x_1 w K) : c_preludelaw06_back x_0 x_1 w K := by
  have e : sh_preludelaw06_back c_preludelaw06_sameBatch c_preludelaw06_tail c_preludelaw06_wipe x_0 x_1 w K = shF Try.prog 14 ⟨[(16, [0, 1, 2, 3, 4, 5, 6, 7, 8, 9, 10, 11, 12, 13])], [(6, [(5, .b), (7, (.int .i64))], [0, 1, 6]), (10, [(5, .b), (8, (.int .i64))], [0, 1, 6]), (18, [(5, .b), (12, (.int .i64))], [0, 1, 6, 8, 11])], [(15, [(5, .b)], [0, 1, 6, 8]), (21, [(5, .b)], [0, 1, 6, 8])]⟩ [.slice x_0.a x_0.l x_0.c, .slice x_1.a x_1.l x_1.c] w (fun v w' => decV .b v fun y0 => K y0 w') := by kernel_rfl
  exact Calls.mono (calls_of _ e h) (onRet_mono (fun _ _ h => decV_spec h))

-- 15 prelude/preluderef06.Writes; callees []
def sh_preluderef06_Writes (b_0 : Slc) (w : World) (K : Slc → World → Prop) : Prop :=
  loopP (σ := Slc × Int × Unit) (fun st2 next1 w3 => (fun (l_4 : Slc) (i_5 : Int) => iteB (decide ((i_5 : Int) < (b_0.l : Int)))
  (idxP b_0.a b_0.l i_5 4 fun a6 => ldS (a6.add 3) w3 fun s7 => newP #[.slice s7.a s7.l s7.c] 30 w3 fun a8 w9 => apP Try.prog #[26, 26] 26 [.slice l_4.a l_4.l l_4.c, .slice (some a8) 1 1] w9 fun s11 w10 => next1 (s11, (IntKind.i64.wrap (i_5 + 1)), ()) w10)
  (K l_4 w3)) st2.1 st2.2.1) (⟨none, 0, 0⟩, 0, ()) w

def c_preluderef06_Writes (b_0 : Slc) (w : World) (K : Slc → World → Prop) : Prop := Calls Try.prog 15 #[.slice b_0.a b_0.l b_0.c] w (onRet (fun v w' => ∃ (y0 : Slc), v = .slice y0.a y0.l y0.c ∧ K y0 w'))

theorem sim_preluderef06_Writes {b_0 : Slc} {w : World} {K : Slc → World → Prop} (h : sh_preluderef06_Writes b_0 w K) : c_preluderef06_Writes b_0 w K := by
  have e : sh_preluderef06_Writes b_0 w K = shF Try.prog 15 ⟨[], [(3, [(3, .sl), (4, (.int .i64))], [0])], []⟩ [.slice b_0.a b_0.l b_0.c] w (fun v w' => decV .sl v fun y0 => K y0 w') := by kernel_rfl
  exact Calls.mono (calls_of _ e h) (onRet_mono (fun _ _ h => decV_spec h))

-- 16 prelude/preluderef06.Weight; callees []
def sh_preluderef06_Weight (b_0 : Slc) (w : World) (K : Int → World → Prop) : Prop :=
  loopP (σ := Int × Int × Unit) (fun st2 next1 w3 => (fun (n_4 : Int) (i_5 : Int) => iteB (decide ((i_5 : Int) < (b_0.l : Int)))
  (idxP b_0.a b_0.l i_5 4 fun a6 => ldS (a6.add 3) w3 fun s7 => next1 ((IntKind.i64.wrap (n_4 + (s7.l : Int))), (IntKind.i64.wrap (i_5 + 1)), ()) w3)
  (K n_4 w3)) st2.1 st2.2.1) (0, 0, ()) w

def c_preluderef06_Weight (b_0 : Slc) (w : World) (K : Int → World → Prop) : Prop := Calls Try.prog 16 #[.slice b_0.a b_0.l b_0.c] w (onRet (fun v w' => ∃ (y0 : Int), v = .int .i64 y0 ∧ K y0 w'))

theorem sim_preluderef06_Weight {b_0 : Slc} {w : World} {K : Int → World → Prop} (h : sh_preluderef06_Weight b_0 w K) : c_preluderef06_Weight b_0 w K := by
  have e : sh_preluderef06_Weight b_0 w K = shF Try.prog 16 ⟨[], [(3, [(3, (.int .i64)), (4, (.int .i64))], [0])], []⟩ [.slice b_0.a b_0.l b_0.c] w (fun v w' => decV (.int .i64) v fun y0 => K y0 w') := by kernel_rfl
  exact Calls.mono (calls_of _ e h) (onRet_mono (fun _ _ h => decV_spec h))

-- 18 (*prelude/preludelaw06.shelf).sets; callees []
def sh_preludelaw06_shelf_sets (s_0 : Option Addr) (l_1 : Slc) (w : World) (K : World → Prop) : Prop :=
  nnP s_0 fun a1 => ldS (a1.add 3) w fun s2 => newP #[.slice l_1.a l_1.l l_1.c] 26 w fun a3 w4 => apP Try.prog #[34, 34] 34 [.slice s2.a s2.l s2.c, .slice (some a3) 1 1] w4 fun s6 w5 => nnP s_0 fun a7 => stP (a7.add 3) (.slice s6.a s6.l s6.c) w5 fun w8 => loopP (σ := Int × Unit) (fun st10 next9 w11 => (fun (i_12 : Int) => iteB (decide ((i_12 : Int) < (l_1.l : Int)))
  (nnP s_0 fun a13 => ldS (a13.add 1) w11.drew fun s14 => idxP l_1.a l_1.l i_12 1 fun a15 => ldS a15 w11.drew fun s16 => newP #[.slice s16.a s16.l s16.c] 30 w11.drew fun a17 w18 => w18.cell? (a13.add 1) = some (.slice s14.a s14.l s14.c) ∧ (apP Try.prog #[26, 26] 26 [.slice s14.a s14.l s14.c, .slice (some a17) 1 1] w18 fun s20 w19 => nnP s_0 fun a21 => stP (a21.add 1) (.slice s20.a s20.l s20.c) w19 fun w22 => next9 ((IntKind.i64.wrap (i_12 + 1)), ()) w22))
  (K w11)) st10.1) (0, ()) w8

def c_preludelaw06_shelf_sets (s_0 : Option Addr) (l_1 : Slc) (w : World) (K : World → Prop) : Prop := Calls Try.prog 18 #[.pointer s_0, .slice l_1.a l_1.l l_1.c] w (onRet (fun v w' => v = .tuple #[] ∧ K w'))

theorem sim_preludelaw06_shelf_sets {s_0 : Option Addr} {l_1 : Slc} {w : World} {K : World → Prop} (h : sh_preludelaw06_shelf_sets s_0 l_1 w K) : c_preludelaw06_shelf_sets s_0 l_1 w K := by
  have e : sh_preludelaw06_shelf_sets s_0 l_1 w K = shF Try.prog 18 ⟨[(4, [0, 1, 2, 3, 4, 5, 6, 7, 8, 9, 10, 11, 12, 13])], [(2, [(4, (.int .i64))], [0, 1])], []⟩ [.pointer s_0, .slice l_1.a l_1.l l_1.c] w (fun v w' => decU v (K w')) := by kernel_rfl
  exact Calls.mono (calls_of _ e h) (onRet_mono (fun _ _ h => decU_spec h))

-- 37 (*prelude/preludelaw06.shelf).fill; callees []
def sh_preludelaw06_shelf_fill (x_0 : Option Addr) (w : World) (K : World → Prop) : Prop :=
  loopP (σ := Int × Unit) (fun st2 next1 w3 => (fun (x4 : Int) => nnP x_0 fun a5 => ldS (a5.add 1) w3 fun s6 => iteB (decide ((x4 : Int) < (s6.l : Int)))
  (loopP (σ := Int × Unit) (fun st8 next7 w9 => (fun (x10 : Int) => nnP x_0 fun a11 => ldS (a11.add 1) w9 fun s12 => idxP s12.a s12.l x4 1 fun a13 => ldS a13 w9 fun s14 => iteB (decide ((x10 : Int) < (s14.l : Int)))
  (nnP x_0 fun a15 => ldS (a15.add 1) w9 fun s16 => idxP s16.a s16.l x4 1 fun a17 => ldS a17 w9 fun s18 => idxP s18.a s18.l x10 2 fun a19 => stP a19 (.int .i64 (IntKind.i64.wrap ((-50) - x4))) w9 fun w20 => stP (a19.add 1) (.int .i64 0) w20 fun w21 => next7 ((IntKind.i64.wrap (x10 + 1)), ()) w21)
  (next1 ((IntKind.i64.wrap (x4 + 1)), ()) w9)) st8.1) (0, ()) w3)
  (loopP (σ := Int × Unit) (fun st23 next22 w24 => (fun (x25 : Int) => nnP x_0 fun a26 => ldS (a26.add 2) w24 fun s27 => iteB (decide ((x25 : Int) < (s27.l : Int)))
  (loopP (σ := Int × Unit) (fun st29 next28 w30 => (fun (x31 : Int) => nnP x_0 fun a32 => ldS (a32.add 2) w30 fun s33 => idxP s33.a s33.l x25 1 fun a34 => ldS a34 w30 fun s35 => iteB (decide ((x31 : Int) < (s35.l : Int)))
  (nnP x_0 fun a36 => ldS (a36.add 2) w30 fun s37 => idxP s37.a s37.l x25 1 fun a38 => ldS a38 w30 fun s39 => idxP s39.a s39.l x31 1 fun a40 => stP a40 (.int .i64 (IntKind.i64.wrap ((-50) - x25))) w30 fun w41 => next28 ((IntKind.i64.wrap (x31 + 1)), ()) w41)
  (next22 ((IntKind.i64.wrap (x25 + 1)), ()) w30)) st29.1) (0, ()) w24)
  (loopP (σ := Int × Unit) (fun st43 next42 w44 => (fun (x45 : Int) => nnP x_0 fun a46 => ldS (a46.add 4) w44 fun s47 => iteB (decide ((x45 : Int) < (s47.l : Int)))
  (loopP (σ := Int × Unit) (fun st49 next48 w50 => (fun (x51 : Int) => nnP x_0 fun a52 => ldS (a52.add 4) w50 fun s53 => idxP s53.a s53.l x45 1 fun a54 => ldS a54 w50 fun s55 => iteB (decide ((x51 : Int) < (s55.l : Int)))
  (nnP x_0 fun a56 => ldS (a56.add 4) w50 fun s57 => idxP s57.a s57.l x45 1 fun a58 => ldS a58 w50 fun s59 => idxP s59.a s59.l x51 1 fun a60 => stP a60 (.int .u8 (IntKind.u8.wrap (IntKind.i64.wrap (x45 + 1)))) w50 fun w61 => next48 ((IntKind.i64.wrap (x51 + 1)), ()) w61)
  (next42 ((IntKind.i64.wrap (x45 + 1)), ()) w50)) st49.1) (0, ()) w44)
  (loopP (σ := Int × Unit) (fun st63 next62 w64 => (fun (x65 : Int) => nnP x_0 fun a66 => ldS a66 w64 fun s67 => iteB (decide ((x65 : Int) < (s67.l : Int)))
  (loopP (σ := Int × Unit) (fun st69 next68 w70 => (fun (x71 : Int) => nnP x_0 fun a72 => ldS a72 w70 fun s73 => idxP s73.a s73.l x65 1 fun a74 => ldS a74 w70 fun s75 => iteB (decide ((x71 : Int) < (s75.l : Int)))
  (nnP x_0 fun a76 => ldS a76 w70 fun s77 => idxP s77.a s77.l x65 1 fun a78 => ldS a78 w70 fun s79 => idxP s79.a s79.l x71 4 fun a80 => stP a80 (.int .i64 (IntKind.i64.wrap ((-50) - x65))) w70 fun w81 => stP (a80.add 1) (.slice none 0 0) w81 fun w82 => stP (a80.add 2) (.slice none 0 0) w82 fun w83 => stP (a80.add 3) (.slice none 0 0) w83 fun w84 => next68 ((IntKind.i64.wrap (x71 + 1)), ()) w84)
  (next62 ((IntKind.i64.wrap (x65 + 1)), ()) w70)) st69.1) (0, ()) w64)
  (loopP (σ := Int × Unit) (fun st86 next85 w87 => (fun (x88 : Int) => nnP x_0 fun a89 => ldS (a89.add 3) w87 fun s90 => iteB (decide ((x88 : Int) < (s90.l : Int)))
  (loopP (σ := Int × Unit) (fun st92 next91 w93 => (fun (x94 : Int) => nnP x_0 fun a95 => ldS (a95.add 3) w93 fun s96 => idxP s96.a s96.l x88 1 fun a97 => ldS a97 w93 fun s98 => iteB (decide ((x94 : Int) < (s98.l : Int)))
  (nnP x_0 fun a99 => ldS (a99.add 3) w93 fun s100 => idxP s100.a s100.l x88 1 fun a101 => ldS a101 w93 fun s102 => newP #[.int .i64 (IntKind.i64.wrap ((-50) - x88)), .int .i64 0] 70 w93 fun a103 w104 => idxP s102.a s102.l x94 1 fun a105 => stP a105 (.slice (some a103) 1 1) w104 fun w106 => next91 ((IntKind.i64.wrap (x94 + 1)), ()) w106)
  (next85 ((IntKind.i64.wrap (x88 + 1)), ()) w93)) st92.1) (0, ()) w87)
  (K w87)) st86.1) (0, ()) w64)) st63.1) (0, ()) w44)) st43.1) (0, ()) w24)) st23.1) (0, ()) w3)) st2.1) (0, ()) w

def c_preludelaw06_shelf_fill (x_0 : Option Addr) (w : World) (K : World → Prop) : Prop := Calls Try.prog 37 #[.pointer x_0] w (onRet (fun v w' => v = .tuple #[] ∧ K w'))

theorem sim_preludelaw06_shelf_fill {x_0 : Option Addr} {w : World} {K : World → Prop} (h : sh_preludelaw06_shelf_fill x_0 w K) : c_preludelaw06_shelf_fill x_0 w K := by
  have e : sh_preludelaw06_shelf_fill x_0 w K = shF Try.prog 37 ⟨[], [(1, [(2, (.int .i64))], [0]), (4, [(3, (.int .i64))], [0, 2]), (8, [(4, (.int .i64))], [0]), (11, [(5, (.int .i64))], [0, 4]), (15, [(6, (.int .i64))], [0]), (18, [(7, (.int .i64))], [0, 6]), (22, [(8, (.int .i64))], [0]), (25, [(9, (.int .i64))], [0, 8]), (29, [(10, (.int .i64))], [0]), (32, [(11, (.int .i64))], [0, 10])], []⟩ [.pointer x_0] w (fun v w' => decU v (K w')) := by kernel_rfl
  exact Calls.mono (calls_of _ e h) (onRet_mono (fun _ _ h => decU_spec h))

-- 38 (*prelude/preludelaw06.shelf).grow; callees []
def sh_preludelaw06_shelf_grow (x_0 : Option Addr) (w : World) (K : World → Prop) : Prop :=
  loopP (σ := Int × Unit) (fun st2 next1 w3 => (fun (x4 : Int) => nnP x_0 fun a5 => ldS (a5.add 1) w3 fun s6 => iteB (decide ((x4 : Int) < (s6.l : Int)))
  (nnP x_0 fun a7 => ldS (a7.add 1) w3 fun s8 => idxP s8.a s8.l x4 1 fun a9 => ldS a9 w3 fun s10 => loopP (σ := Slc × Slc × Int × Unit) (fun st12 next11 w13 => (fun (x14 : Slc) (x15 : Slc) (x16 : Int) => iteB (decide ((x16 : Int) < 24))
  (newP #[.int .i64 (IntKind.i64.wrap ((-50) - x4)), .int .i64 0] 70 w13 fun a17 w18 => apP Try.prog #[30, 30] 30 [.slice x14.a x14.l x14.c, .slice (some a17) 1 1] w18 fun s20 w19 => newP #[.int .i64 (IntKind.i64.wrap ((-50) - x4)), .int .i64 0] 70 w19 fun a21 w22 => apP Try.prog #[30, 30] 30 [.slice x15.a x15.l x15.c, .slice (some a21) 1 1] w22 fun s24 w23 => next11 (s20, s24, (IntKind.i64.wrap (x16 + 1)), ()) w23)
  (nnP x_0 fun a25 => ldS (a25.add 1) w13 fun s26 => idxP s26.a s26.l x4 1 fun a27 => ldS a27 w13 fun s28 => apP Try.prog #[30, 30] 30 [.slice s28.a s28.l s28.c, .slice x15.a x15.l x15.c] w13 fun s30 w29 => nnP x_0 fun a31 => ldS (a31.add 1) w29 fun s32 => idxP s32.a s32.l x4 1 fun a33 => ldS a33 w29 fun s34 => idxP s30.a s30.l (s34.l : Int) 2 fun a35 => stP (a35.add 1) (.int .i64 1) w29 fun w36 => next1 ((IntKind.i64.wrap (x4 + 1)), ()) w36)) st12.1 st12.2.1 st12.2.2.1) (s10, ⟨none, 0, 0⟩, 0, ()) w3)
  (loopP (σ := Int × Unit) (fun st38 next37 w39 => (fun (x40 : Int) => nnP x_0 fun a41 => ldS (a41.add 2) w39 fun s42 => iteB (decide ((x40 : Int) < (s42.l : Int)))
  (nnP x_0 fun a43 => ldS (a43.add 2) w39 fun s44 => idxP s44.a s44.l x40 1 fun a45 => ldS a45 w39 fun s46 => loopP (σ := Slc × Slc × Int × Unit) (fun st48 next47 w49 => (fun (x50 : Slc) (x51 : Slc) (x52 : Int) => iteB (decide ((x52 : Int) < 24))
  (newP #[.int .i64 (IntKind.i64.wrap ((-50) - x40))] 2 w49 fun a53 w54 => apP Try.prog #[64, 64] 64 [.slice x50.a x50.l x50.c, .slice (some a53) 1 1] w54 fun s56 w55 => newP #[.int .i64 (IntKind.i64.wrap ((-50) - x40))] 2 w55 fun a57 w58 => apP Try.prog #[64, 64] 64 [.slice x51.a x51.l x51.c, .slice (some a57) 1 1] w58 fun s60 w59 => next47 (s56, s60, (IntKind.i64.wrap (x52 + 1)), ()) w59)
  (nnP x_0 fun a61 => ldS (a61.add 2) w49 fun s62 => idxP s62.a s62.l x40 1 fun a63 => ldS a63 w49 fun s64 => apP Try.prog #[64, 64] 64 [.slice s64.a s64.l s64.c, .slice x51.a x51.l x51.c] w49 fun s66 w65 => nnP x_0 fun a67 => ldS (a67.add 2) w65 fun s68 => idxP s68.a s68.l x40 1 fun a69 => ldS a69 w65 fun s70 => idxP s66.a s66.l (s70.l : Int) 1 fun a71 => stP a71 (.int .i64 1) w65 fun w72 => next37 ((IntKind.i64.wrap (x40 + 1)), ()) w72)) st48.1 st48.2.1 st48.2.2.1) (s46, ⟨none, 0, 0⟩, 0, ()) w39)
  (loopP (σ := Int × Unit) (fun st74 next73 w75 => (fun (x76 : Int) => nnP x_0 fun a77 => ldS (a77.add 4) w75 fun s78 => iteB (decide ((x76 : Int) < (s78.l : Int)))
  (nnP x_0 fun a79 => ldS (a79.add 4) w75 fun s80 => idxP s80.a s80.l x76 1 fun a81 => ldS a81 w75 fun s82 => loopP (σ := Slc × Slc × Int × Unit) (fun st84 next83 w85 => (fun (x86 : Slc) (x87 : Slc) (x88 : Int) => iteB (decide ((x88 : Int) < 64))
  (newP #[.int .u8 (IntKind.u8.wrap (IntKind.i64.wrap (x76 + 1)))] 5 w85 fun a89 w90 => apP Try.prog #[50, 50] 50 [.slice x86.a x86.l x86.c, .slice (some a89) 1 1] w90 fun s92 w91 => newP #[.int .u8 (IntKind.u8.wrap (IntKind.i64.wrap (x76 + 1)))] 5 w91 fun a93 w94 => apP Try.prog #[50, 50] 50 [.slice x87.a x87.l x87.c, .slice (some a93) 1 1] w94 fun s96 w95 => next83 (s92, s96, (IntKind.i64.wrap (x88 + 1)), ()) w95)
  (nnP x_0 fun a97 => ldS (a97.add 4) w85 fun s98 => idxP s98.a s98.l x76 1 fun a99 => ldS a99 w85 fun s100 => apP Try.prog #[50, 50] 50 [.slice s100.a s100.l s100.c, .slice x87.a x87.l x87.c] w85 fun s102 w101 => nnP x_0 fun a103 => ldS (a103.add 4) w101 fun s104 => idxP s104.a s104.l x76 1 fun a105 => ldS a105 w101 fun s106 => idxP s102.a s102.l (s106.l : Int) 1 fun a107 => stP a107 (.int .u8 0) w101 fun w108 => next73 ((IntKind.i64.wrap (x76 + 1)), ()) w108)) st84.1 st84.2.1 st84.2.2.1) (s82, ⟨none, 0, 0⟩, 0, ()) w75)
  (loopP (σ := Int × Unit) (fun st110 next109 w111 => (fun (x112 : Int) => nnP x_0 fun a113 => ldS a113 w111 fun s114 => iteB (decide ((x112 : Int) < (s114.l : Int)))
  (nnP x_0 fun a115 => ldS a115 w111 fun s116 => idxP s116.a s116.l x112 1 fun a117 => ldS a117 w111 fun s118 => loopP (σ := Slc × Int × Unit) (fun st120 next119 w121 => (fun (x122 : Slc) (x123 : Int) => iteB (decide ((x123 : Int) < 24))
  (newP #[.int .i64 (IntKind.i64.wrap ((-50) - x112)), .slice none 0 0, .slice none 0 0, .slice none 0 0] 66 w121 fun a124 w125 => apP Try.prog #[22, 22] 22 [.slice x122.a x122.l x122.c, .slice (some a124) 1 1] w125 fun s127 w126 => next119 (s127, (IntKind.i64.wrap (x123 + 1)), ()) w126)
  (next109 ((IntKind.i64.wrap (x112 + 1)), ()) w121)) st120.1 st120.2.1) (s118, 0, ()) w111)
  (loopP (σ := Int × Unit) (fun st129 next128 w130 => (fun (x131 : Int) => nnP x_0 fun a132 => ldS (a132.add 3) w130 fun s133 => iteB (decide ((x131 : Int) < (s133.l : Int)))
  (nnP x_0 fun a134 => ldS (a134.add 3) w130 fun s135 => idxP s135.a s135.l x131 1 fun a136 => ldS a136 w130 fun s137 => loopP (σ := Slc × Int × Unit) (fun st139 next138 w140 => (fun (x141 : Slc) (x142 : Int) => iteB (decide ((x142 : Int) < 24))
  (newP #[.int .i64 (IntKind.i64.wrap ((-50) - x131)), .int .i64 0] 70 w140 fun a143 w144 => newP #[.slice (some a143) 1 1] 30 w144 fun a145 w146 => apP Try.prog #[26, 26] 26 [.slice x141.a x141.l x141.c, .slice (some a145) 1 1] w146 fun s148 w147 => next138 (s148, (IntKind.i64.wrap (x142 + 1)), ()) w147)
  (next128 ((IntKind.i64.wrap (x131 + 1)), ()) w140)) st139.1 st139.2.1) (s137, 0, ()) w130)
  (K w130)) st129.1) (0, ()) w111)) st110.1) (0, ()) w75)) st74.1) (0, ()) w39)) st38.1) (0, ()) w3)) st2.1) (0, ()) w

def c_preludelaw06_shelf_grow (x_0 : Option Addr) (w : World) (K : World → Prop) : Prop := Calls Try.prog 38 #[.pointer x_0] w (onRet (fun v w' => v = .tuple #[] ∧ K w'))

theorem sim_preludelaw06_shelf_grow {x_0 : Option Addr} {w : World} {K : World → Prop} (h : sh_preludelaw06_shelf_grow x_0 w K) : c_preludelaw06_shelf_grow x_0 w K := by
  have e : sh_preludelaw06_shelf_grow x_0 w K = shF Try.prog 38 ⟨[], [(1, [(2, (.int .i64))], [0]), (6, [(3, .sl), (4, .sl), (5, (.int .i64))], [0, 2]), (13, [(6, (.int .i64))], [0]), (18, [(7, .sl), (8, .sl), (9, (.int .i64))], [0, 6]), (25, [(10, (.int .i64))], [0]), (30, [(11, .sl), (12, .sl), (13, (.int .i64))], [0, 10]), (37, [(14, (.int .i64))], [0]), (41, [(15, .sl), (16, (.int .i64))], [0, 14]), (45, [(17, (.int .i64))], [0]), (49, [(18, .sl), (19, (.int .i64))], [0, 17])], []⟩ [.pointer x_0] w (fun v w' => decU v (K w')) := by kernel_rfl
  exact Calls.mono (calls_of _ e h) (onRet_mono (fun _ _ h => decU_spec h))

-- 19 (*prelude/preludelaw06.shelf).apart; callees ['preludelaw06_shelf_fill', 'preludelaw06_shelf_grow']
def sh_preludelaw06_shelf_apart (c_preludelaw06_shelf_fill : Option Addr → World → (World → Prop) → Prop) (c_preludelaw06_shelf_grow : Option Addr → World → (World → Prop) → Prop) (x_0 : Option Addr) (w : World) (K : Bool → World → Prop) : Prop :=
  c_preludelaw06_shelf_fill x_0 w fun w1 => c_preludelaw06_shelf_grow x_0 w1 fun w2 => loopP (σ := Int × Unit) (fun st4 next3 w5 => (fun (x6 : Int) => nnP x_0 fun a7 => ldS (a7.add 1) w5 fun s8 => iteB (decide ((x6 : Int) < (s8.l : Int)))
  (loopP (σ := Int × Unit) (fun st10 next9 w11 => (fun (x12 : Int) => nnP x_0 fun a13 => ldS (a13.add 1) w11 fun s14 => idxP s14.a s14.l x6 1 fun a15 => ldS a15 w11 fun s16 => iteB (decide ((x12 : Int) < (s16.l : Int)))
  (nnP x_0 fun a17 => ldS (a17.add 1) w11 fun s18 => idxP s18.a s18.l x6 1 fun a19 => ldS a19 w11 fun s20 => idxP s20.a s20.l x12 2 fun a21 => ldI .i64 a21 w11 fun n22 => ldI .i64 (a21.add 1) w11 fun n23 => (∃ (r24 : Bool), ∃ w25, (do eqGuard .neq 70 (.tmp 47) (.tmp 50) (.agg #[.int .i64 n22, .int .i64 n23]) (.agg #[.int .i64 (IntKind.i64.wrap ((-50) - x6)), .int .i64 0]); binOp .neq 70 (.agg #[.int .i64 n22, .int .i64 n23]) (.agg #[.int .i64 (IntKind.i64.wrap ((-50) - x6)), .int .i64 0])).run Try.prog w11 = .ok (.bool r24) w25 ∧ (iteB r24
  (K false w25)
  (next9 ((IntKind.i64.wrap (x12 + 1)), ()) w25))))
  (next3 ((IntKind.i64.wrap (x6 + 1)), ()) w11)) st10.1) (0, ()) w5)
  (loopP (σ := Int × Unit) (fun st27 next26 w28 => (fun (x29 : Int) => nnP x_0 fun a30 => ldS (a30.add 2) w28 fun s31 => iteB (decide ((x29 : Int) < (s31.l : Int)))
  (loopP (σ := Int × Unit) (fun st33 next32 w34 => (fun (x35 : Int) => nnP x_0 fun a36 => ldS (a36.add 2) w34 fun s37 => idxP s37.a s37.l x29 1 fun a38 => ldS a38 w34 fun s39 => iteB (decide ((x35 : Int) < (s39.l : Int)))
  (nnP x_0 fun a40 => ldS (a40.add 2) w34 fun s41 => idxP s41.a s41.l x29 1 fun a42 => ldS a42 w34 fun s43 => idxP s43.a s43.l x35 1 fun a44 => ldI .i64 a44 w34 fun n45 => iteB ((n45 : Int) != (IntKind.i64.wrap ((-50) - x29)))
  (K false w34)
  (next32 ((IntKind.i64.wrap (x35 + 1)), ()) w34))
  (next26 ((IntKind.i64.wrap (x29 + 1)), ()) w34)) st33.1) (0, ()) w28)
  (loopP (σ := Int × Unit) (fun st47 next46 w48 => (fun (x49 : Int) => nnP x_0 fun a50 => ldS (a50.add 4) w48 fun s51 => iteB (decide ((x49 : Int) < (s51.l : Int)))
  (loopP (σ := Int × Unit) (fun st53 next52 w54 => (fun (x55 : Int) => nnP x_0 fun a56 => ldS (a56.add 4) w54 fun s57 => idxP s57.a s57.l x49 1 fun a58 => ldS a58 w54 fun s59 => iteB (decide ((x55 : Int) < (s59.l : Int)))
  (nnP x_0 fun a60 => ldS (a60.add 4) w54 fun s61 => idxP s61.a s61.l x49 1 fun a62 => ldS a62 w54 fun s63 => idxP s63.a s63.l x55 1 fun a64 => ldI .u8 a64 w54 fun n65 => iteB ((n65 : Int) != (IntKind.u8.wrap (IntKind.i64.wrap (x49 + 1))))
  (K false w54)
  (next52 ((IntKind.i64.wrap (x55 + 1)), ()) w54))
  (next46 ((IntKind.i64.wrap (x49 + 1)), ()) w54)) st53.1) (0, ()) w48)
  (loopP (σ := Int × Unit) (fun st67 next66 w68 => (fun (x69 : Int) => nnP x_0 fun a70 => ldS a70 w68 fun s71 => iteB (decide ((x69 : Int) < (s71.l : Int)))
  (loopP (σ := Int × Unit) (fun st73 next72 w74 => (fun (x75 : Int) => nnP x_0 fun a76 => ldS a76 w74 fun s77 => idxP s77.a s77.l x69 1 fun a78 => ldS a78 w74 fun s79 => iteB (decide ((x75 : Int) < (s79.l : Int)))
  (nnP x_0 fun a80 => ldS a80 w74 fun s81 => idxP s81.a s81.l x69 1 fun a82 => ldS a82 w74 fun s83 => idxP s83.a s83.l x75 4 fun a84 => ldI .i64 a84 w74 fun n85 => iteB ((n85 : Int) != (IntKind.i64.wrap ((-50) - x69)))
  (K false w74)
  (next72 ((IntKind.i64.wrap (x75 + 1)), ()) w74))
  (next66 ((IntKind.i64.wrap (x69 + 1)), ()) w74)) st73.1) (0, ()) w68)
  (loopP (σ := Int × Unit) (fun st87 next86 w88 => (fun (x89 : Int) => nnP x_0 fun a90 => ldS (a90.add 3) w88 fun s91 => iteB (decide ((x89 : Int) < (s91.l : Int)))
  (loopP (σ := Int × Unit) (fun st93 next92 w94 => (fun (x95 : Int) => nnP x_0 fun a96 => ldS (a96.add 3) w94 fun s97 => idxP s97.a s97.l x89 1 fun a98 => ldS a98 w94 fun s99 => iteB (decide ((x95 : Int) < (s99.l : Int)))
  (nnP x_0 fun a100 => ldS (a100.add 3) w94 fun s101 => idxP s101.a s101.l x89 1 fun a102 => ldS a102 w94 fun s103 => idxP s103.a s103.l x95 1 fun a104 => ldS a104 w94 fun s105 => iteB (((s105.l : Int) : Int) != 1)
  (K false w94)
  (nnP x_0 fun a106 => ldS (a106.add 3) w94 fun s107 => idxP s107.a s107.l x89 1 fun a108 => ldS a108 w94 fun s109 => idxP s109.a s109.l x95 1 fun a110 => ldS a110 w94 fun s111 => idxP s111.a s111.l 0 2 fun a112 => ldI .i64 a112 w94 fun n113 => ldI .i64 (a112.add 1) w94 fun n114 => (∃ (r115 : Bool), ∃ w116, (do eqGuard .neq 70 (.tmp 201) (.tmp 204) (.agg #[.int .i64 n113, .int .i64 n114]) (.agg #[.int .i64 (IntKind.i64.wrap ((-50) - x89)), .int .i64 0]); binOp .neq 70 (.agg #[.int .i64 n113, .int .i64 n114]) (.agg #[.int .i64 (IntKind.i64.wrap ((-50) - x89)), .int .i64 0])).run Try.prog w94 = .ok (.bool r115) w116 ∧ (iteB r115
  (K false w116)
  (next92 ((IntKind.i64.wrap (x95 + 1)), ()) w116)))))
  (next86 ((IntKind.i64.wrap (x89 + 1)), ()) w94)) st93.1) (0, ()) w88)
  (K true w88)) st87.1) (0, ()) w68)) st67.1) (0, ()) w48)) st47.1) (0, ()) w28)) st27.1) (0, ()) w5)) st4.1) (0, ()) w2

def c_preludelaw06_shelf_apart (x_0 : Option Addr) (w : World) (K : Bool → World → Prop) : Prop := Calls Try.prog 19 #[.pointer x_0] w (onRet (fun v w' => ∃ (y0 : Bool), v = .bool y0 ∧ K y0 w'))

theorem sim_preludelaw06_shelf_apart {x_0 : Option Addr} {w : World} {K : Bool → World → Prop} (h : sh_preludelaw06_shelf_apart c_preludelaw06_shelf_fill c_preludelaw06_shelf_grow x_0 w K) : c_preludelaw06_shelf_apart x_0 w K := by
  have e : sh_preludelaw06_shelf_apart c_preludelaw06_shelf_fill c_preludelaw06_shelf_grow x_0 w K = shF Try.prog 19 ⟨[], [(4, [(3, (.int .i64))], [0]), (7, [(4, (.int .i64))], [0, 3]), (12, [(5, (.int .i64))], [0]), (15, [(6, (.int .i64))], [0, 5]), (20, [(7, (.int .i64))], [0]), (23, [(8, (.int .i64))], [0, 7]), (28, [(9, (.int .i64))], [0]), (31, [(10, (.int .i64))], [0, 9]), (36, [(11, (.int .i64))], [0]), (39, [(12, (.int .i64))], [0, 11])], []⟩ [.pointer x_0] w (fun v w' => decV .b v fun y0 => K y0 w') := by kernel_rfl
  exact Calls.mono (calls_of _ e h) (onRet_mono (fun _ _ h => decV_spec h))

-- 3 prelude/preludelaw06.BatchWeighs; callees ['preluderef06_Parts', 'preludelaw06_lent', 'batch_Weight', 'batch_Writes', 'preludelaw06_back', 'preluderef06_Writes', 'preluderef06_Weight', 'preludelaw06_sameKeys', 'preludelaw06_shelf_sets', 'preludelaw06_shelf_apart']
def sh_preludelaw06_BatchWeighs (c_preluderef06_Parts : Slc → Int → World → (Int → World → Prop) → Prop) (c_preludelaw06_lent : Slc → World → (Slc → World → Prop) → Prop) (c_batch_Weight : Slc → World → (Int → World → Prop) → Prop) (c_batch_Writes : Slc → World → (Slc → World → Prop) → Prop) (c_preludelaw06_back : Slc → Slc → World → (Bool → World → Prop) → Prop) (c_preluderef06_Writes : Slc → World → (Slc → World → Prop) → Prop) (c_preluderef06_Weight : Slc → World → (Int → World → Prop) → Prop) (c_preludelaw06_sameKeys : Slc → Slc → World → (Bool → World → Prop) → Prop) (c_preludelaw06_shelf_sets : Option Addr → Slc → World → (World → Prop) → Prop) (c_preludelaw06_shelf_apart : Option Addr → World → (Bool → World → Prop) → Prop) (x_0 : Slc) (w : World) (K : Bool → World → Prop) : Prop :=
  c_preluderef06_Parts x_0 100000 w fun r1 w2 => iteB (decide ((r1 : Int) < 0))
  (K true w2)
  (c_preludelaw06_lent x_0 w2 fun r3 w4 => c_batch_Weight r3 w4 fun r5 w6 => c_batch_Writes r3 w6 fun r7 w8 => c_batch_Writes r3 w8 fun r9 w10 => c_preludelaw06_back r3 x_0 w10 fun r11 w12 => c_preluderef06_Writes x_0 w12 fun r13 w14 => iteB (!r11)
  (K false w14)
  (c_preluderef06_Weight x_0 w14 fun r15 w16 => iteB ((r5 : Int) != r15)
  (K false w16)
  (iteB (((r7.l : Int) : Int) != (r13.l : Int))
  (K false w16)
  (iteB (((r9.l : Int) : Int) != (r13.l : Int))
  (K false w16)
  (loopP (σ := Int × Unit) (fun st18 next17 w19 => (fun (x20 : Int) => iteB (decide ((x20 : Int) < (r13.l : Int)))
  (idxP r7.a r7.l x20 1 fun a21 => ldS a21 w19.drew fun s22 => idxP r13.a r13.l x20 1 fun a23 => ldS a23 w19.drew fun s24 => c_preludelaw06_sameKeys s22 s24 w19.drew fun r25 w26 => iteB (!r25)
  (K false w26)
  (idxP r9.a r9.l x20 1 fun a27 => ldS a27 w26 fun s28 => idxP r13.a r13.l x20 1 fun a29 => ldS a29 w26 fun s30 => c_preludelaw06_sameKeys s28 s30 w26 fun r31 w32 => iteB (!r31)
  (K false w32)
  (next17 ((IntKind.i64.wrap (x20 + 1)), ()) w32)))
  (newP #[.slice none 0 0, .slice none 0 0, .slice none 0 0, .slice none 0 0, .slice none 0 0] 37 w19 fun a33 w34 => c_preludelaw06_shelf_sets (some a33) r7 w34 fun w35 => c_preludelaw06_shelf_sets (some a33) r9 w35 fun w36 => c_preludelaw06_shelf_apart (some a33) w36 fun r37 w38 => K r37 w38)) st18.1) (0, ()) w16)))))

def c_preludelaw06_BatchWeighs (x_0 : Slc) (w : World) (K : Bool → World → Prop) : Prop := Calls Try.prog 3 #[.slice x_0.a x_0.l x_0.c] w (onRet (fun v w' => ∃ (y0 : Bool), v = .bool y0 ∧ K y0 w'))

theorem sim_preludelaw06_BatchWeighs {x_0 : Slc} {w : World} {K : Bool → World → Prop} (h : sh_preludelaw06_BatchWeighs c_preluderef06_Parts c_preludelaw06_lent c_batch_Weight c_batch_Writes c_preludelaw06_back c_preluderef06_Writes c_preluderef06_Weight c_preludelaw06_sameKeys c_preludelaw06_shelf_sets c_preludelaw06_shelf_apart x_0 w K) : c_preludelaw06_BatchWeighs x_0 w K := by
  have e : sh_preludelaw06_BatchWeighs c_preluderef06_Parts c_preludelaw06_lent c_batch_Weight c_batch_Writes c_preludelaw06_back c_preluderef06_Writes c_preluderef06_Weight c_preludelaw06_sameKeys c_preludelaw06_shelf_sets c_preludelaw06_shelf_apart x_0 w K = shF Try.prog 3 ⟨[(14, [0, 1, 2, 3, 4, 5, 6, 7, 8, 9, 10, 11, 12, 13, 14, 15, 16, 17, 18, 19, 20, 21])], [(12, [(9, (.int .i64))], [5, 6, 8])], []⟩ [.slice x_0.a x_0.l x_0.c] w (fun v w' => decV .b v fun y0 => K y0 w') := by kernel_rfl
  exact Calls.mono (calls_of _ e h) (onRet_mono (fun _ _ h => decV_spec h))

-- 20 prelude/preluderef04.Parts; callees []
def sh_preluderef04_Parts (lib_0 : Slc) (left_1 : Int) (w : World) (K : Int → World → Prop) : Prop :=
  loopP (σ := Int × Int × Unit) (fun st2 next1 w3 => (fun (left_4 : Int) (i_5 : Int) => iteB (decide ((i_5 : Int) < (lib_0.l : Int)))
  (iteB (decide ((left_4 : Int) ≥ 0))
  (idxP lib_0.a lib_0.l i_5 6 fun a6 => ldStr a6 w3.drew fun s7 => idxP lib_0.a lib_0.l i_5 6 fun a8 => ldS ((a8.add 1).add 4) w3.drew fun s9 => next1 ((IntKind.i64.wrap ((IntKind.i64.wrap ((IntKind.i64.wrap (left_4 - 1)) - (s7.size : Int))) - (s9.l : Int))), (IntKind.i64.wrap (i_5 + 1)), ()) w3.drew)
  (K left_4 w3))
  (K left_4 w3)) st2.1 st2.2.1) (left_1, 0, ()) w

def c_preluderef04_Parts (lib_0 : Slc) (left_1 : Int) (w : World) (K : Int → World → Prop) : Prop := Calls Try.prog 20 #[.slice lib_0.a lib_0.l lib_0.c, .int .i64 left_1] w (onRet (fun v w' => ∃ (y0 : Int), v = .int .i64 y0 ∧ K y0 w'))

theorem sim_preluderef04_Parts {lib_0 : Slc} {left_1 : Int} {w : World} {K : Int → World → Prop} (h : sh_preluderef04_Parts lib_0 left_1 w K) : c_preluderef04_Parts lib_0 left_1 w K := by
  have e : sh_preluderef04_Parts lib_0 left_1 w K = shF Try.prog 20 ⟨[(4, [0, 1, 2, 3, 4, 5, 6, 7, 8, 9, 10, 11, 12, 13, 14, 15, 16, 17])], [(2, [(1, (.int .i64)), (5, (.int .i64))], [0])], []⟩ [.slice lib_0.a lib_0.l lib_0.c, .int .i64 left_1] w (fun v w' => decV (.int .i64) v fun y0 => K y0 w') := by kernel_rfl
  exact Calls.mono (calls_of _ e h) (onRet_mono (fun _ _ h => decV_spec h))

-- 39 prelude/batch.first; callees []
def sh_batch_first (b_0 : Slc) (wrong_1 : Value) (w : World) (K : Int → Int → World → Prop) : Prop :=
  iteB (decide (((b_0.l : Int) : Int) > 64))
  (K 0 60 w)
  (loopP (σ := Int × Unit) (fun st2 next1 w3 => (fun (x4 : Int) => iteB (decide ((x4 : Int) < (b_0.l : Int)))
  (idxP b_0.a b_0.l x4 4 fun a5 => ldI .i64 a5 w3 fun n6 => ldS (a5.add 1) w3 fun s7 => ldS (a5.add 2) w3 fun s8 => ldS (a5.add 3) w3 fun s9 => newP #[.int .i64 0, .slice none 0 0, .slice none 0 0, .slice none 0 0] 66 w3 fun a10 w11 => stP a10 (.int .i64 n6) w11 fun w12 => stP (a10.add 1) (.slice s7.a s7.l s7.c) w12 fun w13 => stP (a10.add 2) (.slice s8.a s8.l s8.c) w13 fun w14 => stP (a10.add 3) (.slice s9.a s9.l s9.c) w14 fun w15 => ldI .i64 a10 w15 fun n16 => ldS (a10.add 1) w15 fun s17 => ldS (a10.add 2) w15 fun s18 => ldS (a10.add 3) w15 fun s19 => cvP Try.prog wrong_1 [.agg #[.int .i64 n16, .slice s17.a s17.l s17.c, .slice s18.a s18.l s18.c, .slice s19.a s19.l s19.c]] w15 fun v22 w21 => ∃ (r20 : Int), v22 = .int .i64 r20 ∧ (iteB ((r20 : Int) != 0)
  (K x4 r20 w21)
  (next1 ((IntKind.i64.wrap (x4 + 1)), ()) w21)))
  (K 0 0 w3)) st2.1) (0, ()) w)

def c_batch_first (b_0 : Slc) (wrong_1 : Value) (w : World) (K : Int → Int → World → Prop) : Prop := Calls Try.prog 39 #[.slice b_0.a b_0.l b_0.c, wrong_1] w (onRet (fun v w' => ∃ (y0 : Int), ∃ (y1 : Int), v = .tuple #[.int .i64 y0, .int .i64 y1] ∧ K y0 y1 w'))

theorem sim_batch_first {b_0 : Slc} {wrong_1 : Value} {w : World} {K : Int → Int → World → Prop} (h : sh_batch_first b_0 wrong_1 w K) : c_batch_first b_0 wrong_1 w K := by
  have e : sh_batch_first b_0 wrong_1 w K = shF Try.prog 39 ⟨[], [(4, [(14, (.int .i64))], [1, 12, 13])], []⟩ [.slice b_0.a b_0.l b_0.c, wrong_1] w (fun v w' => decT [(false, [(.int .i64)]), (false, [(.int .i64)])] v fun s => (fun (y0 : Int) (y1 : Int) => K y0 y1 w') s.1 s.2.1) := by kernel_rfl
  exact Calls.mono (calls_of _ e h) (onRet_mono (fun _ _ h => by obtain ⟨s, h1, h2⟩ := decT_spec h; exact ⟨s.1, s.2.1, h1, h2⟩))

-- 21 prelude/batch.Check; callees ['batch_first']
def sh_batch_Check (c_batch_first : Slc → Value → World → (Int → Int → World → Prop) → Prop) (lib_0 : Slc) (b_1 : Slc) (w : World) (K : Int → Int → World → Prop) : Prop :=
  newP #[.slice lib_0.a lib_0.l lib_0.c] 41 w fun a1 w2 => c_batch_first b_1 (.func (.func 40) #[] #[.pointer (some a1)]) w2 fun r3 r4 w5 => K r3 r4 w5

def c_batch_Check (lib_0 : Slc) (b_1 : Slc) (w : World) (K : Int → Int → World → Prop) : Prop := Calls Try.prog 21 #[.slice lib_0.a lib_0.l lib_0.c, .slice b_1.a b_1.l b_1.c] w (onRet (fun v w' => ∃ (y0 : Int), ∃ (y1 : Int), v = .tuple #[.int .i64 y0, .int .i64 y1] ∧ K y0 y1 w'))

theorem sim_batch_Check {lib_0 : Slc} {b_1 : Slc} {w : World} {K : Int → Int → World → Prop} (h : sh_batch_Check c_batch_first lib_0 b_1 w K) : c_batch_Check lib_0 b_1 w K := by
  have e : sh_batch_Check c_batch_first lib_0 b_1 w K = shF Try.prog 21 ⟨[], [], []⟩ [.slice lib_0.a lib_0.l lib_0.c, .slice b_1.a b_1.l b_1.c] w (fun v w' => decT [(false, [(.int .i64)]), (false, [(.int .i64)])] v fun s => (fun (y0 : Int) (y1 : Int) => K y0 y1 w') s.1 s.2.1) := by kernel_rfl
  exact Calls.mono (calls_of _ e h) (onRet_mono (fun _ _ h => by obtain ⟨s, h1, h2⟩ := decT_spec h; exact ⟨s.1, s.2.1, h1, h2⟩))

-- 84 prelude/preluderef02.Check; callees []
def sh_preluderef02_Check (k_0_0 : Int) (k_0_1 : Int) (w : World) (K : Int → World → Prop) : Prop :=
  newP #[.int .i64 k_0_0, .int .i64 k_0_1] 70 w fun a1 w2 => ldI .i64 a1 w2 fun n3 => iteB (decide ((n3 : Int) < 0))
  (K 20 w2)
  (ldI .i64 a1 w2 fun n4 => iteB (decide ((n4 : Int) > 65535))
  (K 20 w2)
  (K 0 w2))

def c_preluderef02_Check (k_0_0 : Int) (k_0_1 : Int) (w : World) (K : Int → World → Prop) : Prop := Calls Try.prog 84 #[.agg #[.int .i64 k_0_0, .int .i64 k_0_1]] w (onRet (fun v w' => ∃ (y0 : Int), v = .int .i64 y0 ∧ K y0 w'))

theorem sim_preluderef02_Check {k_0_0 : Int} {k_0_1 : Int} {w : World} {K : Int → World → Prop} (h : sh_preluderef02_Check k_0_0 k_0_1 w K) : c_preluderef02_Check k_0_0 k_0_1 w K := by
  have e : sh_preluderef02_Check k_0_0 k_0_1 w K = shF Try.prog 84 ⟨[], [], []⟩ [.agg #[.int .i64 k_0_0, .int .i64 k_0_1]] w (fun v w' => decV (.int .i64) v fun y0 => K y0 w') := by kernel_rfl
  exact Calls.mono (calls_of _ e h) (onRet_mono (fun _ _ h => decV_spec h))

-- 82 prelude/preluderef02.all; callees ['preluderef02_Check']
def sh_preluderef02_all (c_preluderef02_Check : Int → Int → World → (Int → World → Prop) → Prop) (l_0 : Slc) (w : World) (K : Bool → World → Prop) : Prop :=
  loopP (σ := Int × Unit) (fun st2 next1 w3 => (fun (i_4 : Int) => iteB (decide ((i_4 : Int) < (l_0.l : Int)))
  (idxP l_0.a l_0.l i_4 2 fun a5 => ldI .i64 a5 w3 fun n6 => ldI .i64 (a5.add 1) w3 fun n7 => c_preluderef02_Check n6 n7 w3 fun r8 w9 => iteB ((r8 : Int) != 0)
  (K false w9)
  (next1 ((IntKind.i64.wrap (i_4 + 1)), ()) w9))
  (K true w3)) st2.1) (0, ()) w

def c_preluderef02_all (l_0 : Slc) (w : World) (K : Bool → World → Prop) : Prop := Calls Try.prog 82 #[.slice l_0.a l_0.l l_0.c] w (onRet (fun v w' => ∃ (y0 : Bool), v = .bool y0 ∧ K y0 w'))

theorem sim_preluderef02_all {l_0 : Slc} {w : World} {K : Bool → World → Prop} (h : sh_preluderef02_all c_preluderef02_Check l_0 w K) : c_preluderef02_all l_0 w K := by
  have e : sh_preluderef02_all c_preluderef02_Check l_0 w K = shF Try.prog 82 ⟨[], [(2, [(3, (.int .i64))], [0])], []⟩ [.slice l_0.a l_0.l l_0.c] w (fun v w' => decV .b v fun y0 => K y0 w') := by kernel_rfl
  exact Calls.mono (calls_of _ e h) (onRet_mono (fun _ _ h => decV_spec h))

-- 83 prelude/preluderef02.Compare; callees []
def sh_preluderef02_Compare (a_0_0 : Int) (a_0_1 : Int) (b_1_0 : Int) (b_1_1 : Int) (w : World) (K : Int → World → Prop) : Prop :=
  newP #[.int .i64 a_0_0, .int .i64 a_0_1] 70 w fun a1 w2 => newP #[.int .i64 b_1_0, .int .i64 b_1_1] 70 w2 fun a3 w4 => ldI .i64 a1 w4 fun n5 => ldI .i64 a3 w4 fun n6 => iteB (decide ((n5 : Int) < n6))
  (K (-1) w4)
  (ldI .i64 a1 w4 fun n7 => ldI .i64 a3 w4 fun n8 => iteB (decide ((n7 : Int) > n8))
  (K 1 w4)
  (ldI .i64 (a1.add 1) w4 fun n9 => ldI .i64 (a3.add 1) w4 fun n10 => iteB (decide ((n9 : Int) < n10))
  (K (-1) w4)
  (ldI .i64 (a1.add 1) w4 fun n11 => ldI .i64 (a3.add 1) w4 fun n12 => iteB (decide ((n11 : Int) > n12))
  (K 1 w4)
  (K 0 w4))))

def c_preluderef02_Compare (a_0_0 : Int) (a_0_1 : Int) (b_1_0 : Int) (b_1_1 : Int) (w : World) (K : Int → World → Prop) : Prop := Calls Try.prog 83 #[.agg #[.int .i64 a_0_0, .int .i64 a_0_1], .agg #[.int .i64 b_1_0, .int .i64 b_1_1]] w (onRet (fun v w' => ∃ (y0 : Int), v = .int .i64 y0 ∧ K y0 w'))

theorem sim_preluderef02_Compare {a_0_0 : Int} {a_0_1 : Int} {b_1_0 : Int} {b_1_1 : Int} {w : World} {K : Int → World → Prop} (h : sh_preluderef02_Compare a_0_0 a_0_1 b_1_0 b_1_1 w K) : c_preluderef02_Compare a_0_0 a_0_1 b_1_0 b_1_1 w K := by
  have e : sh_preluderef02_Compare a_0_0 a_0_1 b_1_0 b_1_1 w K = shF Try.prog 83 ⟨[], [], []⟩ [.agg #[.int .i64 a_0_0, .int .i64 a_0_1], .agg #[.int .i64 b_1_0, .int .i64 b_1_1]] w (fun v w' => decV (.int .i64) v fun y0 => K y0 w') := by kernel_rfl
  exact Calls.mono (calls_of _ e h) (onRet_mono (fun _ _ h => decV_spec h))

-- 71 prelude/preluderef02.Rises; callees ['preluderef02_all', 'preluderef02_Compare']
def sh_preluderef02_Rises (c_preluderef02_all : Slc → World → (Bool → World → Prop) → Prop) (c_preluderef02_Compare : Int → Int → Int → Int → World → (Int → World → Prop) → Prop) (l_0 : Slc) (w : World) (K : Bool → World → Prop) : Prop :=
  c_preluderef02_all l_0 w fun r1 w2 => loopP (σ := Bool × Int × Unit) (fun st4 next3 w5 => (fun (ok_6 : Bool) (i_7 : Int) => iteB (decide ((i_7 : Int) < (l_0.l : Int)))
  (iteB ok_6
  (idxP l_0.a l_0.l (IntKind.i64.wrap (i_7 - 1)) 2 fun a8 => ldI .i64 a8 w5.drew fun n9 => ldI .i64 (a8.add 1) w5.drew fun n10 => idxP l_0.a l_0.l i_7 2 fun a11 => ldI .i64 a11 w5.drew fun n12 => ldI .i64 (a11.add 1) w5.drew fun n13 => c_preluderef02_Compare n9 n10 n12 n13 w5.drew fun r14 w15 => next3 ((decide ((r14 : Int) < 0)), (IntKind.i64.wrap (i_7 + 1)), ()) w15)
  (next3 (false, (IntKind.i64.wrap (i_7 + 1)), ()) w5.drew))
  (K ok_6 w5)) st4.1 st4.2.1) (r1, 1, ()) w2

def c_preluderef02_Rises (l_0 : Slc) (w : World) (K : Bool → World → Prop) : Prop := Calls Try.prog 71 #[.slice l_0.a l_0.l l_0.c] w (onRet (fun v w' => ∃ (y0 : Bool), v = .bool y0 ∧ K y0 w'))

theorem sim_preluderef02_Rises {l_0 : Slc} {w : World} {K : Bool → World → Prop} (h : sh_preluderef02_Rises c_preluderef02_all c_preluderef02_Compare l_0 w K) : c_preluderef02_Rises l_0 w K := by
  have e : sh_preluderef02_Rises c_preluderef02_all c_preluderef02_Compare l_0 w K = shF Try.prog 71 ⟨[(5, [0, 1, 2, 3, 4, 5, 6, 7, 8, 9, 10, 11, 12, 13, 14])], [(3, [(3, .b), (4, (.int .i64))], [0])], []⟩ [.slice l_0.a l_0.l l_0.c] w (fun v w' => decV .b v fun y0 => K y0 w') := by kernel_rfl
  exact Calls.mono (calls_of _ e h) (onRet_mono (fun _ _ h => decV_spec h))

-- 51 prelude/preluderef06.Formed; callees ['preluderef02_Rises']
def sh_preluderef06_Formed (c_preluderef02_Rises : Slc → World → (Bool → World → Prop) → Prop) (x_0_0 : Int) (x_0_1 : Slc) (x_0_2 : Slc) (x_0_3 : Slc) (w : World) (K : Int → World → Prop) : Prop :=
  newP #[.int .i64 x_0_0, .slice x_0_1.a x_0_1.l x_0_1.c, .slice x_0_2.a x_0_2.l x_0_2.c, .slice x_0_3.a x_0_3.l x_0_3.c] 66 w fun a1 w2 => ldI .i64 a1 w2 fun n3 => iteB (decide ((n3 : Int) < 0))
  (K 61 w2)
  (ldI .i64 a1 w2 fun n4 => iteB (decide ((n4 : Int) ≥ 64))
  (K 61 w2)
  (ldS (a1.add 1) w2 fun s5 => iteB (decide (((s5.l : Int) : Int) > 16))
  (K 62 w2)
  (ldS (a1.add 2) w2 fun s6 => iteB (decide (((s6.l : Int) : Int) > 16))
  (K 63 w2)
  (ldS (a1.add 3) w2 fun s7 => iteB (decide (((s7.l : Int) : Int) > 16))
  (K 64 w2)
  (ldS (a1.add 2) w2 fun s8 => c_preluderef02_Rises s8 w2 fun r9 w10 => ldS (a1.add 3) w10 fun s11 => c_preluderef02_Rises s11 w10 fun r12 w13 => iteB (!r9)
  (K 65 w13)
  (iteB (!r12)
  (K 65 w13)
  (K 0 w13)))))))

def c_preluderef06_Formed (x_0_0 : Int) (x_0_1 : Slc) (x_0_2 : Slc) (x_0_3 : Slc) (w : World) (K : Int → World → Prop) : Prop := Calls Try.prog 51 #[.agg #[.int .i64 x_0_0, .slice x_0_1.a x_0_1.l x_0_1.c, .slice x_0_2.a x_0_2.l x_0_2.c, .slice x_0_3.a x_0_3.l x_0_3.c]] w (onRet (fun v w' => ∃ (y0 : Int), v = .int .i64 y0 ∧ K y0 w'))

theorem sim_preluderef06_Formed {x_0_0 : Int} {x_0_1 : Slc} {x_0_2 : Slc} {x_0_3 : Slc} {w : World} {K : Int → World → Prop} (h : sh_preluderef06_Formed c_preluderef02_Rises x_0_0 x_0_1 x_0_2 x_0_3 w K) : c_preluderef06_Formed x_0_0 x_0_1 x_0_2 x_0_3 w K := by
  have e : sh_preluderef06_Formed c_preluderef02_Rises x_0_0 x_0_1 x_0_2 x_0_3 w K = shF Try.prog 51 ⟨[], [], []⟩ [.agg #[.int .i64 x_0_0, .slice x_0_1.a x_0_1.l x_0_1.c, .slice x_0_2.a x_0_2.l x_0_2.c, .slice x_0_3.a x_0_3.l x_0_3.c]] w (fun v w' => decV (.int .i64) v fun y0 => K y0 w') := by kernel_rfl
  exact Calls.mono (calls_of _ e h) (onRet_mono (fun _ _ h => decV_spec h))

-- 42 prelude/preluderef06.Sound; callees ['preluderef06_Formed']
def sh_preluderef06_Sound (c_preluderef06_Formed : Int → Slc → Slc → Slc → World → (Int → World → Prop) → Prop) (lib_0 : Slc) (x_1_0 : Int) (x_1_1 : Slc) (x_1_2 : Slc) (x_1_3 : Slc) (w : World) (K : Int → World → Prop) : Prop :=
  newP #[.int .i64 x_1_0, .slice x_1_1.a x_1_1.l x_1_1.c, .slice x_1_2.a x_1_2.l x_1_2.c, .slice x_1_3.a x_1_3.l x_1_3.c] 66 w fun a1 w2 => ldI .i64 a1 w2 fun n3 => iteB (decide ((n3 : Int) < 0))
  (K 61 w2)
  (ldI .i64 a1 w2 fun n4 => iteB (decide ((n4 : Int) ≥ (lib_0.l : Int)))
  (K 61 w2)
  (ldI .i64 a1 w2 fun n5 => idxP lib_0.a lib_0.l n5 6 fun a6 => ldI .i64 (a6.add 1) w2 fun n7 => ldI .i64 ((a6.add 1).add 1) w2 fun n8 => ldI .i64 ((a6.add 1).add 2) w2 fun n9 => ldI .i64 ((a6.add 1).add 3) w2 fun n10 => ldS ((a6.add 1).add 4) w2 fun s11 => newP #[.int .i64 0, .int .i64 0, .int .i64 0, .int .i64 0, .slice none 0 0] 75 w2 fun a12 w13 => stP a12 (.int .i64 n7) w13 fun w14 => stP (a12.add 1) (.int .i64 n8) w14 fun w15 => stP (a12.add 2) (.int .i64 n9) w15 fun w16 => stP (a12.add 3) (.int .i64 n10) w16 fun w17 => stP (a12.add 4) (.slice s11.a s11.l s11.c) w17 fun w18 => ldS (a1.add 1) w18 fun s19 => ldI .i64 a12 w18 fun n20 => iteB (((s19.l : Int) : Int) != n20)
  (K 62 w18)
  (ldS (a1.add 2) w18 fun s21 => ldI .i64 (a12.add 1) w18 fun n22 => iteB (((s21.l : Int) : Int) != n22)
  (K 63 w18)
  (ldS (a1.add 3) w18 fun s23 => ldI .i64 (a12.add 2) w18 fun n24 => iteB (((s23.l : Int) : Int) != n24)
  (K 64 w18)
  (ldI .i64 a1 w18 fun n25 => ldS (a1.add 1) w18 fun s26 => ldS (a1.add 2) w18 fun s27 => ldS (a1.add 3) w18 fun s28 => c_preluderef06_Formed n25 s26 s27 s28 w18 fun r29 w30 => K r29 w30)))))

def c_preluderef06_Sound (lib_0 : Slc) (x_1_0 : Int) (x_1_1 : Slc) (x_1_2 : Slc) (x_1_3 : Slc) (w : World) (K : Int → World → Prop) : Prop := Calls Try.prog 42 #[.slice lib_0.a lib_0.l lib_0.c, .agg #[.int .i64 x_1_0, .slice x_1_1.a x_1_1.l x_1_1.c, .slice x_1_2.a x_1_2.l x_1_2.c, .slice x_1_3.a x_1_3.l x_1_3.c]] w (onRet (fun v w' => ∃ (y0 : Int), v = .int .i64 y0 ∧ K y0 w'))

theorem sim_preluderef06_Sound {lib_0 : Slc} {x_1_0 : Int} {x_1_1 : Slc} {x_1_2 : Slc} {x_1_3 : Slc} {w : World} {K : Int → World → Prop} (h : sh_preluderef06_Sound c_preluderef06_Formed lib_0 x_1_0 x_1_1 x_1_2 x_1_3 w K) : c_preluderef06_Sound lib_0 x_1_0 x_1_1 x_1_2 x_1_3 w K := by
  have e : sh_preluderef06_Sound c_preluderef06_Formed lib_0 x_1_0 x_1_1 x_1_2 x_1_3 w K = shF Try.prog 42 ⟨[], [], []⟩ [.slice lib_0.a lib_0.l lib_0.c, .agg #[.int .i64 x_1_0, .slice x_1_1.a x_1_1.l x_1_1.c, .slice x_1_2.a x_1_2.l x_1_2.c, .slice x_1_3.a x_1_3.l x_1_3.c]] w (fun v w' => decV (.int .i64) v fun y0 => K y0 w') := by kernel_rfl
  exact Calls.mono (calls_of _ e h) (onRet_mono (fun _ _ h => decV_spec h))

-- 22 prelude/preluderef06.Check; callees ['preluderef06_Sound']
def sh_preluderef06_Check (c_preluderef06_Sound : Slc → Int → Slc → Slc → Slc → World → (Int → World → Prop) → Prop) (lib_0 : Slc) (b_1 : Slc) (w : World) (K : Int → Int → World → Prop) : Prop :=
  iteB (decide (((b_1.l : Int) : Int) > 64))
  (K 0 60 w)
  (loopP (σ := Int × Unit) (fun st2 next1 w3 => (fun (i_4 : Int) => iteB (decide ((i_4 : Int) < (b_1.l : Int)))
  (idxP b_1.a b_1.l i_4 4 fun a5 => ldI .i64 a5 w3 fun n6 => ldS (a5.add 1) w3 fun s7 => ldS (a5.add 2) w3 fun s8 => ldS (a5.add 3) w3 fun s9 => c_preluderef06_Sound lib_0 n6 s7 s8 s9 w3 fun r10 w11 => iteB ((r10 : Int) != 0)
  (K i_4 r10 w11)
  (next1 ((IntKind.i64.wrap (i_4 + 1)), ()) w11))
  (K 0 0 w3)) st2.1) (0, ()) w)

def c_preluderef06_Check (lib_0 : Slc) (b_1 : Slc) (w : World) (K : Int → Int → World → Prop) : Prop := Calls Try.prog 22 #[.slice lib_0.a lib_0.l lib_0.c, .slice b_1.a b_1.l b_1.c] w (onRet (fun v w' => ∃ (y0 : Int), ∃ (y1 : Int), v = .tuple #[.int .i64 y0, .int .i64 y1] ∧ K y0 y1 w'))

theorem sim_preluderef06_Check {lib_0 : Slc} {b_1 : Slc} {w : World} {K : Int → Int → World → Prop} (h : sh_preluderef06_Check c_preluderef06_Sound lib_0 b_1 w K) : c_preluderef06_Check lib_0 b_1 w K := by
  have e : sh_preluderef06_Check c_preluderef06_Sound lib_0 b_1 w K = shF Try.prog 22 ⟨[], [(4, [(6, (.int .i64))], [0, 1])], []⟩ [.slice lib_0.a lib_0.l lib_0.c, .slice b_1.a b_1.l b_1.c] w (fun v w' => decT [(false, [(.int .i64)]), (false, [(.int .i64)])] v fun s => (fun (y0 : Int) (y1 : Int) => K y0 y1 w') s.1 s.2.1) := by kernel_rfl
  exact Calls.mono (calls_of _ e h) (onRet_mono (fun _ _ h => by obtain ⟨s, h1, h2⟩ := decT_spec h; exact ⟨s.1, s.2.1, h1, h2⟩))

-- 23 prelude/preludelaw06.num; callees []
def sh_preludelaw06_num (e_0 : Int) (w : World) (K : Int → World → Prop) : Prop :=
  K e_0 w

def c_preludelaw06_num (e_0 : Int) (w : World) (K : Int → World → Prop) : Prop := Calls Try.prog 23 #[.int .i64 e_0] w (onRet (fun v w' => ∃ (y0 : Int), v = .int .i64 y0 ∧ K y0 w'))

theorem sim_preludelaw06_num {e_0 : Int} {w : World} {K : Int → World → Prop} (h : sh_preludelaw06_num e_0 w K) : c_preludelaw06_num e_0 w K := by
  have e : sh_preludelaw06_num e_0 w K = shF Try.prog 23 ⟨[], [], []⟩ [.int .i64 e_0] w (fun v w' => decV (.int .i64) v fun y0 => K y0 w') := by kernel_rfl
  exact Calls.mono (calls_of _ e h) (onRet_mono (fun _ _ h => decV_spec h))

-- 4 prelude/preludelaw06.BatchChecks; callees ['preluderef04_Parts', 'preluderef06_Parts', 'preludelaw06_lent', 'batch_Check', 'preluderef06_Check', 'preludelaw06_num', 'preludelaw06_back']
def sh_preludelaw06_BatchChecks (c_preluderef04_Parts : Slc → Int → World → (Int → World → Prop) → Prop) (c_preluderef06_Parts : Slc → Int → World → (Int → World → Prop) → Prop) (c_preludelaw06_lent : Slc → World → (Slc → World → Prop) → Prop) (c_batch_Check : Slc → Slc → World → (Int → Int → World → Prop) → Prop) (c_preluderef06_Check : Slc → Slc → World → (Int → Int → World → Prop) → Prop) (c_preludelaw06_num : Int → World → (Int → World → Prop) → Prop) (c_preludelaw06_back : Slc → Slc → World → (Bool → World → Prop) → Prop) (lib_0 : Slc) (b_1 : Slc) (w : World) (K : Bool → World → Prop) : Prop :=
  c_preluderef04_Parts lib_0 100000 w fun r1 w2 => c_preluderef06_Parts b_1 r1 w2 fun r3 w4 => iteB (decide ((r3 : Int) < 0))
  (K true w4)
  (c_preludelaw06_lent b_1 w4 fun r5 w6 => c_batch_Check lib_0 r5 w6 fun r7 r8 w9 => c_preluderef06_Check lib_0 b_1 w9 fun r10 r11 w12 => iteB ((r7 : Int) == r10)
  (c_preludelaw06_num r8 w12 fun r13 w14 => iteB ((r13 : Int) == r11)
  (c_preludelaw06_back r5 b_1 w14 fun r15 w16 => K r15 w16)
  (K false w14))
  (K false w12))

def c_preludelaw06_BatchChecks (lib_0 : Slc) (b_1 : Slc) (w : World) (K : Bool → World → Prop) : Prop := Calls Try.prog 4 #[.slice lib_0.a lib_0.l lib_0.c, .slice b_1.a b_1.l b_1.c] w (onRet (fun v w' => ∃ (y0 : Bool), v = .bool y0 ∧ K y0 w'))

theorem sim_preludelaw06_BatchChecks {lib_0 : Slc} {b_1 : Slc} {w : World} {K : Bool → World → Prop} (h : sh_preludelaw06_BatchChecks c_preluderef04_Parts c_preluderef06_Parts c_preludelaw06_lent c_batch_Check c_preluderef06_Check c_preludelaw06_num c_preludelaw06_back lib_0 b_1 w K) : c_preludelaw06_BatchChecks lib_0 b_1 w K := by
  have e : sh_preludelaw06_BatchChecks c_preluderef04_Parts c_preluderef06_Parts c_preludelaw06_lent c_batch_Check c_preluderef06_Check c_preludelaw06_num c_preludelaw06_back lib_0 b_1 w K = shF Try.prog 4 ⟨[], [], []⟩ [.slice lib_0.a lib_0.l lib_0.c, .slice b_1.a b_1.l b_1.c] w (fun v w' => decV .b v fun y0 => K y0 w') := by kernel_rfl
  exact Calls.mono (calls_of _ e h) (onRet_mono (fun _ _ h => decV_spec h))

-- 67 prelude/keys.Check; callees []
def sh_keys_Check (k_0_0 : Int) (k_0_1 : Int) (w : World) (K : Int → World → Prop) : Prop :=
  newP #[.int .i64 k_0_0, .int .i64 k_0_1] 70 w fun a1 w2 => ldI .i64 a1 w2 fun n3 => iteB (decide ((n3 : Int) < 0))
  (K 20 w2)
  (ldI .i64 a1 w2 fun n4 => iteB (decide ((n4 : Int) > 65535))
  (K 20 w2)
  (K 0 w2))

def c_keys_Check (k_0_0 : Int) (k_0_1 : Int) (w : World) (K : Int → World → Prop) : Prop := Calls Try.prog 67 #[.agg #[.int .i64 k_0_0, .int .i64 k_0_1]] w (onRet (fun v w' => ∃ (y0 : Int), v = .int .i64 y0 ∧ K y0 w'))

theorem sim_keys_Check {k_0_0 : Int} {k_0_1 : Int} {w : World} {K : Int → World → Prop} (h : sh_keys_Check k_0_0 k_0_1 w K) : c_keys_Check k_0_0 k_0_1 w K := by
  have e : sh_keys_Check k_0_0 k_0_1 w K = shF Try.prog 67 ⟨[], [], []⟩ [.agg #[.int .i64 k_0_0, .int .i64 k_0_1]] w (fun v w' => decV (.int .i64) v fun y0 => K y0 w') := by kernel_rfl
  exact Calls.mono (calls_of _ e h) (onRet_mono (fun _ _ h => decV_spec h))

-- 98 cmp.isNaN[int]; callees []
def sh_cmp_isNaN_int (x_0 : Int) (w : World) (K : Bool → World → Prop) : Prop :=
  K ((x_0 : Int) != x_0) w

def c_cmp_isNaN_int (x_0 : Int) (w : World) (K : Bool → World → Prop) : Prop := Calls Try.prog 98 #[.int .i64 x_0] w (onRet (fun v w' => ∃ (y0 : Bool), v = .bool y0 ∧ K y0 w'))

theorem sim_cmp_isNaN_int {x_0 : Int} {w : World} {K : Bool → World → Prop} (h : sh_cmp_isNaN_int x_0 w K) : c_cmp_isNaN_int x_0 w K := by
  have e : sh_cmp_isNaN_int x_0 w K = shF Try.prog 98 ⟨[], [], []⟩ [.int .i64 x_0] w (fun v w' => decV .b v fun y0 => K y0 w') := by kernel_rfl
  exact Calls.mono (calls_of _ e h) (onRet_mono (fun _ _ h => decV_spec h))

-- 96 cmp.Compare[int]; callees ['cmp_isNaN_int']
def sh_cmp_Compare_int (c_cmp_isNaN_int : Int → World → (Bool → World → Prop) → Prop) (x_0 : Int) (y_1 : Int) (w : World) (K : Int → World → Prop) : Prop :=
  c_cmp_isNaN_int x_0 w fun r1 w2 => c_cmp_isNaN_int y_1 w2 fun r3 w4 => iteB r1
  (iteB r3
  (K 0 w4)
  (K (-1) w4))
  (iteB r3
  (K 1 w4)
  (iteB (decide ((x_0 : Int) < y_1))
  (K (-1) w4)
  (iteB (decide ((x_0 : Int) > y_1))
  (K 1 w4)
  (K 0 w4))))

def c_cmp_Compare_int (x_0 : Int) (y_1 : Int) (w : World) (K : Int → World → Prop) : Prop := Calls Try.prog 96 #[.int .i64 x_0, .int .i64 y_1] w (onRet (fun v w' => ∃ (y0 : Int), v = .int .i64 y0 ∧ K y0 w'))

theorem sim_cmp_Compare_int {x_0 : Int} {y_1 : Int} {w : World} {K : Int → World → Prop} (h : sh_cmp_Compare_int c_cmp_isNaN_int x_0 y_1 w K) : c_cmp_Compare_int x_0 y_1 w K := by
  have e : sh_cmp_Compare_int c_cmp_isNaN_int x_0 y_1 w K = shF Try.prog 96 ⟨[], [], []⟩ [.int .i64 x_0, .int .i64 y_1] w (fun v w' => decV (.int .i64) v fun y0 => K y0 w') := by kernel_rfl
  exact Calls.mono (calls_of _ e h) (onRet_mono (fun _ _ h => decV_spec h))

-- 99 cmp.isNaN[int64]; callees []
def sh_cmp_isNaN_int64 (x_0 : Int) (w : World) (K : Bool → World → Prop) : Prop :=
  K ((x_0 : Int) != x_0) w

def c_cmp_isNaN_int64 (x_0 : Int) (w : World) (K : Bool → World → Prop) : Prop := Calls Try.prog 99 #[.int .i64 x_0] w (onRet (fun v w' => ∃ (y0 : Bool), v = .bool y0 ∧ K y0 w'))

theorem sim_cmp_isNaN_int64 {x_0 : Int} {w : World} {K : Bool → World → Prop} (h : sh_cmp_isNaN_int64 x_0 w K) : c_cmp_isNaN_int64 x_0 w K := by
  have e : sh_cmp_isNaN_int64 x_0 w K = shF Try.prog 99 ⟨[], [], []⟩ [.int .i64 x_0] w (fun v w' => decV .b v fun y0 => K y0 w') := by kernel_rfl
  exact Calls.mono (calls_of _ e h) (onRet_mono (fun _ _ h => decV_spec h))

-- 97 cmp.Compare[int64]; callees ['cmp_isNaN_int64']
def sh_cmp_Compare_int64 (c_cmp_isNaN_int64 : Int → World → (Bool → World → Prop) → Prop) (x_0 : Int) (y_1 : Int) (w : World) (K : Int → World → Prop) : Prop :=
  c_cmp_isNaN_int64 x_0 w fun r1 w2 => c_cmp_isNaN_int64 y_1 w2 fun r3 w4 => iteB r1
  (iteB r3
  (K 0 w4)
  (K (-1) w4))
  (iteB r3
  (K 1 w4)
  (iteB (decide ((x_0 : Int) < y_1))
  (K (-1) w4)
  (iteB (decide ((x_0 : Int) > y_1))
  (K 1 w4)
  (K 0 w4))))

def c_cmp_Compare_int64 (x_0 : Int) (y_1 : Int) (w : World) (K : Int → World → Prop) : Prop := Calls Try.prog 97 #[.int .i64 x_0, .int .i64 y_1] w (onRet (fun v w' => ∃ (y0 : Int), v = .int .i64 y0 ∧ K y0 w'))

theorem sim_cmp_Compare_int64 {x_0 : Int} {y_1 : Int} {w : World} {K : Int → World → Prop} (h : sh_cmp_Compare_int64 c_cmp_isNaN_int64 x_0 y_1 w K) : c_cmp_Compare_int64 x_0 y_1 w K := by
  have e : sh_cmp_Compare_int64 c_cmp_isNaN_int64 x_0 y_1 w K = shF Try.prog 97 ⟨[], [], []⟩ [.int .i64 x_0, .int .i64 y_1] w (fun v w' => decV (.int .i64) v fun y0 => K y0 w') := by kernel_rfl
  exact Calls.mono (calls_of _ e h) (onRet_mono (fun _ _ h => decV_spec h))

-- 95 cmp.Or[int]; callees []
def sh_cmp_Or_int (vals_0 : Slc) (w : World) (K : Int → World → Prop) : Prop :=
  loopP (σ := Int × Unit) (fun st2 next1 w3 => (fun (x4 : Int) => iteB (decide ((x4 : Int) < (vals_0.l : Int)))
  (idxP vals_0.a vals_0.l x4 1 fun a5 => ldI .i64 a5 w3 fun n6 => iteB ((n6 : Int) != 0)
  (K n6 w3)
  (next1 ((IntKind.i64.wrap (x4 + 1)), ()) w3))
  (K 0 w3)) st2.1) (0, ()) w

def c_cmp_Or_int (vals_0 : Slc) (w : World) (K : Int → World → Prop) : Prop := Calls Try.prog 95 #[.slice vals_0.a vals_0.l vals_0.c] w (onRet (fun v w' => ∃ (y0 : Int), v = .int .i64 y0 ∧ K y0 w'))

theorem sim_cmp_Or_int {vals_0 : Slc} {w : World} {K : Int → World → Prop} (h : sh_cmp_Or_int vals_0 w K) : c_cmp_Or_int vals_0 w K := by
  have e : sh_cmp_Or_int vals_0 w K = shF Try.prog 95 ⟨[], [(3, [(8, (.int .i64))], [3, 6, 7])], []⟩ [.slice vals_0.a vals_0.l vals_0.c] w (fun v w' => decV (.int .i64) v fun y0 => K y0 w') := by kernel_rfl
  exact Calls.mono (calls_of _ e h) (onRet_mono (fun _ _ h => decV_spec h))

-- 81 prelude/keys.Compare; callees ['cmp_Compare_int', 'cmp_Compare_int64', 'cmp_Or_int']
def sh_keys_Compare (c_cmp_Compare_int : Int → Int → World → (Int → World → Prop) → Prop) (c_cmp_Compare_int64 : Int → Int → World → (Int → World → Prop) → Prop) (c_cmp_Or_int : Slc → World → (Int → World → Prop) → Prop) (a_0_0 : Int) (a_0_1 : Int) (b_1_0 : Int) (b_1_1 : Int) (w : World) (K : Int → World → Prop) : Prop :=
  newP #[.int .i64 a_0_0, .int .i64 a_0_1] 70 w fun a1 w2 => newP #[.int .i64 b_1_0, .int .i64 b_1_1] 70 w2 fun a3 w4 => ldI .i64 a1 w4 fun n5 => ldI .i64 (a1.add 1) w4 fun n6 => ldI .i64 a3 w4 fun n7 => ldI .i64 (a3.add 1) w4 fun n8 => (∃ (r9 : Bool), ∃ w10, (do eqGuard .eql 70 (.tmp 5) (.tmp 6) (.agg #[.int .i64 n5, .int .i64 n6]) (.agg #[.int .i64 n7, .int .i64 n8]); binOp .eql 70 (.agg #[.int .i64 n5, .int .i64 n6]) (.agg #[.int .i64 n7, .int .i64 n8])).run Try.prog w4 = .ok (.bool r9) w10 ∧ (iteB r9
  (K 0 w10)
  (ldI .i64 a1 w10.drew fun n11 => ldI .i64 a3 w10.drew fun n12 => ldI .i64 (a1.add 1) w10.drew fun n13 => ldI .i64 (a3.add 1) w10.drew fun n14 => c_cmp_Compare_int n11 n12 w10.drew fun r15 w16 => w16.cell? (a3.add 1) = some (.int .i64 n14) ∧ w16.cell? (a1.add 1) = some (.int .i64 n13) ∧ (c_cmp_Compare_int64 n13 n14 w16 fun r17 w18 => newP #[.int .i64 r15, .int .i64 r17] 3 w18 fun a19 w20 => c_cmp_Or_int ⟨(some a19), 2, 2⟩ w20 fun r21 w22 => K r21 w22))))

def c_keys_Compare (a_0_0 : Int) (a_0_1 : Int) (b_1_0 : Int) (b_1_1 : Int) (w : World) (K : Int → World → Prop) : Prop := Calls Try.prog 81 #[.agg #[.int .i64 a_0_0, .int .i64 a_0_1], .agg #[.int .i64 b_1_0, .int .i64 b_1_1]] w (onRet (fun v w' => ∃ (y0 : Int), v = .int .i64 y0 ∧ K y0 w'))

theorem sim_keys_Compare {a_0_0 : Int} {a_0_1 : Int} {b_1_0 : Int} {b_1_1 : Int} {w : World} {K : Int → World → Prop} (h : sh_keys_Compare c_cmp_Compare_int c_cmp_Compare_int64 c_cmp_Or_int a_0_0 a_0_1 b_1_0 b_1_1 w K) : c_keys_Compare a_0_0 a_0_1 b_1_0 b_1_1 w K := by
  have e : sh_keys_Compare c_cmp_Compare_int c_cmp_Compare_int64 c_cmp_Or_int a_0_0 a_0_1 b_1_0 b_1_1 w K = shF Try.prog 81 ⟨[(3, [0, 1, 2, 3, 5, 6, 7, 8, 4, 9, 10, 11, 12])], [], []⟩ [.agg #[.int .i64 a_0_0, .int .i64 a_0_1], .agg #[.int .i64 b_1_0, .int .i64 b_1_1]] w (fun v w' => decV (.int .i64) v fun y0 => K y0 w') := by kernel_rfl
  exact Calls.mono (calls_of _ e h) (onRet_mono (fun _ _ h => decV_spec h))

-- 66 prelude/keys.Rises; callees ['keys_Check', 'keys_Compare']
def sh_keys_Rises (c_keys_Check : Int → Int → World → (Int → World → Prop) → Prop) (c_keys_Compare : Int → Int → Int → Int → World → (Int → World → Prop) → Prop) (l_0 : Slc) (w : World) (K : Bool → World → Prop) : Prop :=
  loopP (σ := Int × Unit) (fun st2 next1 w3 => (fun (x4 : Int) => iteB (decide ((x4 : Int) < (l_0.l : Int)))
  (idxP l_0.a l_0.l x4 2 fun a5 => ldI .i64 a5 w3 fun n6 => ldI .i64 (a5.add 1) w3 fun n7 => newP #[.int .i64 0, .int .i64 0] 70 w3 fun a8 w9 => stP a8 (.int .i64 n6) w9 fun w10 => stP (a8.add 1) (.int .i64 n7) w10 fun w11 => ldI .i64 a8 w11.drew fun n12 => ldI .i64 (a8.add 1) w11.drew fun n13 => c_keys_Check n12 n13 w11.drew fun r14 w15 => iteB ((r14 : Int) != 0)
  (K false w15)
  (iteB (decide ((x4 : Int) > 0))
  (idxP l_0.a l_0.l (IntKind.i64.wrap (x4 - 1)) 2 fun a16 => ldI .i64 a16 w15 fun n17 => ldI .i64 (a16.add 1) w15 fun n18 => ldI .i64 a8 w15 fun n19 => ldI .i64 (a8.add 1) w15 fun n20 => c_keys_Compare n17 n18 n19 n20 w15 fun r21 w22 => iteB (decide ((r21 : Int) ≥ 0))
  (K false w22)
  (next1 ((IntKind.i64.wrap (x4 + 1)), ()) w22))
  (next1 ((IntKind.i64.wrap (x4 + 1)), ()) w15)))
  (K true w3)) st2.1) (0, ()) w

def c_keys_Rises (l_0 : Slc) (w : World) (K : Bool → World → Prop) : Prop := Calls Try.prog 66 #[.slice l_0.a l_0.l l_0.c] w (onRet (fun v w' => ∃ (y0 : Bool), v = .bool y0 ∧ K y0 w'))

theorem sim_keys_Rises {l_0 : Slc} {w : World} {K : Bool → World → Prop} (h : sh_keys_Rises c_keys_Check c_keys_Compare l_0 w K) : c_keys_Rises l_0 w K := by
  have e : sh_keys_Rises c_keys_Check c_keys_Compare l_0 w K = shF Try.prog 66 ⟨[(4, [0, 1, 2, 3, 4, 5, 6, 7, 8, 9, 10, 11, 12, 13, 14, 15, 16])], [(2, [(7, (.int .i64))], [0, 5, 6])], []⟩ [.slice l_0.a l_0.l l_0.c] w (fun v w' => decV .b v fun y0 => K y0 w') := by kernel_rfl
  exact Calls.mono (calls_of _ e h) (onRet_mono (fun _ _ h => decV_spec h))

-- 43 prelude/batch.formed; callees ['keys_Rises']
def sh_batch_formed (c_keys_Rises : Slc → World → (Bool → World → Prop) → Prop) (x_0_0 : Int) (x_0_1 : Slc) (x_0_2 : Slc) (x_0_3 : Slc) (w : World) (K : Int → World → Prop) : Prop :=
  newP #[.int .i64 x_0_0, .slice x_0_1.a x_0_1.l x_0_1.c, .slice x_0_2.a x_0_2.l x_0_2.c, .slice x_0_3.a x_0_3.l x_0_3.c] 66 w fun a1 w2 => ldI .i64 a1 w2 fun n3 => iteB (decide ((n3 : Int) < 0))
  (K 61 w2)
  (ldI .i64 a1 w2 fun n4 => iteB (decide ((n4 : Int) ≥ 64))
  (K 61 w2)
  (ldS (a1.add 1) w2 fun s5 => iteB (decide (((s5.l : Int) : Int) > 16))
  (K 62 w2)
  (ldS (a1.add 2) w2 fun s6 => iteB (decide (((s6.l : Int) : Int) > 16))
  (K 63 w2)
  (ldS (a1.add 3) w2 fun s7 => iteB (decide (((s7.l : Int) : Int) > 16))
  (K 64 w2)
  (ldS (a1.add 2) w2 fun s8 => c_keys_Rises s8 w2 fun r9 w10 => iteB (!r9)
  (K 65 w10)
  (ldS (a1.add 3) w10 fun s11 => c_keys_Rises s11 w10 fun r12 w13 => iteB (!r12)
  (K 65 w13)
  (K 0 w13)))))))

def c_batch_formed (x_0_0 : Int) (x_0_1 : Slc) (x_0_2 : Slc) (x_0_3 : Slc) (w : World) (K : Int → World → Prop) : Prop := Calls Try.prog 43 #[.agg #[.int .i64 x_0_0, .slice x_0_1.a x_0_1.l x_0_1.c, .slice x_0_2.a x_0_2.l x_0_2.c, .slice x_0_3.a x_0_3.l x_0_3.c]] w (onRet (fun v w' => ∃ (y0 : Int), v = .int .i64 y0 ∧ K y0 w'))

theorem sim_batch_formed {x_0_0 : Int} {x_0_1 : Slc} {x_0_2 : Slc} {x_0_3 : Slc} {w : World} {K : Int → World → Prop} (h : sh_batch_formed c_keys_Rises x_0_0 x_0_1 x_0_2 x_0_3 w K) : c_batch_formed x_0_0 x_0_1 x_0_2 x_0_3 w K := by
  have e : sh_batch_formed c_keys_Rises x_0_0 x_0_1 x_0_2 x_0_3 w K = shF Try.prog 43 ⟨[], [], []⟩ [.agg #[.int .i64 x_0_0, .slice x_0_1.a x_0_1.l x_0_1.c, .slice x_0_2.a x_0_2.l x_0_2.c, .slice x_0_3.a x_0_3.l x_0_3.c]] w (fun v w' => decV (.int .i64) v fun y0 => K y0 w') := by kernel_rfl
  exact Calls.mono (calls_of _ e h) (onRet_mono (fun _ _ h => decV_spec h))

-- 41 prelude/batch.fits; callees ['batch_formed']
def sh_batch_fits (c_batch_formed : Int → Slc → Slc → Slc → World → (Int → World → Prop) → Prop) (lib_0 : Slc) (x_1_0 : Int) (x_1_1 : Slc) (x_1_2 : Slc) (x_1_3 : Slc) (w : World) (K : Int → World → Prop) : Prop :=
  newP #[.int .i64 x_1_0, .slice x_1_1.a x_1_1.l x_1_1.c, .slice x_1_2.a x_1_2.l x_1_2.c, .slice x_1_3.a x_1_3.l x_1_3.c] 66 w fun a1 w2 => ldI .i64 a1 w2 fun n3 => iteB (decide ((n3 : Int) < 0))
  (K 61 w2)
  (ldI .i64 a1 w2 fun n4 => iteB (decide ((n4 : Int) ≥ (lib_0.l : Int)))
  (K 61 w2)
  (ldI .i64 a1 w2 fun n5 => idxP lib_0.a lib_0.l n5 6 fun a6 => ldI .i64 (a6.add 1) w2 fun n7 => ldI .i64 ((a6.add 1).add 1) w2 fun n8 => ldI .i64 ((a6.add 1).add 2) w2 fun n9 => ldI .i64 ((a6.add 1).add 3) w2 fun n10 => ldS ((a6.add 1).add 4) w2 fun s11 => newP #[.int .i64 0, .int .i64 0, .int .i64 0, .int .i64 0, .slice none 0 0] 75 w2 fun a12 w13 => stP a12 (.int .i64 n7) w13 fun w14 => stP (a12.add 1) (.int .i64 n8) w14 fun w15 => stP (a12.add 2) (.int .i64 n9) w15 fun w16 => stP (a12.add 3) (.int .i64 n10) w16 fun w17 => stP (a12.add 4) (.slice s11.a s11.l s11.c) w17 fun w18 => ldS (a1.add 1) w18 fun s19 => ldI .i64 a12 w18 fun n20 => iteB (((s19.l : Int) : Int) != n20)
  (K 62 w18)
  (ldS (a1.add 2) w18 fun s21 => ldI .i64 (a12.add 1) w18 fun n22 => iteB (((s21.l : Int) : Int) != n22)
  (K 63 w18)
  (ldS (a1.add 3) w18 fun s23 => ldI .i64 (a12.add 2) w18 fun n24 => iteB (((s23.l : Int) : Int) != n24)
  (K 64 w18)
  (ldI .i64 a1 w18 fun n25 => ldS (a1.add 1) w18 fun s26 => ldS (a1.add 2) w18 fun s27 => ldS (a1.add 3) w18 fun s28 => c_batch_formed n25 s26 s27 s28 w18 fun r29 w30 => K r29 w30)))))

def c_batch_fits (lib_0 : Slc) (x_1_0 : Int) (x_1_1 : Slc) (x_1_2 : Slc) (x_1_3 : Slc) (w : World) (K : Int → World → Prop) : Prop := Calls Try.prog 41 #[.slice lib_0.a lib_0.l lib_0.c, .agg #[.int .i64 x_1_0, .slice x_1_1.a x_1_1.l x_1_1.c, .slice x_1_2.a x_1_2.l x_1_2.c, .slice x_1_3.a x_1_3.l x_1_3.c]] w (onRet (fun v w' => ∃ (y0 : Int), v = .int .i64 y0 ∧ K y0 w'))

theorem sim_batch_fits {lib_0 : Slc} {x_1_0 : Int} {x_1_1 : Slc} {x_1_2 : Slc} {x_1_3 : Slc} {w : World} {K : Int → World → Prop} (h : sh_batch_fits c_batch_formed lib_0 x_1_0 x_1_1 x_1_2 x_1_3 w K) : c_batch_fits lib_0 x_1_0 x_1_1 x_1_2 x_1_3 w K := by
  have e : sh_batch_fits c_batch_formed lib_0 x_1_0 x_1_1 x_1_2 x_1_3 w K = shF Try.prog 41 ⟨[], [], []⟩ [.slice lib_0.a lib_0.l lib_0.c, .agg #[.int .i64 x_1_0, .slice x_1_1.a x_1_1.l x_1_1.c, .slice x_1_2.a x_1_2.l x_1_2.c, .slice x_1_3.a x_1_3.l x_1_3.c]] w (fun v w' => decV (.int .i64) v fun y0 => K y0 w') := by kernel_rfl
  exact Calls.mono (calls_of _ e h) (onRet_mono (fun _ _ h => decV_spec h))

-- 40 prelude/batch.Check$1; callees ['batch_fits']
def sh_batch_Check_1 (c_batch_fits : Slc → Int → Slc → Slc → Slc → World → (Int → World → Prop) → Prop) (x_0_0 : Int) (x_0_1 : Slc) (x_0_2 : Slc) (x_0_3 : Slc) (cap_0 : Addr) (w : World) (K : Int → World → Prop) : Prop :=
  newP #[.int .i64 x_0_0, .slice x_0_1.a x_0_1.l x_0_1.c, .slice x_0_2.a x_0_2.l x_0_2.c, .slice x_0_3.a x_0_3.l x_0_3.c] 66 w fun a1 w2 => ldS cap_0 w2 fun s3 => ldI .i64 a1 w2 fun n4 => ldS (a1.add 1) w2 fun s5 => ldS (a1.add 2) w2 fun s6 => ldS (a1.add 3) w2 fun s7 => c_batch_fits s3 n4 s5 s6 s7 w2 fun r8 w9 => K r8 w9

def c_batch_Check_1 (x_0_0 : Int) (x_0_1 : Slc) (x_0_2 : Slc) (x_0_3 : Slc) (cap_0 : Addr) (w : World) (K : Int → World → Prop) : Prop := Calls Try.prog 40 #[.agg #[.int .i64 x_0_0, .slice x_0_1.a x_0_1.l x_0_1.c, .slice x_0_2.a x_0_2.l x_0_2.c, .slice x_0_3.a x_0_3.l x_0_3.c], .pointer (some cap_0)] w (onRet (fun v w' => ∃ (y0 : Int), v = .int .i64 y0 ∧ K y0 w'))

theorem sim_batch_Check_1 {x_0_0 : Int} {x_0_1 : Slc} {x_0_2 : Slc} {x_0_3 : Slc} {cap_0 : Addr} {w : World} {K : Int → World → Prop} (h : sh_batch_Check_1 c_batch_fits x_0_0 x_0_1 x_0_2 x_0_3 cap_0 w K) : c_batch_Check_1 x_0_0 x_0_1 x_0_2 x_0_3 cap_0 w K := by
  have e : sh_batch_Check_1 c_batch_fits x_0_0 x_0_1 x_0_2 x_0_3 cap_0 w K = shF Try.prog 40 ⟨[], [], []⟩ [.agg #[.int .i64 x_0_0, .slice x_0_1.a x_0_1.l x_0_1.c, .slice x_0_2.a x_0_2.l x_0_2.c, .slice x_0_3.a x_0_3.l x_0_3.c], .pointer (some cap_0)] w (fun v w' => decV (.int .i64) v fun y0 => K y0 w') := by kernel_rfl
  exact Calls.mono (calls_of _ e h) (onRet_mono (fun _ _ h => decV_spec h))

end Go.Proofs.Ytlnhecbgjjglfaa
