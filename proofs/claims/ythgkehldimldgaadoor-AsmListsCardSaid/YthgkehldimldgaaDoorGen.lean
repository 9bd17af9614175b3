import Derived.Test.YthgkehldimldgaaDoorProg
import Derived.Test.YthgkehldimldgaaDoorSh
set_option linter.unusedVariables false
namespace Go.Proofs.YthgkehldimldgaaDoor
open Go Go.Sh
-- 4 prelude/preluderef04.Parts; callees []
def sh_preluderef04_Parts (lib_0 : Slc) (left_1 : Int) (w : World) (K : Int → World → Prop) : Prop :=
  loopP (σ := Int × Int × Unit) (fun st2 next1 w3 => (fun (left_4 : Int) (i_5 : Int) => iteB (decide ((i_5 : Int) < (lib_0.l : Int)))
  (iteB (decide ((left_4 : Int) ≥ 0))
  (idxP lib_0.a lib_0.l i_5 6 fun a6 => ldStr a6 w3.drew fun s7 => idxP lib_0.a lib_0.l i_5 6 fun a8 => ldS ((a8.add 1).add 4) w3.drew fun s9 => next1 ((IntKind.i64.wrap ((IntKind.i64.wrap ((IntKind.i64.wrap (left_4 - 1)) - (s7.size : Int))) - (s9.l : Int))), (IntKind.i64.wrap (i_5 + 1)), ()) w3.drew)
  (K left_4 w3))
  (K left_4 w3)) st2.1 st2.2.1) (left_1, 0, ()) w

def c_preluderef04_Parts (lib_0 : Slc) (left_1 : Int) (w : World) (K : Int → World → Prop) : Prop := Calls Tryd.prog 4 #[.slice lib_0.a lib_0.l lib_0.c, .int .i64 left_1] w (onRet (fun v w' => ∃ (y0 : Int), v = .int .i64 y0 ∧ K y0 w'))

theorem sim_preluderef04_Parts {lib_0 : Slc} {left_1 : Int} {w : World} {K : Int → World → Prop} (h : sh_preluderef04_Parts lib_0 left_1 w K) : c_preluderef04_Parts lib_0 left_1 w K := by
  have e : sh_preluderef04_Parts lib_0 left_1 w K = shF Tryd.prog 4 ⟨[(4, .of [0, 1, 2, 3, 4, 5, 6, 7, 8, 9, 10, 11, 12, 13, 14, 15, 16, 17])], [(2, [(1, (.int .i64)), (5, (.int .i64))], [0])], []⟩ [.slice lib_0.a lib_0.l lib_0.c, .int .i64 left_1] w (fun v w' => decV (.int .i64) v fun y0 => K y0 w') := by kernel_rfl
  exact Calls.mono (calls_of _ e h) (onRet_mono (fun _ _ h => decV_spec h))

-- 5 prelude/preludelaw04.lent; callees []
def sh_preludelaw04_lent (x_0 : Slc) (w : World) (K : Slc → World → Prop) : Prop :=
  iteB ((x_0.a).isNone)
  (K ⟨none, 0, 0⟩ w)
  (mkP Tryd.prog 22 (.int .i64 (IntKind.i64.wrap ((x_0.l : Int) + 3))) (.int .i64 (IntKind.i64.wrap ((x_0.l : Int) + 3))) w fun s1 w2 => loopP (σ := Int × Unit) (fun st4 next3 w5 => (fun (x6 : Int) => iteB (decide ((x6 : Int) < (s1.l : Int)))
  (idxP s1.a s1.l x6 6 fun a7 => stP a7 (.string (ByteArray.mk #[45])) w5 fun w8 => stP (a7.add 1) (.int .i64 (IntKind.i64.wrap (0 - x6))) w8 fun w9 => stP (a7.add 2) (.int .i64 0) w9 fun w10 => stP (a7.add 3) (.int .i64 0) w10 fun w11 => stP (a7.add 4) (.int .i64 0) w11 fun w12 => stP (a7.add 5) (.slice none 0 0) w12 fun w13 => next3 ((IntKind.i64.wrap (x6 + 1)), ()) w13)
  (loopP (σ := Int × Unit) (fun st15 next14 w16 => (fun (x17 : Int) => iteB (decide ((x17 : Int) < (x_0.l : Int)))
  (idxP x_0.a x_0.l x17 6 fun a18 => ldStr a18 w16 fun s19 => ldI .i64 (a18.add 1) w16 fun n20 => ldI .i64 (a18.add 2) w16 fun n21 => ldI .i64 (a18.add 3) w16 fun n22 => ldI .i64 (a18.add 4) w16 fun n23 => ldS (a18.add 5) w16 fun s24 => idxP s1.a s1.l x17 6 fun a25 => stP a25 (.string s19) w16 fun w26 => stP (a25.add 1) (.int .i64 n20) w26 fun w27 => stP (a25.add 2) (.int .i64 n21) w27 fun w28 => stP (a25.add 3) (.int .i64 n22) w28 fun w29 => stP (a25.add 4) (.int .i64 n23) w29 fun w30 => stP (a25.add 5) (.slice s24.a s24.l s24.c) w30 fun w31 => idxP x_0.a x_0.l x17 6 fun a32 => ldS ((a32.add 1).add 4) w31 fun s33 => iteB ((s33.a).isNone)
  (next14 ((IntKind.i64.wrap (x17 + 1)), ()) w31)
  (idxP x_0.a x_0.l x17 6 fun a34 => ldS ((a34.add 1).add 4) w31 fun s35 => mkP Tryd.prog 33 (.int .i64 (IntKind.i64.wrap ((s35.l : Int) + 3))) (.int .i64 (IntKind.i64.wrap ((s35.l : Int) + 3))) w31 fun s36 w37 => loopP (σ := Int × Unit) (fun st39 next38 w40 => (fun (x41 : Int) => iteB (decide ((x41 : Int) < (s36.l : Int)))
  (idxP s36.a s36.l x41 2 fun a42 => stP a42 (.int .i64 (-7)) w40 fun w43 => stP (a42.add 1) (.int .i64 x41) w43 fun w44 => next38 ((IntKind.i64.wrap (x41 + 1)), ()) w44)
  (idxP x_0.a x_0.l x17 6 fun a45 => ldS ((a45.add 1).add 4) w40 fun s46 => cpP Tryd.prog #[33, 33] 3 [.slice s36.a s36.l s36.c, .slice s46.a s46.l s46.c] w40 fun n48 w47 => idxP x_0.a x_0.l x17 6 fun a49 => ldS ((a49.add 1).add 4) w47 fun s50 => slP s36.a s36.l s36.c none (some (s50.l : Int)) 2 fun p51 l52 c53 => idxP s1.a s1.l x17 6 fun a54 => stP ((a54.add 1).add 4) (.slice p51 l52 c53) w47 fun w55 => next14 ((IntKind.i64.wrap (x17 + 1)), ()) w55)) st39.1) (0, ()) w37))
  (slP s1.a s1.l s1.c none (some (x_0.l : Int)) 6 fun p56 l57 c58 => K ⟨p56, l57, c58⟩ w16)) st15.1) (0, ()) w5)) st4.1) (0, ()) w2)

def c_preludelaw04_lent (x_0 : Slc) (w : World) (K : Slc → World → Prop) : Prop := Calls Tryd.prog 5 #[.slice x_0.a x_0.l x_0.c] w (onRet (fun v w' => ∃ (y0 : Slc), v = .slice y0.a y0.l y0.c ∧ K y0 w'))

theorem sim_preludelaw04_lent {x_0 : Slc} {w : World} {K : Slc → World → Prop} (h : sh_preludelaw04_lent x_0 w K) : c_preludelaw04_lent x_0 w K := by
  have e : sh_preludelaw04_lent x_0 w K = shF Tryd.prog 5 ⟨[], [(5, [(4, (.int .i64))], [0, 3]), (9, [(5, (.int .i64))], [0, 3]), (15, [(7, (.int .i64))], [0, 3, 5, 6])], []⟩ [.slice x_0.a x_0.l x_0.c] w (fun v w' => decV .sl v fun y0 => K y0 w') := by kernel_rfl
  exact Calls.mono (calls_of _ e h) (onRet_mono (fun _ _ h => decV_spec h))

-- 17 prelude/lang.isName; callees []
def sh_lang_isName (s_0 : ByteArray) (w : World) (K : Bool → World → Prop) : Prop :=
  iteB ((s_0).toList == (ByteArray.mk #[]).toList)
  (K false w)
  (iteB (decide (((s_0.size : Int) : Int) > 31))
  (K false w)
  (loopP (σ := Int × Unit) (fun st2 next1 w3 => (fun (i_4 : Int) => iteB (decide ((i_4 : Int) < (s_0.size : Int)))
  (chP s_0 i_4 fun b5 => iteB (decide ((b5 : Int) ≥ 97))
  (iteB (decide ((b5 : Int) ≤ 122))
  (next1 ((IntKind.i64.wrap (i_4 + 1)), ()) w3)
  (iteB (decide ((b5 : Int) ≥ 65))
  (iteB (!(decide ((b5 : Int) ≤ 90)))
  (iteB ((i_4 : Int) == 0)
  (K false w3)
  (iteB ((b5 : Int) != 95)
  (iteB (decide ((b5 : Int) < 48))
  (K false w3)
  (iteB (decide ((b5 : Int) > 57))
  (K false w3)
  (next1 ((IntKind.i64.wrap (i_4 + 1)), ()) w3)))
  (next1 ((IntKind.i64.wrap (i_4 + 1)), ()) w3)))
  (next1 ((IntKind.i64.wrap (i_4 + 1)), ()) w3))
  (iteB ((i_4 : Int) == 0)
  (K false w3)
  (iteB ((b5 : Int) != 95)
  (iteB (decide ((b5 : Int) < 48))
  (K false w3)
  (iteB (decide ((b5 : Int) > 57))
  (K false w3)
  (next1 ((IntKind.i64.wrap (i_4 + 1)), ()) w3)))
  (next1 ((IntKind.i64.wrap (i_4 + 1)), ()) w3)))))
  (iteB (decide ((b5 : Int) ≥ 65))
  (iteB (!(decide ((b5 : Int) ≤ 90)))
  (iteB ((i_4 : Int) == 0)
  (K false w3)
  (iteB ((b5 : Int) != 95)
  (iteB (decide ((b5 : Int) < 48))
  (K false w3)
  (iteB (decide ((b5 : Int) > 57))
  (K false w3)
  (next1 ((IntKind.i64.wrap (i_4 + 1)), ()) w3)))
  (next1 ((IntKind.i64.wrap (i_4 + 1)), ()) w3)))
  (next1 ((IntKind.i64.wrap (i_4 + 1)), ()) w3))
  (iteB ((i_4 : Int) == 0)
  (K false w3)
  (iteB ((b5 : Int) != 95)
  (iteB (decide ((b5 : Int) < 48))
  (K false w3)
  (iteB (decide ((b5 : Int) > 57))
  (K false w3)
  (next1 ((IntKind.i64.wrap (i_4 + 1)), ()) w3)))
  (next1 ((IntKind.i64.wrap (i_4 + 1)), ()) w3)))))
  (K true w3)) st2.1) (0, ()) w))

def c_lang_isName (s_0 : ByteArray) (w : World) (K : Bool → World → Prop) : Prop := Calls Tryd.prog 17 #[.string s_0] w (onRet (fun v w' => ∃ (y0 : Bool), v = .bool y0 ∧ K y0 w'))

theorem sim_lang_isName {s_0 : ByteArray} {w : World} {K : Bool → World → Prop} (h : sh_lang_isName s_0 w K) : c_lang_isName s_0 w K := by
  have e : sh_lang_isName s_0 w K = shF Tryd.prog 17 ⟨[], [(4, [(3, (.int .i64))], [0])], []⟩ [.string s_0] w (fun v w' => decV .b v fun y0 => K y0 w') := by kernel_rfl
  exact Calls.mono (calls_of _ e h) (onRet_mono (fun _ _ h => decV_spec h))

-- 39 prelude/lang.within; callees []
def sh_lang_within (n_0 : Int) (most_1 : Int) (w : World) (K : Bool → World → Prop) : Prop :=
  iteB (decide ((n_0 : Int) ≥ 0))
  (K (decide ((n_0 : Int) ≤ most_1)) w)
  (K false w)

def c_lang_within (n_0 : Int) (most_1 : Int) (w : World) (K : Bool → World → Prop) : Prop := Calls Tryd.prog 39 #[.int .i64 n_0, .int .i64 most_1] w (onRet (fun v w' => ∃ (y0 : Bool), v = .bool y0 ∧ K y0 w'))

theorem sim_lang_within {n_0 : Int} {most_1 : Int} {w : World} {K : Bool → World → Prop} (h : sh_lang_within n_0 most_1 w K) : c_lang_within n_0 most_1 w K := by
  have e : sh_lang_within n_0 most_1 w K = shF Tryd.prog 39 ⟨[], [], []⟩ [.int .i64 n_0, .int .i64 most_1] w (fun v w' => decV .b v fun y0 => K y0 w') := by kernel_rfl
  exact Calls.mono (calls_of _ e h) (onRet_mono (fun _ _ h => decV_spec h))

-- 38 prelude/lang.sizes; callees ['lang_within']
def sh_lang_sizes (c_lang_within : Int → Int → World → (Bool → World → Prop) → Prop) (p_0_0 : Int) (p_0_1 : Int) (p_0_2 : Int) (p_0_3 : Int) (p_0_4 : Slc) (w : World) (K : Int → World → Prop) : Prop :=
  newP #[.int .i64 p_0_0, .int .i64 p_0_1, .int .i64 p_0_2, .int .i64 p_0_3, .slice p_0_4.a p_0_4.l p_0_4.c] 35 w fun a1 w2 => ldI .i64 a1 w2 fun n3 => c_lang_within n3 16 w2 fun r4 w5 => iteB r4
  (ldI .i64 (a1.add 1) w5 fun n6 => c_lang_within n6 16 w5 fun r7 w8 => iteB r7
  (ldI .i64 (a1.add 2) w8 fun n9 => c_lang_within n9 16 w8 fun r10 w11 => iteB r10
  (ldI .i64 (a1.add 3) w11 fun n12 => c_lang_within n12 16 w11 fun r13 w14 => iteB (!r13)
  (K 30 w14)
  (ldS (a1.add 4) w14 fun s15 => iteB (decide (((s15.l : Int) : Int) > 256))
  (K 30 w14)
  (K 0 w14)))
  (K 30 w11))
  (K 30 w8))
  (K 30 w5)

def c_lang_sizes (p_0_0 : Int) (p_0_1 : Int) (p_0_2 : Int) (p_0_3 : Int) (p_0_4 : Slc) (w : World) (K : Int → World → Prop) : Prop := Calls Tryd.prog 38 #[.agg #[.int .i64 p_0_0, .int .i64 p_0_1, .int .i64 p_0_2, .int .i64 p_0_3, .slice p_0_4.a p_0_4.l p_0_4.c]] w (onRet (fun v w' => ∃ (y0 : Int), v = .int .i64 y0 ∧ K y0 w'))

theorem sim_lang_sizes {p_0_0 : Int} {p_0_1 : Int} {p_0_2 : Int} {p_0_3 : Int} {p_0_4 : Slc} {w : World} {K : Int → World → Prop} (h : sh_lang_sizes c_lang_within p_0_0 p_0_1 p_0_2 p_0_3 p_0_4 w K) : c_lang_sizes p_0_0 p_0_1 p_0_2 p_0_3 p_0_4 w K := by
  have e : sh_lang_sizes c_lang_within p_0_0 p_0_1 p_0_2 p_0_3 p_0_4 w K = shF Tryd.prog 38 ⟨[], [], []⟩ [.agg #[.int .i64 p_0_0, .int .i64 p_0_1, .int .i64 p_0_2, .int .i64 p_0_3, .slice p_0_4.a p_0_4.l p_0_4.c]] w (fun v w' => decV (.int .i64) v fun y0 => K y0 w') := by kernel_rfl
  exact Calls.mono (calls_of _ e h) (onRet_mono (fun _ _ h => decV_spec h))

-- 40 prelude/lang.argument; callees []
def sh_lang_argument (p_0_0 : Int) (p_0_1 : Int) (p_0_2 : Int) (p_0_3 : Int) (p_0_4 : Slc) (at_1 : Int) (w : World) (K : Int → World → Prop) : Prop :=
  newP #[.int .i64 p_0_0, .int .i64 p_0_1, .int .i64 p_0_2, .int .i64 p_0_3, .slice p_0_4.a p_0_4.l p_0_4.c] 35 w fun a1 w2 => ldS (a1.add 4) w2 fun s3 => idxP s3.a s3.l at_1 2 fun a4 => ldI .i64 a4 w2 fun n5 => ldI .i64 (a4.add 1) w2 fun n6 => newP #[.int .i64 0, .int .i64 0] 39 w2 fun a7 w8 => stP a7 (.int .i64 n5) w8 fun w9 => stP (a7.add 1) (.int .i64 n6) w9 fun w10 => ldI .i64 a7 w10 fun n11 => iteB ((n11 : Int) == 1)
  (K 0 w10)
  (iteB ((n11 : Int) == 30)
  (ldI .i64 (a7.add 1) w10 fun n12 => iteB (decide ((n12 : Int) ≤ at_1))
  (K 33 w10)
  (ldI .i64 (a7.add 1) w10 fun n13 => ldS (a1.add 4) w10 fun s14 => iteB (decide ((n13 : Int) > (s14.l : Int)))
  (K 33 w10)
  (K 0 w10)))
  (iteB ((n11 : Int) == 31)
  (ldI .i64 (a7.add 1) w10 fun n15 => iteB (decide ((n15 : Int) ≤ at_1))
  (K 33 w10)
  (ldI .i64 (a7.add 1) w10 fun n16 => ldS (a1.add 4) w10 fun s17 => iteB (decide ((n16 : Int) > (s17.l : Int)))
  (K 33 w10)
  (K 0 w10)))
  (iteB ((n11 : Int) == 4)
  (ldI .i64 (a1.add 3) w10 fun n18 => ldI .i64 (a7.add 1) w10 fun n19 => iteB (decide ((n19 : Int) < 0))
  (K 32 w10)
  (ldI .i64 (a7.add 1) w10 fun n20 => iteB (decide ((n20 : Int) > (IntKind.i64.wrap (n18 - 1))))
  (K 32 w10)
  (K 0 w10)))
  (iteB ((n11 : Int) == 5)
  (ldI .i64 (a1.add 3) w10 fun n21 => ldI .i64 (a7.add 1) w10 fun n22 => iteB (decide ((n22 : Int) < 0))
  (K 32 w10)
  (ldI .i64 (a7.add 1) w10 fun n23 => iteB (decide ((n23 : Int) > (IntKind.i64.wrap (n21 - 1))))
  (K 32 w10)
  (K 0 w10)))
  (iteB ((n11 : Int) == 6)
  (ldI .i64 a1 w10 fun n24 => ldI .i64 (a7.add 1) w10 fun n25 => iteB (decide ((n25 : Int) < 0))
  (K 32 w10)
  (ldI .i64 (a7.add 1) w10 fun n26 => iteB (decide ((n26 : Int) > (IntKind.i64.wrap (n24 - 1))))
  (K 32 w10)
  (K 0 w10)))
  (iteB ((n11 : Int) == 7)
  (ldI .i64 (a1.add 1) w10 fun n27 => ldI .i64 (a7.add 1) w10 fun n28 => iteB (decide ((n28 : Int) < 0))
  (K 32 w10)
  (ldI .i64 (a7.add 1) w10 fun n29 => iteB (decide ((n29 : Int) > (IntKind.i64.wrap (n27 - 1))))
  (K 32 w10)
  (K 0 w10)))
  (iteB ((n11 : Int) == 8)
  (ldI .i64 (a1.add 1) w10 fun n30 => ldI .i64 (a7.add 1) w10 fun n31 => iteB (decide ((n31 : Int) < 0))
  (K 32 w10)
  (ldI .i64 (a7.add 1) w10 fun n32 => iteB (decide ((n32 : Int) > (IntKind.i64.wrap (n30 - 1))))
  (K 32 w10)
  (K 0 w10)))
  (iteB ((n11 : Int) == 32)
  (ldI .i64 (a1.add 2) w10 fun n33 => ldI .i64 (a7.add 1) w10 fun n34 => iteB (decide ((n34 : Int) < 0))
  (K 32 w10)
  (ldI .i64 (a7.add 1) w10 fun n35 => iteB (decide ((n35 : Int) > (IntKind.i64.wrap (n33 - 1))))
  (K 32 w10)
  (K 0 w10)))
  (iteB ((n11 : Int) == 33)
  (ldI .i64 (a1.add 2) w10 fun n36 => ldI .i64 (a7.add 1) w10 fun n37 => iteB (decide ((n37 : Int) < 0))
  (K 32 w10)
  (ldI .i64 (a7.add 1) w10 fun n38 => iteB (decide ((n38 : Int) > (IntKind.i64.wrap (n36 - 1))))
  (K 32 w10)
  (K 0 w10)))
  (ldI .i64 (a7.add 1) w10 fun n39 => iteB (decide ((n39 : Int) < 0))
  (K 32 w10)
  (ldI .i64 (a7.add 1) w10 fun n40 => iteB (decide ((n40 : Int) > 0))
  (K 32 w10)
  (K 0 w10))))))))))))

def c_lang_argument (p_0_0 : Int) (p_0_1 : Int) (p_0_2 : Int) (p_0_3 : Int) (p_0_4 : Slc) (at_1 : Int) (w : World) (K : Int → World → Prop) : Prop := Calls Tryd.prog 40 #[.agg #[.int .i64 p_0_0, .int .i64 p_0_1, .int .i64 p_0_2, .int .i64 p_0_3, .slice p_0_4.a p_0_4.l p_0_4.c], .int .i64 at_1] w (onRet (fun v w' => ∃ (y0 : Int), v = .int .i64 y0 ∧ K y0 w'))

theorem sim_lang_argument {p_0_0 : Int} {p_0_1 : Int} {p_0_2 : Int} {p_0_3 : Int} {p_0_4 : Slc} {at_1 : Int} {w : World} {K : Int → World → Prop} (h : sh_lang_argument p_0_0 p_0_1 p_0_2 p_0_3 p_0_4 at_1 w K) : c_lang_argument p_0_0 p_0_1 p_0_2 p_0_3 p_0_4 at_1 w K := by
  have e : sh_lang_argument p_0_0 p_0_1 p_0_2 p_0_3 p_0_4 at_1 w K = shF Tryd.prog 40 ⟨[], [], []⟩ [.agg #[.int .i64 p_0_0, .int .i64 p_0_1, .int .i64 p_0_2, .int .i64 p_0_3, .slice p_0_4.a p_0_4.l p_0_4.c], .int .i64 at_1] w (fun v w' => decV (.int .i64) v fun y0 => K y0 w') := by kernel_rfl
  exact Calls.mono (calls_of _ e h) (onRet_mono (fun _ _ h => decV_spec h))

-- 41 prelude/lang.moves; callees []
def sh_lang_moves (op_0 : Int) (w : World) (K : Int → Int → World → Prop) : Prop :=
  iteB ((op_0 : Int) == 34)
  (K (IntKind.i64.wrap ((IntKind.i64.wrap (0 + 1)) + 1)) 0 w)
  (iteB ((op_0 : Int) == 2)
  (K (IntKind.i64.wrap (0 + 1)) 0 w)
  (iteB ((op_0 : Int) == 5)
  (K (IntKind.i64.wrap (0 + 1)) 0 w)
  (iteB ((op_0 : Int) == 31)
  (K (IntKind.i64.wrap (0 + 1)) 0 w)
  (iteB ((op_0 : Int) == 32)
  (K (IntKind.i64.wrap (0 + 1)) 0 w)
  (iteB ((op_0 : Int) == 35)
  (K (IntKind.i64.wrap (0 + 1)) 0 w)
  (iteB ((op_0 : Int) == 36)
  (K (IntKind.i64.wrap (0 + 1)) 0 w)
  (iteB ((op_0 : Int) == 3)
  (K (IntKind.i64.wrap (0 + 1)) (IntKind.i64.wrap ((IntKind.i64.wrap (0 + 1)) + 1)) w)
  (iteB ((op_0 : Int) == 9)
  (K (IntKind.i64.wrap (0 + 1)) (IntKind.i64.wrap (0 + 1)) w)
  (iteB ((op_0 : Int) == 20)
  (K (IntKind.i64.wrap (0 + 1)) (IntKind.i64.wrap (0 + 1)) w)
  (iteB ((op_0 : Int) == 21)
  (K (IntKind.i64.wrap (0 + 1)) (IntKind.i64.wrap (0 + 1)) w)
  (iteB ((op_0 : Int) == 1)
  (K 0 (IntKind.i64.wrap (0 + 1)) w)
  (iteB ((op_0 : Int) == 4)
  (K 0 (IntKind.i64.wrap (0 + 1)) w)
  (iteB ((op_0 : Int) == 6)
  (K 0 (IntKind.i64.wrap (0 + 1)) w)
  (iteB ((op_0 : Int) == 7)
  (K 0 (IntKind.i64.wrap (0 + 1)) w)
  (iteB ((op_0 : Int) == 8)
  (K 0 (IntKind.i64.wrap (0 + 1)) w)
  (iteB ((op_0 : Int) == 0)
  (K 0 0 w)
  (iteB ((op_0 : Int) == 30)
  (K 0 0 w)
  (iteB ((op_0 : Int) == 33)
  (K 0 0 w)
  (K 2 1 w)))))))))))))))))))

def c_lang_moves (op_0 : Int) (w : World) (K : Int → Int → World → Prop) : Prop := Calls Tryd.prog 41 #[.int .i64 op_0] w (onRet (fun v w' => ∃ (y0 : Int), ∃ (y1 : Int), v = .tuple #[.int .i64 y0, .int .i64 y1] ∧ K y0 y1 w'))

theorem sim_lang_moves {op_0 : Int} {w : World} {K : Int → Int → World → Prop} (h : sh_lang_moves op_0 w K) : c_lang_moves op_0 w K := by
  have e : sh_lang_moves op_0 w K = shF Tryd.prog 41 ⟨[], [], []⟩ [.int .i64 op_0] w (fun v w' => decT [(false, [(.int .i64)]), (false, [(.int .i64)])] v fun s => (fun (y0 : Int) (y1 : Int) => K y0 y1 w') s.1 s.2.1) := by kernel_rfl
  exact Calls.mono (calls_of _ e h) (onRet_mono (fun _ _ h => by obtain ⟨s, h1, h2⟩ := decT_spec h; exact ⟨s.1, s.2.1, h1, h2⟩))

-- 42 prelude/lang.ways; callees []
def sh_lang_ways (in_0_0 : Int) (in_0_1 : Int) (at_1 : Int) (w : World) (K : Slc → World → Prop) : Prop :=
  newP #[.int .i64 in_0_0, .int .i64 in_0_1] 39 w fun a1 w2 => ldI .i64 a1 w2 fun n3 => iteB ((n3 : Int) == 0)
  (K ⟨none, 0, 0⟩ w2)
  (iteB ((n3 : Int) == 36)
  (K ⟨none, 0, 0⟩ w2)
  (iteB ((n3 : Int) == 30)
  (ldI .i64 (a1.add 1) w2 fun n4 => newP #[.int .i64 n4] 3 w2 fun a5 w6 => K ⟨(some a5), 1, 1⟩ w6)
  (iteB ((n3 : Int) == 31)
  (ldI .i64 (a1.add 1) w2 fun n7 => newP #[.int .i64 n7, .int .i64 (IntKind.i64.wrap (at_1 + 1))] 3 w2 fun a8 w9 => K ⟨(some a8), 2, 2⟩ w9)
  (newP #[.int .i64 (IntKind.i64.wrap (at_1 + 1))] 3 w2 fun a10 w11 => K ⟨(some a10), 1, 1⟩ w11))))

def c_lang_ways (in_0_0 : Int) (in_0_1 : Int) (at_1 : Int) (w : World) (K : Slc → World → Prop) : Prop := Calls Tryd.prog 42 #[.agg #[.int .i64 in_0_0, .int .i64 in_0_1], .int .i64 at_1] w (onRet (fun v w' => ∃ (y0 : Slc), v = .slice y0.a y0.l y0.c ∧ K y0 w'))

theorem sim_lang_ways {in_0_0 : Int} {in_0_1 : Int} {at_1 : Int} {w : World} {K : Slc → World → Prop} (h : sh_lang_ways in_0_0 in_0_1 at_1 w K) : c_lang_ways in_0_0 in_0_1 at_1 w K := by
  have e : sh_lang_ways in_0_0 in_0_1 at_1 w K = shF Tryd.prog 42 ⟨[], [], []⟩ [.agg #[.int .i64 in_0_0, .int .i64 in_0_1], .int .i64 at_1] w (fun v w' => decV .sl v fun y0 => K y0 w') := by kernel_rfl
  exact Calls.mono (calls_of _ e h) (onRet_mono (fun _ _ h => decV_spec h))

-- 32 prelude/lang.look; callees ['lang_sizes', 'lang_within', 'lang_argument', 'lang_moves', 'lang_ways']
def sh_lang_look (c_lang_sizes : Int → Int → Int → Int → Slc → World → (Int → World → Prop) → Prop) (c_lang_within : Int → Int → World → (Bool → World → Prop) → Prop) (c_lang_argument : Int → Int → Int → Int → Slc → Int → World → (Int → World → Prop) → Prop) (c_lang_moves : Int → World → (Int → Int → World → Prop) → Prop) (c_lang_ways : Int → Int → Int → World → (Slc → World → Prop) → Prop) (x_0_0 : Int) (x_0_1 : Int) (x_0_2 : Int) (x_0_3 : Int) (x_0_4 : Slc) (w : World) (K : Slc → Int → World → Prop) : Prop :=
  newP #[.int .i64 x_0_0, .int .i64 x_0_1, .int .i64 x_0_2, .int .i64 x_0_3, .slice x_0_4.a x_0_4.l x_0_4.c] 35 w fun a1 w2 => ldI .i64 a1 w2 fun n3 => ldI .i64 (a1.add 1) w2 fun n4 => ldI .i64 (a1.add 2) w2 fun n5 => ldI .i64 (a1.add 3) w2 fun n6 => ldS (a1.add 4) w2 fun s7 => c_lang_sizes n3 n4 n5 n6 s7 w2 fun r8 w9 => iteB ((r8 : Int) != 0)
  (K ⟨none, 0, 0⟩ r8 w9)
  (ldS (a1.add 4) w9 fun s10 => loopP (σ := Int × Unit) (fun st12 next11 w13 => (fun (x14 : Int) => iteB (decide ((x14 : Int) < (s10.l : Int)))
  (idxP s10.a s10.l x14 2 fun a15 => ldI .i64 a15 w13 fun n16 => ldI .i64 (a15.add 1) w13 fun n17 => newP #[.int .i64 0, .int .i64 0] 39 w13 fun a18 w19 => stP a18 (.int .i64 n16) w19 fun w20 => stP (a18.add 1) (.int .i64 n17) w20 fun w21 => ldI .i64 a18 w21 fun n22 => c_lang_within n22 36 w21 fun r23 w24 => iteB (!r23)
  (K ⟨none, 0, 0⟩ 31 w24)
  (ldI .i64 a1 w24 fun n25 => ldI .i64 (a1.add 1) w24 fun n26 => ldI .i64 (a1.add 2) w24 fun n27 => ldI .i64 (a1.add 3) w24 fun n28 => ldS (a1.add 4) w24 fun s29 => c_lang_argument n25 n26 n27 n28 s29 x14 w24 fun r30 w31 => iteB ((r30 : Int) != 0)
  (K ⟨none, 0, 0⟩ r30 w31)
  (next11 ((IntKind.i64.wrap (x14 + 1)), ()) w31)))
  (ldS (a1.add 4) w13 fun s32 => mkP Tryd.prog 69 (.int .i64 (IntKind.i64.wrap ((s32.l : Int) + 1))) (.int .i64 (IntKind.i64.wrap ((s32.l : Int) + 1))) w13 fun s33 w34 => loopP (σ := Int × Unit) (fun st36 next35 w37 => (fun (x38 : Int) => iteB (decide ((x38 : Int) < (s33.l : Int)))
  (idxP s33.a s33.l x38 1 fun a39 => stP a39 (.int .i64 (-1)) w37 fun w40 => next35 ((IntKind.i64.wrap (x38 + 1)), ()) w40)
  (idxP s33.a s33.l 0 1 fun a41 => stP a41 (.int .i64 0) w37 fun w42 => ldS (a1.add 4) w42 fun s43 => loopP (σ := Bool × Int × Unit) (fun st45 next44 w46 => (fun (x47 : Bool) (x48 : Int) => iteB (decide ((x48 : Int) < (s43.l : Int)))
  (idxP s43.a s43.l x48 2 fun a49 => ldI .i64 a49 w46 fun n50 => ldI .i64 (a49.add 1) w46 fun n51 => newP #[.int .i64 0, .int .i64 0] 39 w46 fun a52 w53 => stP a52 (.int .i64 n50) w53 fun w54 => stP (a52.add 1) (.int .i64 n51) w54 fun w55 => idxP s33.a s33.l x48 1 fun a56 => ldI .i64 a56 w55 fun n57 => iteB (decide ((n57 : Int) < 0))
  (next44 (x47, (IntKind.i64.wrap (x48 + 1)), ()) w55)
  (ldI .i64 a52 w55 fun n58 => c_lang_moves n58 w55 fun r59 r60 w61 => iteB (decide ((n57 : Int) < r59))
  (K ⟨none, 0, 0⟩ 34 w61)
  (iteB (decide (((IntKind.i64.wrap ((IntKind.i64.wrap (n57 - r59)) + r60)) : Int) > 32))
  (K ⟨none, 0, 0⟩ 34 w61)
  (ldI .i64 a52 w61 fun n62 => ldI .i64 (a52.add 1) w61 fun n63 => c_lang_ways n62 n63 x48 w61 fun r64 w65 => loopP (σ := Bool × Int × Unit) (fun st67 next66 w68 => (fun (x69 : Bool) (x70 : Int) => iteB (decide ((x70 : Int) < (r64.l : Int)))
  (idxP r64.a r64.l x70 1 fun a71 => ldI .i64 a71 w68 fun n72 => idxP s33.a s33.l n72 1 fun a73 => ldI .i64 a73 w68 fun n74 => iteB (decide ((n74 : Int) ≥ 0))
  (idxP s33.a s33.l n72 1 fun a75 => ldI .i64 a75 w68 fun n76 => iteB ((n76 : Int) != (IntKind.i64.wrap ((IntKind.i64.wrap (n57 - r59)) + r60)))
  (K ⟨none, 0, 0⟩ 34 w68)
  (idxP s33.a s33.l n72 1 fun a77 => stP a77 (.int .i64 (IntKind.i64.wrap ((IntKind.i64.wrap (n57 - r59)) + r60))) w68 fun w78 => next66 (x69, (IntKind.i64.wrap (x70 + 1)), ()) w78))
  (idxP s33.a s33.l n72 1 fun a79 => stP a79 (.int .i64 (IntKind.i64.wrap ((IntKind.i64.wrap (n57 - r59)) + r60))) w68 fun w80 => next66 (x69, (IntKind.i64.wrap (x70 + 1)), ()) w80))
  (next44 (x69, (IntKind.i64.wrap (x48 + 1)), ()) w68)) st67.1 st67.2.1) (x47, 0, ()) w65))))
  (iteB x47
  (K ⟨none, 0, 0⟩ 34 w46)
  (K s33 0 w46))) st45.1 st45.2.1) (false, 0, ()) w42)) st36.1) (0, ()) w34)) st12.1) (0, ()) w9)

def c_lang_look (x_0_0 : Int) (x_0_1 : Int) (x_0_2 : Int) (x_0_3 : Int) (x_0_4 : Slc) (w : World) (K : Slc → Int → World → Prop) : Prop := Calls Tryd.prog 32 #[.agg #[.int .i64 x_0_0, .int .i64 x_0_1, .int .i64 x_0_2, .int .i64 x_0_3, .slice x_0_4.a x_0_4.l x_0_4.c]] w (onRet (fun v w' => ∃ (y0 : Slc), ∃ (y1 : Int), v = .tuple #[.slice y0.a y0.l y0.c, .int .i64 y1] ∧ K y0 y1 w'))

theorem sim_lang_look {x_0_0 : Int} {x_0_1 : Int} {x_0_2 : Int} {x_0_3 : Int} {x_0_4 : Slc} {w : World} {K : Slc → Int → World → Prop} (h : sh_lang_look c_lang_sizes c_lang_within c_lang_argument c_lang_moves c_lang_ways x_0_0 x_0_1 x_0_2 x_0_3 x_0_4 w K) : c_lang_look x_0_0 x_0_1 x_0_2 x_0_3 x_0_4 w K := by
  have e : sh_lang_look c_lang_sizes c_lang_within c_lang_argument c_lang_moves c_lang_ways x_0_0 x_0_1 x_0_2 x_0_3 x_0_4 w K = shF Tryd.prog 32 ⟨[], [(5, [(26, (.int .i64))], [1, 24, 25]), (15, [(49, (.int .i64))], [1, 8, 48]), (22, [(10, .b), (61, (.int .i64))], [8, 59, 60]), (30, [(10, .b), (93, (.int .i64))], [8, 13, 14, 15, 59, 60, 61, 91, 92])], []⟩ [.agg #[.int .i64 x_0_0, .int .i64 x_0_1, .int .i64 x_0_2, .int .i64 x_0_3, .slice x_0_4.a x_0_4.l x_0_4.c]] w (fun v w' => decT [(false, [.sl]), (false, [(.int .i64)])] v fun s => (fun (y0 : Slc) (y1 : Int) => K y0 y1 w') s.1 s.2.1) := by kernel_rfl
  exact Calls.mono (calls_of _ e h) (onRet_mono (fun _ _ h => by obtain ⟨s, h1, h2⟩ := decT_spec h; exact ⟨s.1, s.2.1, h1, h2⟩))

-- 18 prelude/lang.Verify; callees ['lang_look']
def sh_lang_Verify (c_lang_look : Int → Int → Int → Int → Slc → World → (Slc → Int → World → Prop) → Prop) (p_0_0 : Int) (p_0_1 : Int) (p_0_2 : Int) (p_0_3 : Int) (p_0_4 : Slc) (w : World) (K : Int → World → Prop) : Prop :=
  newP #[.int .i64 p_0_0, .int .i64 p_0_1, .int .i64 p_0_2, .int .i64 p_0_3, .slice p_0_4.a p_0_4.l p_0_4.c] 35 w fun a1 w2 => ldI .i64 a1 w2 fun n3 => ldI .i64 (a1.add 1) w2 fun n4 => ldI .i64 (a1.add 2) w2 fun n5 => ldI .i64 (a1.add 3) w2 fun n6 => ldS (a1.add 4) w2 fun s7 => c_lang_look n3 n4 n5 n6 s7 w2 fun r8 r9 w10 => K r9 w10

def c_lang_Verify (p_0_0 : Int) (p_0_1 : Int) (p_0_2 : Int) (p_0_3 : Int) (p_0_4 : Slc) (w : World) (K : Int → World → Prop) : Prop := Calls Tryd.prog 18 #[.agg #[.int .i64 p_0_0, .int .i64 p_0_1, .int .i64 p_0_2, .int .i64 p_0_3, .slice p_0_4.a p_0_4.l p_0_4.c]] w (onRet (fun v w' => ∃ (y0 : Int), v = .int .i64 y0 ∧ K y0 w'))

theorem sim_lang_Verify {p_0_0 : Int} {p_0_1 : Int} {p_0_2 : Int} {p_0_3 : Int} {p_0_4 : Slc} {w : World} {K : Int → World → Prop} (h : sh_lang_Verify c_lang_look p_0_0 p_0_1 p_0_2 p_0_3 p_0_4 w K) : c_lang_Verify p_0_0 p_0_1 p_0_2 p_0_3 p_0_4 w K := by
  have e : sh_lang_Verify c_lang_look p_0_0 p_0_1 p_0_2 p_0_3 p_0_4 w K = shF Tryd.prog 18 ⟨[], [], []⟩ [.agg #[.int .i64 p_0_0, .int .i64 p_0_1, .int .i64 p_0_2, .int .i64 p_0_3, .slice p_0_4.a p_0_4.l p_0_4.c]] w (fun v w' => decV (.int .i64) v fun y0 => K y0 w') := by kernel_rfl
  exact Calls.mono (calls_of _ e h) (onRet_mono (fun _ _ h => decV_spec h))

-- 10 prelude/lang.Check; callees ['lang_isName', 'lang_Verify']
def sh_lang_Check (c_lang_isName : ByteArray → World → (Bool → World → Prop) → Prop) (c_lang_Verify : Int → Int → Int → Int → Slc → World → (Int → World → Prop) → Prop) (lib_0 : Slc) (w : World) (K : Int → Int → World → Prop) : Prop :=
  iteB (decide (((lib_0.l : Int) : Int) > 64))
  (K 0 36 w)
  ((∃ (r1 : Option Nat), ∃ w2, (Instr.makeMap 52 none).run Tryd.prog w = .ok (.map r1) w2 ∧ (loopP (σ := Int × Unit) (fun st4 next3 w5 => (fun (x6 : Int) => iteB (decide ((x6 : Int) < (lib_0.l : Int)))
  (idxP lib_0.a lib_0.l x6 6 fun a7 => ldStr a7 w5 fun s8 => ldI .i64 (a7.add 1) w5 fun n9 => ldI .i64 (a7.add 2) w5 fun n10 => ldI .i64 (a7.add 3) w5 fun n11 => ldI .i64 (a7.add 4) w5 fun n12 => ldS (a7.add 5) w5 fun s13 => newP #[.string ByteArray.empty, .int .i64 0, .int .i64 0, .int .i64 0, .int .i64 0, .slice none 0 0] 37 w5 fun a14 w15 => stP a14 (.string s8) w15 fun w16 => stP (a14.add 1) (.int .i64 n9) w16 fun w17 => stP (a14.add 2) (.int .i64 n10) w17 fun w18 => stP (a14.add 3) (.int .i64 n11) w18 fun w19 => stP (a14.add 4) (.int .i64 n12) w19 fun w20 => stP (a14.add 5) (.slice s13.a s13.l s13.c) w20 fun w21 => ldStr a14 w21 fun s22 => (∃ (r23 : Int), ∃ (r24 : Bool), ∃ w25, (Instr.lookup 52 (.map r1) (.string s22) true).run Tryd.prog w21 = .ok (.tuple #[.int .i64 r23, .bool r24]) w25 ∧ (iteB r24
  (K x6 35 w25)
  (ldStr a14 w25 fun s26 => c_lang_isName s26 w25 fun r27 w28 => iteB (!r27)
  (K x6 35 w28)
  (ldStr a14 w28 fun s29 => opU Tryd.prog (Instr.mapUpdate 52 (.map r1) (.string s29) (.int .i64 x6)) w28 fun w30 => ldI .i64 (a14.add 1) w30 fun n31 => ldI .i64 ((a14.add 1).add 1) w30 fun n32 => ldI .i64 ((a14.add 1).add 2) w30 fun n33 => ldI .i64 ((a14.add 1).add 3) w30 fun n34 => ldS ((a14.add 1).add 4) w30 fun s35 => c_lang_Verify n31 n32 n33 n34 s35 w30 fun r36 w37 => iteB ((r36 : Int) != 0)
  (K x6 r36 w37)
  (next3 ((IntKind.i64.wrap (x6 + 1)), ()) w37))))))
  (K 0 0 w5)) st4.1) (0, ()) w2)))

def c_lang_Check (lib_0 : Slc) (w : World) (K : Int → Int → World → Prop) : Prop := Calls Tryd.prog 10 #[.slice lib_0.a lib_0.l lib_0.c] w (onRet (fun v w' => ∃ (y0 : Int), ∃ (y1 : Int), v = .tuple #[.int .i64 y0, .int .i64 y1] ∧ K y0 y1 w'))

theorem sim_lang_Check {lib_0 : Slc} {w : World} {K : Int → Int → World → Prop} (h : sh_lang_Check c_lang_isName c_lang_Verify lib_0 w K) : c_lang_Check lib_0 w K := by
  have e : sh_lang_Check c_lang_isName c_lang_Verify lib_0 w K = shF Tryd.prog 10 ⟨[], [(5, [(16, (.int .i64))], [4, 14, 15])], []⟩ [.slice lib_0.a lib_0.l lib_0.c] w (fun v w' => decT [(false, [(.int .i64)]), (false, [(.int .i64)])] v fun s => (fun (y0 : Int) (y1 : Int) => K y0 y1 w') s.1 s.2.1) := by kernel_rfl
  exact Calls.mono (calls_of _ e h) (onRet_mono (fun _ _ h => by obtain ⟨s, h1, h2⟩ := decT_spec h; exact ⟨s.1, s.2.1, h1, h2⟩))

-- 34 strconv.FormatInt; callees []
def c_strconv_FormatInt (i_0 : Int) (base_1 : Int) (w : World) (K : ByteArray → World → Prop) : Prop := Calls Tryd.prog 34 #[.int .i64 i_0, .int .i64 base_1] w (onRet (fun v w' => ∃ (y0 : ByteArray), v = .string y0 ∧ K y0 w'))

-- 25 prelude/codec.Digits; callees ['strconv_FormatInt']
def sh_codec_Digits (c_strconv_FormatInt : Int → Int → World → (ByteArray → World → Prop) → Prop) (n_0 : Int) (w : World) (K : ByteArray → World → Prop) : Prop :=
  c_strconv_FormatInt n_0 10 w fun r1 w2 => K r1 w2

def c_codec_Digits (n_0 : Int) (w : World) (K : ByteArray → World → Prop) : Prop := Calls Tryd.prog 25 #[.int .i64 n_0] w (onRet (fun v w' => ∃ (y0 : ByteArray), v = .string y0 ∧ K y0 w'))

theorem sim_codec_Digits {n_0 : Int} {w : World} {K : ByteArray → World → Prop} (h : sh_codec_Digits c_strconv_FormatInt n_0 w K) : c_codec_Digits n_0 w K := by
  have e : sh_codec_Digits c_strconv_FormatInt n_0 w K = shF Tryd.prog 25 ⟨[], [], []⟩ [.int .i64 n_0] w (fun v w' => decV .str v fun y0 => K y0 w') := by kernel_rfl
  exact Calls.mono (calls_of _ e h) (onRet_mono (fun _ _ h => decV_spec h))

-- 20 prelude/asm.number; callees ['codec_Digits']
def sh_asm_number (c_codec_Digits : Int → World → (ByteArray → World → Prop) → Prop) (n_0 : Int) (w : World) (K : ByteArray → World → Prop) : Prop :=
  c_codec_Digits n_0 w fun r1 w2 => K r1 w2

def c_asm_number (n_0 : Int) (w : World) (K : ByteArray → World → Prop) : Prop := Calls Tryd.prog 20 #[.int .i64 n_0] w (onRet (fun v w' => ∃ (y0 : ByteArray), v = .string y0 ∧ K y0 w'))

theorem sim_asm_number {n_0 : Int} {w : World} {K : ByteArray → World → Prop} (h : sh_asm_number c_codec_Digits n_0 w K) : c_asm_number n_0 w K := by
  have e : sh_asm_number c_codec_Digits n_0 w K = shF Tryd.prog 20 ⟨[], [], []⟩ [.int .i64 n_0] w (fun v w' => decV .str v fun y0 => K y0 w') := by kernel_rfl
  exact Calls.mono (calls_of _ e h) (onRet_mono (fun _ _ h => decV_spec h))

-- 33 (*strings.Builder).copyCheck; callees []
def c_strings_Builder_copyCheck (b_0 : Option Addr) (w : World) (K : World → Prop) : Prop := Calls Tryd.prog 33 #[.pointer b_0] w (onRet (fun v w' => v = .tuple #[] ∧ K w'))

-- 19 (*strings.Builder).WriteString; callees ['strings_Builder_copyCheck']
def sh_strings_Builder_WriteString (c_strings_Builder_copyCheck : Option Addr → World → (World → Prop) → Prop) (b_0 : Option Addr) (s_1 : ByteArray) (w : World) (K : Int → Value → World → Prop) : Prop :=
  c_strings_Builder_copyCheck b_0 w fun w1 => nnP b_0 fun a2 => ldS (a2.add 1) w1 fun s3 => apP Tryd.prog #[43, 9] 43 [.slice s3.a s3.l s3.c, .string s_1] w1 fun s5 w4 => nnP b_0 fun a6 => stP (a6.add 1) (.slice s5.a s5.l s5.c) w4 fun w7 => K (s_1.size : Int) .nilIface w7

def c_strings_Builder_WriteString (b_0 : Option Addr) (s_1 : ByteArray) (w : World) (K : Int → Value → World → Prop) : Prop := Calls Tryd.prog 19 #[.pointer b_0, .string s_1] w (onRet (fun v w' => ∃ (y0 : Int), ∃ (y1 : Value), v = .tuple #[.int .i64 y0, y1] ∧ K y0 y1 w'))

theorem sim_strings_Builder_WriteString {b_0 : Option Addr} {s_1 : ByteArray} {w : World} {K : Int → Value → World → Prop} (h : sh_strings_Builder_WriteString c_strings_Builder_copyCheck b_0 s_1 w K) : c_strings_Builder_WriteString b_0 s_1 w K := by
  have e : sh_strings_Builder_WriteString c_strings_Builder_copyCheck b_0 s_1 w K = shF Tryd.prog 19 ⟨[], [], []⟩ [.pointer b_0, .string s_1] w (fun v w' => decT [(false, [(.int .i64)]), (false, [.any])] v fun s => (fun (y0 : Int) (y1 : Value) => K y0 y1 w') s.1 s.2.1) := by kernel_rfl
  exact Calls.mono (calls_of _ e h) (onRet_mono (fun _ _ h => by obtain ⟨s, h1, h2⟩ := decT_spec h; exact ⟨s.1, s.2.1, h1, h2⟩))

-- 21 prelude/asm.jumps; callees []
def sh_asm_jumps (op_0 : Int) (w : World) (K : Bool → World → Prop) : Prop :=
  iteB ((op_0 : Int) == 30)
  (K true w)
  (K ((op_0 : Int) == 31) w)

def c_asm_jumps (op_0 : Int) (w : World) (K : Bool → World → Prop) : Prop := Calls Tryd.prog 21 #[.int .i64 op_0] w (onRet (fun v w' => ∃ (y0 : Bool), v = .bool y0 ∧ K y0 w'))

theorem sim_asm_jumps {op_0 : Int} {w : World} {K : Bool → World → Prop} (h : sh_asm_jumps op_0 w K) : c_asm_jumps op_0 w K := by
  have e : sh_asm_jumps op_0 w K = shF Tryd.prog 21 ⟨[], [], []⟩ [.int .i64 op_0] w (fun v w' => decV .b v fun y0 => K y0 w') := by kernel_rfl
  exact Calls.mono (calls_of _ e h) (onRet_mono (fun _ _ h => decV_spec h))

-- 22 prelude/asm.label; callees ['codec_Digits']
def sh_asm_label (c_codec_Digits : Int → World → (ByteArray → World → Prop) → Prop) (at_0 : Int) (w : World) (K : ByteArray → World → Prop) : Prop :=
  c_codec_Digits at_0 w fun r1 w2 => catP (ByteArray.mk #[76]) r1 (K (ByteArray.mk #[76] ++ r1) w2)

def c_asm_label (at_0 : Int) (w : World) (K : ByteArray → World → Prop) : Prop := Calls Tryd.prog 22 #[.int .i64 at_0] w (onRet (fun v w' => ∃ (y0 : ByteArray), v = .string y0 ∧ K y0 w'))

theorem sim_asm_label {at_0 : Int} {w : World} {K : ByteArray → World → Prop} (h : sh_asm_label c_codec_Digits at_0 w K) : c_asm_label at_0 w K := by
  have e : sh_asm_label c_codec_Digits at_0 w K = shF Tryd.prog 22 ⟨[], [], []⟩ [.int .i64 at_0] w (fun v w' => decV .str v fun y0 => K y0 w') := by kernel_rfl
  exact Calls.mono (calls_of _ e h) (onRet_mono (fun _ _ h => decV_spec h))

-- 23 prelude/lang.Spell; callees []
def sh_lang_Spell (op_0 : Int) (w : World) (K : ByteArray → World → Prop) : Prop :=
  newP #[.string ByteArray.empty, .string ByteArray.empty, .string ByteArray.empty, .string ByteArray.empty, .string ByteArray.empty, .string ByteArray.empty, .string ByteArray.empty, .string ByteArray.empty, .string ByteArray.empty, .string ByteArray.empty, .string ByteArray.empty, .string ByteArray.empty, .string ByteArray.empty, .string ByteArray.empty, .string ByteArray.empty, .string ByteArray.empty, .string ByteArray.empty, .string ByteArray.empty, .string ByteArray.empty, .string ByteArray.empty, .string ByteArray.empty, .string ByteArray.empty, .string ByteArray.empty, .string ByteArray.empty, .string ByteArray.empty, .string ByteArray.empty, .string ByteArray.empty, .string ByteArray.empty, .string ByteArray.empty, .string ByteArray.empty, .string ByteArray.empty, .string ByteArray.empty, .string ByteArray.empty, .string ByteArray.empty, .string ByteArray.empty, .string ByteArray.empty, .string ByteArray.empty] 72 w fun a1 w2 => stP a1 (.string (ByteArray.mk #[115, 116, 111, 112])) w2 fun w3 => stP (a1.add 1) (.string (ByteArray.mk #[112, 117, 115, 104])) w3 fun w4 => stP (a1.add 2) (.string (ByteArray.mk #[112, 111, 112])) w4 fun w5 => stP (a1.add 3) (.string (ByteArray.mk #[100, 117, 112])) w5 fun w6 => stP (a1.add 4) (.string (ByteArray.mk #[108, 111, 97, 100])) w6 fun w7 => stP (a1.add 5) (.string (ByteArray.mk #[115, 97, 118, 101])) w7 fun w8 => stP (a1.add 6) (.string (ByteArray.mk #[97, 114, 103])) w8 fun w9 => stP (a1.add 7) (.string (ByteArray.mk #[103, 101, 116])) w9 fun w10 => stP (a1.add 8) (.string (ByteArray.mk #[104, 97, 115])) w10 fun w11 => stP (a1.add 9) (.string (ByteArray.mk #[103, 101, 116, 120])) w11 fun w12 => stP (a1.add 10) (.string (ByteArray.mk #[97, 100, 100])) w12 fun w13 => stP (a1.add 11) (.string (ByteArray.mk #[115, 117, 98])) w13 fun w14 => stP (a1.add 12) (.string (ByteArray.mk #[109, 117, 108])) w14 fun w15 => stP (a1.add 13) (.string (ByteArray.mk #[100, 105, 118])) w15 fun w16 => stP (a1.add 14) (.string (ByteArray.mk #[109, 111, 100])) w16 fun w17 => stP (a1.add 15) (.string (ByteArray.mk #[97, 110, 100])) w17 fun w18 => stP (a1.add 16) (.string (ByteArray.mk #[111, 114])) w18 fun w19 => stP (a1.add 17) (.string (ByteArray.mk #[120, 111, 114])) w19 fun w20 => stP (a1.add 18) (.string (ByteArray.mk #[115, 104, 108])) w20 fun w21 => stP (a1.add 19) (.string (ByteArray.mk #[115, 104, 114])) w21 fun w22 => stP (a1.add 20) (.string (ByteArray.mk #[110, 101, 103])) w22 fun w23 => stP (a1.add 21) (.string (ByteArray.mk #[110, 111, 116])) w23 fun w24 => stP (a1.add 22) (.string (ByteArray.mk #[101, 113])) w24 fun w25 => stP (a1.add 23) (.string (ByteArray.mk #[110, 101])) w25 fun w26 => stP (a1.add 24) (.string (ByteArray.mk #[108, 116])) w26 fun w27 => stP (a1.add 25) (.string (ByteArray.mk #[108, 101])) w27 fun w28 => stP (a1.add 26) (.string (ByteArray.mk #[103, 116])) w28 fun w29 => stP (a1.add 27) (.string (ByteArray.mk #[103, 101])) w29 fun w30 => stP (a1.add 28) (.string (ByteArray.mk #[109, 105, 110])) w30 fun w31 => stP (a1.add 29) (.string (ByteArray.mk #[109, 97, 120])) w31 fun w32 => stP (a1.add 30) (.string (ByteArray.mk #[106, 117, 109, 112])) w32 fun w33 => stP (a1.add 31) (.string (ByteArray.mk #[122, 101, 114, 111])) w33 fun w34 => stP (a1.add 32) (.string (ByteArray.mk #[112, 117, 116])) w34 fun w35 => stP (a1.add 33) (.string (ByteArray.mk #[100, 101, 108])) w35 fun w36 => stP (a1.add 34) (.string (ByteArray.mk #[112, 117, 116, 120])) w36 fun w37 => stP (a1.add 35) (.string (ByteArray.mk #[111, 117, 116])) w37 fun w38 => stP (a1.add 36) (.string (ByteArray.mk #[97, 98, 111, 114, 116])) w38 fun w39 => iteB (decide ((op_0 : Int) < 0))
  (K (ByteArray.mk #[]) w39)
  (iteB (decide ((op_0 : Int) ≥ 37))
  (K (ByteArray.mk #[]) w39)
  (arrP 37 op_0 (ldStr (a1.add (Int.toNat op_0 * 1)) w39 fun s40 => K s40 w39)))

def c_lang_Spell (op_0 : Int) (w : World) (K : ByteArray → World → Prop) : Prop := Calls Tryd.prog 23 #[.int .i64 op_0] w (onRet (fun v w' => ∃ (y0 : ByteArray), v = .string y0 ∧ K y0 w'))

theorem sim_lang_Spell {op_0 : Int} {w : World} {K : ByteArray → World → Prop} (h : sh_lang_Spell op_0 w K) : c_lang_Spell op_0 w K := by
  have e : sh_lang_Spell op_0 w K = shF Tryd.prog 23 ⟨[], [], []⟩ [.int .i64 op_0] w (fun v w' => decV .str v fun y0 => K y0 w') := by kernel_rfl
  exact Calls.mono (calls_of _ e h) (onRet_mono (fun _ _ h => decV_spec h))

-- 24 prelude/lang.Wants; callees []
def sh_lang_Wants (op_0 : Int) (w : World) (K : Bool → World → Prop) : Prop :=
  iteB ((op_0 : Int) == 1)
  (K true w)
  (iteB ((op_0 : Int) == 4)
  (K true w)
  (iteB ((op_0 : Int) == 5)
  (K true w)
  (iteB ((op_0 : Int) == 6)
  (K true w)
  (iteB ((op_0 : Int) == 7)
  (K true w)
  (iteB ((op_0 : Int) == 8)
  (K true w)
  (iteB ((op_0 : Int) == 30)
  (K true w)
  (iteB ((op_0 : Int) == 31)
  (K true w)
  (iteB ((op_0 : Int) == 32)
  (K true w)
  (iteB ((op_0 : Int) == 33)
  (K true w)
  (K false w))))))))))

def c_lang_Wants (op_0 : Int) (w : World) (K : Bool → World → Prop) : Prop := Calls Tryd.prog 24 #[.int .i64 op_0] w (onRet (fun v w' => ∃ (y0 : Bool), v = .bool y0 ∧ K y0 w'))

theorem sim_lang_Wants {op_0 : Int} {w : World} {K : Bool → World → Prop} (h : sh_lang_Wants op_0 w K) : c_lang_Wants op_0 w K := by
  have e : sh_lang_Wants op_0 w K = shF Tryd.prog 24 ⟨[], [], []⟩ [.int .i64 op_0] w (fun v w' => decV .b v fun y0 => K y0 w') := by kernel_rfl
  exact Calls.mono (calls_of _ e h) (onRet_mono (fun _ _ h => decV_spec h))

-- 11 prelude/asm.list; callees ['asm_number', 'strings_Builder_WriteString', 'asm_jumps', 'asm_label', 'lang_Spell', 'lang_Wants', 'codec_Digits']
def sh_asm_list (c_asm_number : Int → World → (ByteArray → World → Prop) → Prop) (c_strings_Builder_WriteString : Option Addr → ByteArray → World → (Int → Value → World → Prop) → Prop) (c_asm_jumps : Int → World → (Bool → World → Prop) → Prop) (c_asm_label : Int → World → (ByteArray → World → Prop) → Prop) (c_lang_Spell : Int → World → (ByteArray → World → Prop) → Prop) (c_lang_Wants : Int → World → (Bool → World → Prop) → Prop) (c_codec_Digits : Int → World → (ByteArray → World → Prop) → Prop) (x_0 : Option Addr) (x_1_0 : ByteArray) (x_1_1 : Int) (x_1_2 : Int) (x_1_3 : Int) (x_1_4 : Int) (x_1_5 : Slc) (w : World) (K : World → Prop) : Prop :=
  newP #[.string x_1_0, .int .i64 x_1_1, .int .i64 x_1_2, .int .i64 x_1_3, .int .i64 x_1_4, .slice x_1_5.a x_1_5.l x_1_5.c] 37 w fun a1 w2 => ldI .i64 (a1.add 1) w2 fun n3 => ldI .i64 ((a1.add 1).add 1) w2 fun n4 => ldI .i64 ((a1.add 1).add 2) w2 fun n5 => ldI .i64 ((a1.add 1).add 3) w2 fun n6 => ldS ((a1.add 1).add 4) w2 fun s7 => newP #[.int .i64 0, .int .i64 0, .int .i64 0, .int .i64 0, .slice none 0 0] 35 w2 fun a8 w9 => stP a8 (.int .i64 n3) w9 fun w10 => stP (a8.add 1) (.int .i64 n4) w10 fun w11 => stP (a8.add 2) (.int .i64 n5) w11 fun w12 => stP (a8.add 3) (.int .i64 n6) w12 fun w13 => stP (a8.add 4) (.slice s7.a s7.l s7.c) w13 fun w14 => ldStr a1 w14.drew fun s15 => catP (ByteArray.mk #[112, 114, 111, 99, 32]) s15 (catP (ByteArray.mk #[112, 114, 111, 99, 32] ++ s15) (ByteArray.mk #[32, 97, 114, 103, 115, 32]) (ldI .i64 a8 w14.drew fun n16 => ldI .i64 (a8.add 1) w14.drew fun n17 => ldI .i64 (a8.add 2) w14.drew fun n18 => ldI .i64 (a8.add 3) w14.drew fun n19 => c_asm_number n16 w14.drew fun r20 w21 => w21.cell? (a8.add 3) = some (.int .i64 n19) ∧ w21.cell? (a8.add 2) = some (.int .i64 n18) ∧ w21.cell? (a8.add 1) = some (.int .i64 n17) ∧ w21.cell? a1 = some (.string s15) ∧ (catP ((ByteArray.mk #[112, 114, 111, 99, 32] ++ s15) ++ ByteArray.mk #[32, 97, 114, 103, 115, 32]) r20 (catP (((ByteArray.mk #[112, 114, 111, 99, 32] ++ s15) ++ ByteArray.mk #[32, 97, 114, 103, 115, 32]) ++ r20) (ByteArray.mk #[32, 114, 101, 97, 100, 115, 32]) (c_asm_number n17 w21 fun r22 w23 => w23.cell? (a8.add 3) = some (.int .i64 n19) ∧ w23.cell? (a8.add 2) = some (.int .i64 n18) ∧ w23.cell? a1 = some (.string s15) ∧ (catP ((((ByteArray.mk #[112, 114, 111, 99, 32] ++ s15) ++ ByteArray.mk #[32, 97, 114, 103, 115, 32]) ++ r20) ++ ByteArray.mk #[32, 114, 101, 97, 100, 115, 32]) r22 (catP (((((ByteArray.mk #[112, 114, 111, 99, 32] ++ s15) ++ ByteArray.mk #[32, 97, 114, 103, 115, 32]) ++ r20) ++ ByteArray.mk #[32, 114, 101, 97, 100, 115, 32]) ++ r22) (ByteArray.mk #[32, 119, 114, 105, 116, 101, 115, 32]) (c_asm_number n18 w23 fun r24 w25 => w25.cell? (a8.add 3) = some (.int .i64 n19) ∧ w25.cell? a1 = some (.string s15) ∧ (catP ((((((ByteArray.mk #[112, 114, 111, 99, 32] ++ s15) ++ ByteArray.mk #[32, 97, 114, 103, 115, 32]) ++ r20) ++ ByteArray.mk #[32, 114, 101, 97, 100, 115, 32]) ++ r22) ++ ByteArray.mk #[32, 119, 114, 105, 116, 101, 115, 32]) r24 (catP (((((((ByteArray.mk #[112, 114, 111, 99, 32] ++ s15) ++ ByteArray.mk #[32, 97, 114, 103, 115, 32]) ++ r20) ++ ByteArray.mk #[32, 114, 101, 97, 100, 115, 32]) ++ r22) ++ ByteArray.mk #[32, 119, 114, 105, 116, 101, 115, 32]) ++ r24) (ByteArray.mk #[32, 108, 111, 99, 97, 108, 115, 32]) (c_asm_number n19 w25 fun r26 w27 => w27.cell? a1 = some (.string s15) ∧ (catP ((((((((ByteArray.mk #[112, 114, 111, 99, 32] ++ s15) ++ ByteArray.mk #[32, 97, 114, 103, 115, 32]) ++ r20) ++ ByteArray.mk #[32, 114, 101, 97, 100, 115, 32]) ++ r22) ++ ByteArray.mk #[32, 119, 114, 105, 116, 101, 115, 32]) ++ r24) ++ ByteArray.mk #[32, 108, 111, 99, 97, 108, 115, 32]) r26 (catP (((((((((ByteArray.mk #[112, 114, 111, 99, 32] ++ s15) ++ ByteArray.mk #[32, 97, 114, 103, 115, 32]) ++ r20) ++ ByteArray.mk #[32, 114, 101, 97, 100, 115, 32]) ++ r22) ++ ByteArray.mk #[32, 119, 114, 105, 116, 101, 115, 32]) ++ r24) ++ ByteArray.mk #[32, 108, 111, 99, 97, 108, 115, 32]) ++ r26) (ByteArray.mk #[10]) (c_strings_Builder_WriteString x_0 ((((((((((ByteArray.mk #[112, 114, 111, 99, 32] ++ s15) ++ ByteArray.mk #[32, 97, 114, 103, 115, 32]) ++ r20) ++ ByteArray.mk #[32, 114, 101, 97, 100, 115, 32]) ++ r22) ++ ByteArray.mk #[32, 119, 114, 105, 116, 101, 115, 32]) ++ r24) ++ ByteArray.mk #[32, 108, 111, 99, 97, 108, 115, 32]) ++ r26) ++ ByteArray.mk #[10]) w27 fun r28 r29 w30 => (∃ (r31 : Option Nat), ∃ w32, (Instr.makeMap 61 none).run Tryd.prog w30 = .ok (.map r31) w32 ∧ (ldS (a8.add 4) w32 fun s33 => loopP (σ := Int × Unit) (fun st35 next34 w36 => (fun (x37 : Int) => iteB (decide ((x37 : Int) < (s33.l : Int)))
  (idxP s33.a s33.l x37 2 fun a38 => ldI .i64 a38 w36 fun n39 => ldI .i64 (a38.add 1) w36 fun n40 => newP #[.int .i64 0, .int .i64 0] 39 w36 fun a41 w42 => stP a41 (.int .i64 n39) w42 fun w43 => stP (a41.add 1) (.int .i64 n40) w43 fun w44 => ldI .i64 a41 w44 fun n45 => c_asm_jumps n45 w44 fun r46 w47 => iteB r46
  (ldI .i64 (a41.add 1) w47 fun n48 => (∃ (r49 : Int), ∃ w50, (Instr.lookup 61 (.map r31) (.int .i64 n48) false).run Tryd.prog w47 = .ok (.int .i64 r49) w50 ∧ (opU Tryd.prog (Instr.mapUpdate 61 (.map r31) (.int .i64 n48) (.int .i64 (IntKind.i64.wrap (r49 + 1)))) w50 fun w51 => next34 ((IntKind.i64.wrap (x37 + 1)), ()) w51)))
  (next34 ((IntKind.i64.wrap (x37 + 1)), ()) w47))
  (loopP (σ := Int × Unit) (fun st53 next52 w54 => (fun (x55 : Int) => ldS (a8.add 4) w54 fun s56 => iteB (decide ((x55 : Int) ≤ (s56.l : Int)))
  (joinP (σ := Unit) (fun J57 => (∃ (r59 : Int), ∃ w60, (Instr.lookup 61 (.map r31) (.int .i64 x55) false).run Tryd.prog w54 = .ok (.int .i64 r59) w60 ∧ (iteB (decide ((r59 : Int) > 0))
  (c_asm_label x55 w60 fun r61 w62 => catP r61 (ByteArray.mk #[58, 10]) (c_strings_Builder_WriteString x_0 (r61 ++ ByteArray.mk #[58, 10]) w62 fun r63 r64 w65 => J57 (()) w65))
  (J57 (()) w60))))
  (fun st58 w66 => ldS (a8.add 4) w66 fun s67 => iteB ((x55 : Int) == (s67.l : Int))
  (c_strings_Builder_WriteString x_0 (ByteArray.mk #[101, 110, 100, 10]) w66 fun r68 r69 w70 => K w70)
  (ldS (a8.add 4) w66 fun s71 => idxP s71.a s71.l x55 2 fun a72 => ldI .i64 a72 w66 fun n73 => ldI .i64 (a72.add 1) w66 fun n74 => newP #[.int .i64 0, .int .i64 0] 39 w66 fun a75 w76 => stP a75 (.int .i64 n73) w76 fun w77 => stP (a75.add 1) (.int .i64 n74) w77 fun w78 => ldI .i64 a75 w78 fun n79 => c_lang_Spell n79 w78 fun r80 w81 => catP (ByteArray.mk #[32, 32]) r80 (c_strings_Builder_WriteString x_0 (ByteArray.mk #[32, 32] ++ r80) w81 fun r82 r83 w84 => joinP (σ := Unit) (fun J85 => ldI .i64 a75 w84 fun n87 => c_asm_jumps n87 w84 fun r88 w89 => iteB r88
  (ldI .i64 (a75.add 1) w89 fun n90 => c_asm_label n90 w89 fun r91 w92 => catP (ByteArray.mk #[32]) r91 (c_strings_Builder_WriteString x_0 (ByteArray.mk #[32] ++ r91) w92 fun r93 r94 w95 => J85 (()) w95))
  (ldI .i64 a75 w89 fun n96 => c_lang_Wants n96 w89 fun r97 w98 => iteB r97
  (ldI .i64 (a75.add 1) w98 fun n99 => c_codec_Digits n99 w98 fun r100 w101 => catP (ByteArray.mk #[32]) r100 (c_strings_Builder_WriteString x_0 (ByteArray.mk #[32] ++ r100) w101 fun r102 r103 w104 => J85 (()) w104))
  (J85 (()) w98)))
  (fun st86 w105 => c_strings_Builder_WriteString x_0 (ByteArray.mk #[10]) w105 fun r106 r107 w108 => next52 ((IntKind.i64.wrap (x55 + 1)), ()) w108)))))
  (c_strings_Builder_WriteString x_0 (ByteArray.mk #[101, 110, 100, 10]) w54 fun r109 r110 w111 => K w111)) st53.1) (0, ()) w36)) st35.1) (0, ()) w32))))))))))))))))

def c_asm_list (x_0 : Option Addr) (x_1_0 : ByteArray) (x_1_1 : Int) (x_1_2 : Int) (x_1_3 : Int) (x_1_4 : Int) (x_1_5 : Slc) (w : World) (K : World → Prop) : Prop := Calls Tryd.prog 11 #[.pointer x_0, .agg #[.string x_1_0, .int .i64 x_1_1, .int .i64 x_1_2, .int .i64 x_1_3, .int .i64 x_1_4, .slice x_1_5.a x_1_5.l x_1_5.c]] w (onRet (fun v w' => v = .tuple #[] ∧ K w'))

theorem sim_asm_list {x_0 : Option Addr} {x_1_0 : ByteArray} {x_1_1 : Int} {x_1_2 : Int} {x_1_3 : Int} {x_1_4 : Int} {x_1_5 : Slc} {w : World} {K : World → Prop} (h : sh_asm_list c_asm_number c_strings_Builder_WriteString c_asm_jumps c_asm_label c_lang_Spell c_lang_Wants c_codec_Digits x_0 x_1_0 x_1_1 x_1_2 x_1_3 x_1_4 x_1_5 w K) : c_asm_list x_0 x_1_0 x_1_1 x_1_2 x_1_3 x_1_4 x_1_5 w K := by
  have e : sh_asm_list c_asm_number c_strings_Builder_WriteString c_asm_jumps c_asm_label c_lang_Spell c_lang_Wants c_codec_Digits x_0 x_1_0 x_1_1 x_1_2 x_1_3 x_1_4 x_1_5 w K = shF Tryd.prog 11 ⟨[(2, .of [0, 1, 2, 3, 4, 5, 6, 10, 11, 15, 16, 20, 21, 7, 8, 9, 12, 13, 14, 17, 18, 19, 22, 23, 24, 25])], [(5, [(42, (.int .i64))], [0, 4, 5, 40, 41]), (11, [(8, (.int .i64))], [0, 4, 5])], [(15, [], [0, 4, 5, 8]), (22, [], [0, 4, 5, 8])]⟩ [.pointer x_0, .agg #[.string x_1_0, .int .i64 x_1_1, .int .i64 x_1_2, .int .i64 x_1_3, .int .i64 x_1_4, .slice x_1_5.a x_1_5.l x_1_5.c]] w (fun v w' => decU v (K w')) := by kernel_rfl
  exact Calls.mono (calls_of _ e h) (onRet_mono (fun _ _ h => decU_spec h))

-- 12 (*strings.Builder).Len; callees []
def c_strings_Builder_Len (b_0 : Option Addr) (w : World) (K : Int → World → Prop) : Prop := Calls Tryd.prog 12 #[.pointer b_0] w (onRet (fun v w' => ∃ (y0 : Int), v = .int .i64 y0 ∧ K y0 w'))

-- 13 (*strings.Builder).String; callees []
def c_strings_Builder_String (b_0 : Option Addr) (w : World) (K : ByteArray → World → Prop) : Prop := Calls Tryd.prog 13 #[.pointer b_0] w (onRet (fun v w' => ∃ (y0 : ByteArray), v = .string y0 ∧ K y0 w'))

-- 6 prelude/asm.List; callees ['lang_Check', 'asm_list', 'strings_Builder_Len', 'strings_Builder_String']
def sh_asm_List (c_lang_Check : Slc → World → (Int → Int → World → Prop) → Prop) (c_asm_list : Option Addr → ByteArray → Int → Int → Int → Int → Slc → World → (World → Prop) → Prop) (c_strings_Builder_Len : Option Addr → World → (Int → World → Prop) → Prop) (c_strings_Builder_String : Option Addr → World → (ByteArray → World → Prop) → Prop) (lib_0 : Slc) (w : World) (K : ByteArray → Int → World → Prop) : Prop :=
  c_lang_Check lib_0 w fun r1 r2 w3 => iteB ((r2 : Int) != 0)
  (K (ByteArray.mk #[]) r2 w3)
  (newP #[.pointer none, .slice none 0 0] 45 w3 fun a4 w5 => loopP (σ := Int × Unit) (fun st7 next6 w8 => (fun (x9 : Int) => iteB (decide ((x9 : Int) < (lib_0.l : Int)))
  (idxP lib_0.a lib_0.l x9 6 fun a10 => ldStr a10 w8 fun s11 => ldI .i64 (a10.add 1) w8 fun n12 => ldI .i64 (a10.add 2) w8 fun n13 => ldI .i64 (a10.add 3) w8 fun n14 => ldI .i64 (a10.add 4) w8 fun n15 => ldS (a10.add 5) w8 fun s16 => newP #[.string ByteArray.empty, .int .i64 0, .int .i64 0, .int .i64 0, .int .i64 0, .slice none 0 0] 37 w8 fun a17 w18 => stP a17 (.string s11) w18 fun w19 => stP (a17.add 1) (.int .i64 n12) w19 fun w20 => stP (a17.add 2) (.int .i64 n13) w20 fun w21 => stP (a17.add 3) (.int .i64 n14) w21 fun w22 => stP (a17.add 4) (.int .i64 n15) w22 fun w23 => stP (a17.add 5) (.slice s16.a s16.l s16.c) w23 fun w24 => ldStr a17 w24 fun s25 => ldI .i64 (a17.add 1) w24 fun n26 => ldI .i64 (a17.add 2) w24 fun n27 => ldI .i64 (a17.add 3) w24 fun n28 => ldI .i64 (a17.add 4) w24 fun n29 => ldS (a17.add 5) w24 fun s30 => c_asm_list (some a4) s25 n26 n27 n28 n29 s30 w24 fun w31 => next6 ((IntKind.i64.wrap (x9 + 1)), ()) w31)
  (c_strings_Builder_Len (some a4) w8 fun r32 w33 => iteB (decide ((r32 : Int) > 65536))
  (K (ByteArray.mk #[]) 44 w33)
  (c_strings_Builder_String (some a4) w33 fun r34 w35 => K r34 0 w35))) st7.1) (0, ()) w5)

def c_asm_List (lib_0 : Slc) (w : World) (K : ByteArray → Int → World → Prop) : Prop := Calls Tryd.prog 6 #[.slice lib_0.a lib_0.l lib_0.c] w (onRet (fun v w' => ∃ (y0 : ByteArray), ∃ (y1 : Int), v = .tuple #[.string y0, .int .i64 y1] ∧ K y0 y1 w'))

theorem sim_asm_List {lib_0 : Slc} {w : World} {K : ByteArray → Int → World → Prop} (h : sh_asm_List c_lang_Check c_asm_list c_strings_Builder_Len c_strings_Builder_String lib_0 w K) : c_asm_List lib_0 w K := by
  have e : sh_asm_List c_lang_Check c_asm_list c_strings_Builder_Len c_strings_Builder_String lib_0 w K = shF Tryd.prog 6 ⟨[], [(6, [(19, (.int .i64))], [6, 17, 18])], []⟩ [.slice lib_0.a lib_0.l lib_0.c] w (fun v w' => decT [(false, [.str]), (false, [(.int .i64)])] v fun s => (fun (y0 : ByteArray) (y1 : Int) => K y0 y1 w') s.1 s.2.1) := by kernel_rfl
  exact Calls.mono (calls_of _ e h) (onRet_mono (fun _ _ h => by obtain ⟨s, h1, h2⟩ := decT_spec h; exact ⟨s.1, s.2.1, h1, h2⟩))

-- 26 prelude/preluderef03.Name; callees []
def sh_preluderef03_Name (s_0 : ByteArray) (w : World) (K : Bool → World → Prop) : Prop :=
  iteB (decide (((s_0.size : Int) : Int) < 1))
  (K false w)
  (iteB (decide (((s_0.size : Int) : Int) > 31))
  (K false w)
  (loopP (σ := Int × Unit) (fun st2 next1 w3 => (fun (i_4 : Int) => iteB (decide ((i_4 : Int) < (s_0.size : Int)))
  (chP s_0 i_4 fun b5 => iteB (decide ((b5 : Int) ≥ 97))
  (iteB (decide ((b5 : Int) ≤ 122))
  (next1 ((IntKind.i64.wrap (i_4 + 1)), ()) w3)
  (iteB (decide ((b5 : Int) ≥ 65))
  (iteB (!(decide ((b5 : Int) ≤ 90)))
  (iteB ((i_4 : Int) == 0)
  (K false w3)
  (iteB ((b5 : Int) != 95)
  (iteB (decide ((b5 : Int) < 48))
  (K false w3)
  (iteB (decide ((b5 : Int) > 57))
  (K false w3)
  (next1 ((IntKind.i64.wrap (i_4 + 1)), ()) w3)))
  (next1 ((IntKind.i64.wrap (i_4 + 1)), ()) w3)))
  (next1 ((IntKind.i64.wrap (i_4 + 1)), ()) w3))
  (iteB ((i_4 : Int) == 0)
  (K false w3)
  (iteB ((b5 : Int) != 95)
  (iteB (decide ((b5 : Int) < 48))
  (K false w3)
  (iteB (decide ((b5 : Int) > 57))
  (K false w3)
  (next1 ((IntKind.i64.wrap (i_4 + 1)), ()) w3)))
  (next1 ((IntKind.i64.wrap (i_4 + 1)), ()) w3)))))
  (iteB (decide ((b5 : Int) ≥ 65))
  (iteB (!(decide ((b5 : Int) ≤ 90)))
  (iteB ((i_4 : Int) == 0)
  (K false w3)
  (iteB ((b5 : Int) != 95)
  (iteB (decide ((b5 : Int) < 48))
  (K false w3)
  (iteB (decide ((b5 : Int) > 57))
  (K false w3)
  (next1 ((IntKind.i64.wrap (i_4 + 1)), ()) w3)))
  (next1 ((IntKind.i64.wrap (i_4 + 1)), ()) w3)))
  (next1 ((IntKind.i64.wrap (i_4 + 1)), ()) w3))
  (iteB ((i_4 : Int) == 0)
  (K false w3)
  (iteB ((b5 : Int) != 95)
  (iteB (decide ((b5 : Int) < 48))
  (K false w3)
  (iteB (decide ((b5 : Int) > 57))
  (K false w3)
  (next1 ((IntKind.i64.wrap (i_4 + 1)), ()) w3)))
  (next1 ((IntKind.i64.wrap (i_4 + 1)), ()) w3)))))
  (K true w3)) st2.1) (0, ()) w))

def c_preluderef03_Name (s_0 : ByteArray) (w : World) (K : Bool → World → Prop) : Prop := Calls Tryd.prog 26 #[.string s_0] w (onRet (fun v w' => ∃ (y0 : Bool), v = .bool y0 ∧ K y0 w'))

theorem sim_preluderef03_Name {s_0 : ByteArray} {w : World} {K : Bool → World → Prop} (h : sh_preluderef03_Name s_0 w K) : c_preluderef03_Name s_0 w K := by
  have e : sh_preluderef03_Name s_0 w K = shF Tryd.prog 26 ⟨[], [(4, [(3, (.int .i64))], [0])], []⟩ [.string s_0] w (fun v w' => decV .b v fun y0 => K y0 w') := by kernel_rfl
  exact Calls.mono (calls_of _ e h) (onRet_mono (fun _ _ h => decV_spec h))

-- 45 prelude/preluderef03.limits; callees []
def sh_preluderef03_limits (p_0_0 : Int) (p_0_1 : Int) (p_0_2 : Int) (p_0_3 : Int) (p_0_4 : Slc) (w : World) (K : Bool → World → Prop) : Prop :=
  newP #[.int .i64 p_0_0, .int .i64 p_0_1, .int .i64 p_0_2, .int .i64 p_0_3, .slice p_0_4.a p_0_4.l p_0_4.c] 35 w fun a1 w2 => ldI .i64 a1 w2 fun n3 => iteB (decide ((n3 : Int) < 0))
  (K false w2)
  (ldI .i64 a1 w2 fun n4 => iteB (decide ((n4 : Int) > 16))
  (K false w2)
  (ldI .i64 (a1.add 1) w2 fun n5 => iteB (decide ((n5 : Int) < 0))
  (K false w2)
  (ldI .i64 (a1.add 1) w2 fun n6 => iteB (decide ((n6 : Int) > 16))
  (K false w2)
  (ldI .i64 (a1.add 2) w2 fun n7 => iteB (decide ((n7 : Int) < 0))
  (K false w2)
  (ldI .i64 (a1.add 2) w2 fun n8 => iteB (decide ((n8 : Int) > 16))
  (K false w2)
  (ldI .i64 (a1.add 3) w2 fun n9 => iteB (decide ((n9 : Int) ≥ 0))
  (ldI .i64 (a1.add 3) w2 fun n10 => iteB (decide ((n10 : Int) ≤ 16))
  (ldS (a1.add 4) w2 fun s11 => K (decide (((s11.l : Int) : Int) ≤ 256)) w2)
  (K false w2))
  (K false w2)))))))

def c_preluderef03_limits (p_0_0 : Int) (p_0_1 : Int) (p_0_2 : Int) (p_0_3 : Int) (p_0_4 : Slc) (w : World) (K : Bool → World → Prop) : Prop := Calls Tryd.prog 45 #[.agg #[.int .i64 p_0_0, .int .i64 p_0_1, .int .i64 p_0_2, .int .i64 p_0_3, .slice p_0_4.a p_0_4.l p_0_4.c]] w (onRet (fun v w' => ∃ (y0 : Bool), v = .bool y0 ∧ K y0 w'))

theorem sim_preluderef03_limits {p_0_0 : Int} {p_0_1 : Int} {p_0_2 : Int} {p_0_3 : Int} {p_0_4 : Slc} {w : World} {K : Bool → World → Prop} (h : sh_preluderef03_limits p_0_0 p_0_1 p_0_2 p_0_3 p_0_4 w K) : c_preluderef03_limits p_0_0 p_0_1 p_0_2 p_0_3 p_0_4 w K := by
  have e : sh_preluderef03_limits p_0_0 p_0_1 p_0_2 p_0_3 p_0_4 w K = shF Tryd.prog 45 ⟨[], [], []⟩ [.agg #[.int .i64 p_0_0, .int .i64 p_0_1, .int .i64 p_0_2, .int .i64 p_0_3, .slice p_0_4.a p_0_4.l p_0_4.c]] w (fun v w' => decV .b v fun y0 => K y0 w') := by kernel_rfl
  exact Calls.mono (calls_of _ e h) (onRet_mono (fun _ _ h => decV_spec h))

-- 50 prelude/preluderef03.names; callees []
def sh_preluderef03_names (w : World) (K : ByteArray → ByteArray → ByteArray → ByteArray → ByteArray → ByteArray → ByteArray → ByteArray → ByteArray → ByteArray → ByteArray → ByteArray → ByteArray → ByteArray → ByteArray → ByteArray → ByteArray → ByteArray → ByteArray → ByteArray → ByteArray → ByteArray → ByteArray → ByteArray → ByteArray → ByteArray → ByteArray → ByteArray → ByteArray → ByteArray → ByteArray → ByteArray → ByteArray → ByteArray → ByteArray → ByteArray → ByteArray → World → Prop) : Prop :=
  newP #[.string ByteArray.empty, .string ByteArray.empty, .string ByteArray.empty, .string ByteArray.empty, .string ByteArray.empty, .string ByteArray.empty, .string ByteArray.empty, .string ByteArray.empty, .string ByteArray.empty, .string ByteArray.empty, .string ByteArray.empty, .string ByteArray.empty, .string ByteArray.empty, .string ByteArray.empty, .string ByteArray.empty, .string ByteArray.empty, .string ByteArray.empty, .string ByteArray.empty, .string ByteArray.empty, .string ByteArray.empty, .string ByteArray.empty, .string ByteArray.empty, .string ByteArray.empty, .string ByteArray.empty, .string ByteArray.empty, .string ByteArray.empty, .string ByteArray.empty, .string ByteArray.empty, .string ByteArray.empty, .string ByteArray.empty, .string ByteArray.empty, .string ByteArray.empty, .string ByteArray.empty, .string ByteArray.empty, .string ByteArray.empty, .string ByteArray.empty, .string ByteArray.empty] 72 w fun a1 w2 => stP a1 (.string (ByteArray.mk #[115, 116, 111, 112])) w2 fun w3 => stP (a1.add 1) (.string (ByteArray.mk #[112, 117, 115, 104])) w3 fun w4 => stP (a1.add 2) (.string (ByteArray.mk #[112, 111, 112])) w4 fun w5 => stP (a1.add 3) (.string (ByteArray.mk #[100, 117, 112])) w5 fun w6 => stP (a1.add 4) (.string (ByteArray.mk #[108, 111, 97, 100])) w6 fun w7 => stP (a1.add 5) (.string (ByteArray.mk #[115, 97, 118, 101])) w7 fun w8 => stP (a1.add 6) (.string (ByteArray.mk #[97, 114, 103])) w8 fun w9 => stP (a1.add 7) (.string (ByteArray.mk #[103, 101, 116])) w9 fun w10 => stP (a1.add 8) (.string (ByteArray.mk #[104, 97, 115])) w10 fun w11 => stP (a1.add 9) (.string (ByteArray.mk #[103, 101, 116, 120])) w11 fun w12 => stP (a1.add 10) (.string (ByteArray.mk #[97, 100, 100])) w12 fun w13 => stP (a1.add 11) (.string (ByteArray.mk #[115, 117, 98])) w13 fun w14 => stP (a1.add 12) (.string (ByteArray.mk #[109, 117, 108])) w14 fun w15 => stP (a1.add 13) (.string (ByteArray.mk #[100, 105, 118])) w15 fun w16 => stP (a1.add 14) (.string (ByteArray.mk #[109, 111, 100])) w16 fun w17 => stP (a1.add 15) (.string (ByteArray.mk #[97, 110, 100])) w17 fun w18 => stP (a1.add 16) (.string (ByteArray.mk #[111, 114])) w18 fun w19 => stP (a1.add 17) (.string (ByteArray.mk #[120, 111, 114])) w19 fun w20 => stP (a1.add 18) (.string (ByteArray.mk #[115, 104, 108])) w20 fun w21 => stP (a1.add 19) (.string (ByteArray.mk #[115, 104, 114])) w21 fun w22 => stP (a1.add 20) (.string (ByteArray.mk #[110, 101, 103])) w22 fun w23 => stP (a1.add 21) (.string (ByteArray.mk #[110, 111, 116])) w23 fun w24 => stP (a1.add 22) (.string (ByteArray.mk #[101, 113])) w24 fun w25 => stP (a1.add 23) (.string (ByteArray.mk #[110, 101])) w25 fun w26 => stP (a1.add 24) (.string (ByteArray.mk #[108, 116])) w26 fun w27 => stP (a1.add 25) (.string (ByteArray.mk #[108, 101])) w27 fun w28 => stP (a1.add 26) (.string (ByteArray.mk #[103, 116])) w28 fun w29 => stP (a1.add 27) (.string (ByteArray.mk #[103, 101])) w29 fun w30 => stP (a1.add 28) (.string (ByteArray.mk #[109, 105, 110])) w30 fun w31 => stP (a1.add 29) (.string (ByteArray.mk #[109, 97, 120])) w31 fun w32 => stP (a1.add 30) (.string (ByteArray.mk #[106, 117, 109, 112])) w32 fun w33 => stP (a1.add 31) (.string (ByteArray.mk #[122, 101, 114, 111])) w33 fun w34 => stP (a1.add 32) (.string (ByteArray.mk #[112, 117, 116])) w34 fun w35 => stP (a1.add 33) (.string (ByteArray.mk #[100, 101, 108])) w35 fun w36 => stP (a1.add 34) (.string (ByteArray.mk #[112, 117, 116, 120])) w36 fun w37 => stP (a1.add 35) (.string (ByteArray.mk #[111, 117, 116])) w37 fun w38 => stP (a1.add 36) (.string (ByteArray.mk #[97, 98, 111, 114, 116])) w38 fun w39 => ldStr a1 w39 fun s40 => ldStr (a1.add 1) w39 fun s41 => ldStr (a1.add 2) w39 fun s42 => ldStr (a1.add 3) w39 fun s43 => ldStr (a1.add 4) w39 fun s44 => ldStr (a1.add 5) w39 fun s45 => ldStr (a1.add 6) w39 fun s46 => ldStr (a1.add 7) w39 fun s47 => ldStr (a1.add 8) w39 fun s48 => ldStr (a1.add 9) w39 fun s49 => ldStr (a1.add 10) w39 fun s50 => ldStr (a1.add 11) w39 fun s51 => ldStr (a1.add 12) w39 fun s52 => ldStr (a1.add 13) w39 fun s53 => ldStr (a1.add 14) w39 fun s54 => ldStr (a1.add 15) w39 fun s55 => ldStr (a1.add 16) w39 fun s56 => ldStr (a1.add 17) w39 fun s57 => ldStr (a1.add 18) w39 fun s58 => ldStr (a1.add 19) w39 fun s59 => ldStr (a1.add 20) w39 fun s60 => ldStr (a1.add 21) w39 fun s61 => ldStr (a1.add 22) w39 fun s62 => ldStr (a1.add 23) w39 fun s63 => ldStr (a1.add 24) w39 fun s64 => ldStr (a1.add 25) w39 fun s65 => ldStr (a1.add 26) w39 fun s66 => ldStr (a1.add 27) w39 fun s67 => ldStr (a1.add 28) w39 fun s68 => ldStr (a1.add 29) w39 fun s69 => ldStr (a1.add 30) w39 fun s70 => ldStr (a1.add 31) w39 fun s71 => ldStr (a1.add 32) w39 fun s72 => ldStr (a1.add 33) w39 fun s73 => ldStr (a1.add 34) w39 fun s74 => ldStr (a1.add 35) w39 fun s75 => ldStr (a1.add 36) w39 fun s76 => K s40 s41 s42 s43 s44 s45 s46 s47 s48 s49 s50 s51 s52 s53 s54 s55 s56 s57 s58 s59 s60 s61 s62 s63 s64 s65 s66 s67 s68 s69 s70 s71 s72 s73 s74 s75 s76 w39

def c_preluderef03_names (w : World) (K : ByteArray → ByteArray → ByteArray → ByteArray → ByteArray → ByteArray → ByteArray → ByteArray → ByteArray → ByteArray → ByteArray → ByteArray → ByteArray → ByteArray → ByteArray → ByteArray → ByteArray → ByteArray → ByteArray → ByteArray → ByteArray → ByteArray → ByteArray → ByteArray → ByteArray → ByteArray → ByteArray → ByteArray → ByteArray → ByteArray → ByteArray → ByteArray → ByteArray → ByteArray → ByteArray → ByteArray → ByteArray → World → Prop) : Prop := Calls Tryd.prog 50 #[] w (onRet (fun v w' => ∃ (y0 : ByteArray), ∃ (y1 : ByteArray), ∃ (y2 : ByteArray), ∃ (y3 : ByteArray), ∃ (y4 : ByteArray), ∃ (y5 : ByteArray), ∃ (y6 : ByteArray), ∃ (y7 : ByteArray), ∃ (y8 : ByteArray), ∃ (y9 : ByteArray), ∃ (y10 : ByteArray), ∃ (y11 : ByteArray), ∃ (y12 : ByteArray), ∃ (y13 : ByteArray), ∃ (y14 : ByteArray), ∃ (y15 : ByteArray), ∃ (y16 : ByteArray), ∃ (y17 : ByteArray), ∃ (y18 : ByteArray), ∃ (y19 : ByteArray), ∃ (y20 : ByteArray), ∃ (y21 : ByteArray), ∃ (y22 : ByteArray), ∃ (y23 : ByteArray), ∃ (y24 : ByteArray), ∃ (y25 : ByteArray), ∃ (y26 : ByteArray), ∃ (y27 : ByteArray), ∃ (y28 : ByteArray), ∃ (y29 : ByteArray), ∃ (y30 : ByteArray), ∃ (y31 : ByteArray), ∃ (y32 : ByteArray), ∃ (y33 : ByteArray), ∃ (y34 : ByteArray), ∃ (y35 : ByteArray), ∃ (y36 : ByteArray), v = .agg #[.string y0, .string y1, .string y2, .string y3, .string y4, .string y5, .string y6, .string y7, .string y8, .string y9, .string y10, .string y11, .string y12, .string y13, .string y14, .string y15, .string y16, .string y17, .string y18, .string y19, .string y20, .string y21, .string y22, .string y23, .string y24, .string y25, .string y26, .string y27, .string y28, .string y29, .string y30, .string y31, .string y32, .string y33, .string y34, .string y35, .string y36] ∧ K y0 y1 y2 y3 y4 y5 y6 y7 y8 y9 y10 y11 y12 y13 y14 y15 y16 y17 y18 y19 y20 y21 y22 y23 y24 y25 y26 y27 y28 y29 y30 y31 y32 y33 y34 y35 y36 w'))

theorem sim_preluderef03_names {w : World} {K : ByteArray → ByteArray → ByteArray → ByteArray → ByteArray → ByteArray → ByteArray → ByteArray → ByteArray → ByteArray → ByteArray → ByteArray → ByteArray → ByteArray → ByteArray → ByteArray → ByteArray → ByteArray → ByteArray → ByteArray → ByteArray → ByteArray → ByteArray → ByteArray → ByteArray → ByteArray → ByteArray → ByteArray → ByteArray → ByteArray → ByteArray → ByteArray → ByteArray → ByteArray → ByteArray → ByteArray → ByteArray → World → Prop} (h : sh_preluderef03_names w K) : c_preluderef03_names  w K := by
  have e : sh_preluderef03_names w K = shF Tryd.prog 50 ⟨[], [], []⟩ [] w (fun v w' => decA [.str, .str, .str, .str, .str, .str, .str, .str, .str, .str, .str, .str, .str, .str, .str, .str, .str, .str, .str, .str, .str, .str, .str, .str, .str, .str, .str, .str, .str, .str, .str, .str, .str, .str, .str, .str, .str] v fun s => (fun (y0 : ByteArray) (y1 : ByteArray) (y2 : ByteArray) (y3 : ByteArray) (y4 : ByteArray) (y5 : ByteArray) (y6 : ByteArray) (y7 : ByteArray) (y8 : ByteArray) (y9 : ByteArray) (y10 : ByteArray) (y11 : ByteArray) (y12 : ByteArray) (y13 : ByteArray) (y14 : ByteArray) (y15 : ByteArray) (y16 : ByteArray) (y17 : ByteArray) (y18 : ByteArray) (y19 : ByteArray) (y20 : ByteArray) (y21 : ByteArray) (y22 : ByteArray) (y23 : ByteArray) (y24 : ByteArray) (y25 : ByteArray) (y26 : ByteArray) (y27 : ByteArray) (y28 : ByteArray) (y29 : ByteArray) (y30 : ByteArray) (y31 : ByteArray) (y32 : ByteArray) (y33 : ByteArray) (y34 : ByteArray) (y35 : ByteArray) (y36 : ByteArray) => K y0 y1 y2 y3 y4 y5 y6 y7 y8 y9 y10 y11 y12 y13 y14 y15 y16 y17 y18 y19 y20 y21 y22 y23 y24 y25 y26 y27 y28 y29 y30 y31 y32 y33 y34 y35 y36 w') s.1 s.2.1 s.2.2.1 s.2.2.2.1 s.2.2.2.2.1 s.2.2.2.2.2.1 s.2.2.2.2.2.2.1 s.2.2.2.2.2.2.2.1 s.2.2.2.2.2.2.2.2.1 s.2.2.2.2.2.2.2.2.2.1 s.2.2.2.2.2.2.2.2.2.2.1 s.2.2.2.2.2.2.2.2.2.2.2.1 s.2.2.2.2.2.2.2.2.2.2.2.2.1 s.2.2.2.2.2.2.2.2.2.2.2.2.2.1 s.2.2.2.2.2.2.2.2.2.2.2.2.2.2.1 s.2.2.2.2.2.2.2.2.2.2.2.2.2.2.2.1 s.2.2.2.2.2.2.2.2.2.2.2.2.2.2.2.2.1 s.2.2.2.2.2.2.2.2.2.2.2.2.2.2.2.2.2.1 s.2.2.2.2.2.2.2.2.2.2.2.2.2.2.2.2.2.2.1 s.2.2.2.2.2.2.2.2.2.2.2.2.2.2.2.2.2.2.2.1 s.2.2.2.2.2.2.2.2.2.2.2.2.2.2.2.2.2.2.2.2.1 s.2.2.2.2.2.2.2.2.2.2.2.2.2.2.2.2.2.2.2.2.2.1 s.2.2.2.2.2.2.2.2.2.2.2.2.2.2.2.2.2.2.2.2.2.2.1 s.2.2.2.2.2.2.2.2.2.2.2.2.2.2.2.2.2.2.2.2.2.2.2.1 s.2.2.2.2.2.2.2.2.2.2.2.2.2.2.2.2.2.2.2.2.2.2.2.2.1 s.2.2.2.2.2.2.2.2.2.2.2.2.2.2.2.2.2.2.2.2.2.2.2.2.2.1 s.2.2.2.2.2.2.2.2.2.2.2.2.2.2.2.2.2.2.2.2.2.2.2.2.2.2.1 s.2.2.2.2.2.2.2.2.2.2.2.2.2.2.2.2.2.2.2.2.2.2.2.2.2.2.2.1 s.2.2.2.2.2.2.2.2.2.2.2.2.2.2.2.2.2.2.2.2.2.2.2.2.2.2.2.2.1 s.2.2.2.2.2.2.2.2.2.2.2.2.2.2.2.2.2.2.2.2.2.2.2.2.2.2.2.2.2.1 s.2.2.2.2.2.2.2.2.2.2.2.2.2.2.2.2.2.2.2.2.2.2.2.2.2.2.2.2.2.2.1 s.2.2.2.2.2.2.2.2.2.2.2.2.2.2.2.2.2.2.2.2.2.2.2.2.2.2.2.2.2.2.2.1 s.2.2.2.2.2.2.2.2.2.2.2.2.2.2.2.2.2.2.2.2.2.2.2.2.2.2.2.2.2.2.2.2.1 s.2.2.2.2.2.2.2.2.2.2.2.2.2.2.2.2.2.2.2.2.2.2.2.2.2.2.2.2.2.2.2.2.2.1 s.2.2.2.2.2.2.2.2.2.2.2.2.2.2.2.2.2.2.2.2.2.2.2.2.2.2.2.2.2.2.2.2.2.2.1 s.2.2.2.2.2.2.2.2.2.2.2.2.2.2.2.2.2.2.2.2.2.2.2.2.2.2.2.2.2.2.2.2.2.2.2.1 s.2.2.2.2.2.2.2.2.2.2.2.2.2.2.2.2.2.2.2.2.2.2.2.2.2.2.2.2.2.2.2.2.2.2.2.2.1) := by kernel_rfl
  exact Calls.mono (calls_of _ e h) (onRet_mono (fun _ _ h => by obtain ⟨s, h1, h2⟩ := decA_spec h; exact ⟨s.1, s.2.1, s.2.2.1, s.2.2.2.1, s.2.2.2.2.1, s.2.2.2.2.2.1, s.2.2.2.2.2.2.1, s.2.2.2.2.2.2.2.1, s.2.2.2.2.2.2.2.2.1, s.2.2.2.2.2.2.2.2.2.1, s.2.2.2.2.2.2.2.2.2.2.1, s.2.2.2.2.2.2.2.2.2.2.2.1, s.2.2.2.2.2.2.2.2.2.2.2.2.1, s.2.2.2.2.2.2.2.2.2.2.2.2.2.1, s.2.2.2.2.2.2.2.2.2.2.2.2.2.2.1, s.2.2.2.2.2.2.2.2.2.2.2.2.2.2.2.1, s.2.2.2.2.2.2.2.2.2.2.2.2.2.2.2.2.1, s.2.2.2.2.2.2.2.2.2.2.2.2.2.2.2.2.2.1, s.2.2.2.2.2.2.2.2.2.2.2.2.2.2.2.2.2.2.1, s.2.2.2.2.2.2.2.2.2.2.2.2.2.2.2.2.2.2.2.1, s.2.2.2.2.2.2.2.2.2.2.2.2.2.2.2.2.2.2.2.2.1, s.2.2.2.2.2.2.2.2.2.2.2.2.2.2.2.2.2.2.2.2.2.1, s.2.2.2.2.2.2.2.2.2.2.2.2.2.2.2.2.2.2.2.2.2.2.1, s.2.2.2.2.2.2.2.2.2.2.2.2.2.2.2.2.2.2.2.2.2.2.2.1, s.2.2.2.2.2.2.2.2.2.2.2.2.2.2.2.2.2.2.2.2.2.2.2.2.1, s.2.2.2.2.2.2.2.2.2.2.2.2.2.2.2.2.2.2.2.2.2.2.2.2.2.1, s.2.2.2.2.2.2.2.2.2.2.2.2.2.2.2.2.2.2.2.2.2.2.2.2.2.2.1, s.2.2.2.2.2.2.2.2.2.2.2.2.2.2.2.2.2.2.2.2.2.2.2.2.2.2.2.1, s.2.2.2.2.2.2.2.2.2.2.2.2.2.2.2.2.2.2.2.2.2.2.2.2.2.2.2.2.1, s.2.2.2.2.2.2.2.2.2.2.2.2.2.2.2.2.2.2.2.2.2.2.2.2.2.2.2.2.2.1, s.2.2.2.2.2.2.2.2.2.2.2.2.2.2.2.2.2.2.2.2.2.2.2.2.2.2.2.2.2.2.1, s.2.2.2.2.2.2.2.2.2.2.2.2.2.2.2.2.2.2.2.2.2.2.2.2.2.2.2.2.2.2.2.1, s.2.2.2.2.2.2.2.2.2.2.2.2.2.2.2.2.2.2.2.2.2.2.2.2.2.2.2.2.2.2.2.2.1, s.2.2.2.2.2.2.2.2.2.2.2.2.2.2.2.2.2.2.2.2.2.2.2.2.2.2.2.2.2.2.2.2.2.1, s.2.2.2.2.2.2.2.2.2.2.2.2.2.2.2.2.2.2.2.2.2.2.2.2.2.2.2.2.2.2.2.2.2.2.1, s.2.2.2.2.2.2.2.2.2.2.2.2.2.2.2.2.2.2.2.2.2.2.2.2.2.2.2.2.2.2.2.2.2.2.2.1, s.2.2.2.2.2.2.2.2.2.2.2.2.2.2.2.2.2.2.2.2.2.2.2.2.2.2.2.2.2.2.2.2.2.2.2.2.1, h1, h2⟩))

-- 36 prelude/preluderef03.Spell; callees ['preluderef03_names']
def sh_preluderef03_Spell (c_preluderef03_names : World → (ByteArray → ByteArray → ByteArray → ByteArray → ByteArray → ByteArray → ByteArray → ByteArray → ByteArray → ByteArray → ByteArray → ByteArray → ByteArray → ByteArray → ByteArray → ByteArray → ByteArray → ByteArray → ByteArray → ByteArray → ByteArray → ByteArray → ByteArray → ByteArray → ByteArray → ByteArray → ByteArray → ByteArray → ByteArray → ByteArray → ByteArray → ByteArray → ByteArray → ByteArray → ByteArray → ByteArray → ByteArray → World → Prop) → Prop) (op_0 : Int) (w : World) (K : ByteArray → World → Prop) : Prop :=
  iteB (decide ((op_0 : Int) < 0))
  (K (ByteArray.mk #[]) w)
  (iteB (decide ((op_0 : Int) ≥ 37))
  (K (ByteArray.mk #[]) w)
  (c_preluderef03_names  w fun r1 r2 r3 r4 r5 r6 r7 r8 r9 r10 r11 r12 r13 r14 r15 r16 r17 r18 r19 r20 r21 r22 r23 r24 r25 r26 r27 r28 r29 r30 r31 r32 r33 r34 r35 r36 r37 w38 => newP #[.string ByteArray.empty, .string ByteArray.empty, .string ByteArray.empty, .string ByteArray.empty, .string ByteArray.empty, .string ByteArray.empty, .string ByteArray.empty, .string ByteArray.empty, .string ByteArray.empty, .string ByteArray.empty, .string ByteArray.empty, .string ByteArray.empty, .string ByteArray.empty, .string ByteArray.empty, .string ByteArray.empty, .string ByteArray.empty, .string ByteArray.empty, .string ByteArray.empty, .string ByteArray.empty, .string ByteArray.empty, .string ByteArray.empty, .string ByteArray.empty, .string ByteArray.empty, .string ByteArray.empty, .string ByteArray.empty, .string ByteArray.empty, .string ByteArray.empty, .string ByteArray.empty, .string ByteArray.empty, .string ByteArray.empty, .string ByteArray.empty, .string ByteArray.empty, .string ByteArray.empty, .string ByteArray.empty, .string ByteArray.empty, .string ByteArray.empty, .string ByteArray.empty] 72 w38 fun a39 w40 => stP a39 (.string r1) w40 fun w41 => stP (a39.add 1) (.string r2) w41 fun w42 => stP (a39.add 2) (.string r3) w42 fun w43 => stP (a39.add 3) (.string r4) w43 fun w44 => stP (a39.add 4) (.string r5) w44 fun w45 => stP (a39.add 5) (.string r6) w45 fun w46 => stP (a39.add 6) (.string r7) w46 fun w47 => stP (a39.add 7) (.string r8) w47 fun w48 => stP (a39.add 8) (.string r9) w48 fun w49 => stP (a39.add 9) (.string r10) w49 fun w50 => stP (a39.add 10) (.string r11) w50 fun w51 => stP (a39.add 11) (.string r12) w51 fun w52 => stP (a39.add 12) (.string r13) w52 fun w53 => stP (a39.add 13) (.string r14) w53 fun w54 => stP (a39.add 14) (.string r15) w54 fun w55 => stP (a39.add 15) (.string r16) w55 fun w56 => stP (a39.add 16) (.string r17) w56 fun w57 => stP (a39.add 17) (.string r18) w57 fun w58 => stP (a39.add 18) (.string r19) w58 fun w59 => stP (a39.add 19) (.string r20) w59 fun w60 => stP (a39.add 20) (.string r21) w60 fun w61 => stP (a39.add 21) (.string r22) w61 fun w62 => stP (a39.add 22) (.string r23) w62 fun w63 => stP (a39.add 23) (.string r24) w63 fun w64 => stP (a39.add 24) (.string r25) w64 fun w65 => stP (a39.add 25) (.string r26) w65 fun w66 => stP (a39.add 26) (.string r27) w66 fun w67 => stP (a39.add 27) (.string r28) w67 fun w68 => stP (a39.add 28) (.string r29) w68 fun w69 => stP (a39.add 29) (.string r30) w69 fun w70 => stP (a39.add 30) (.string r31) w70 fun w71 => stP (a39.add 31) (.string r32) w71 fun w72 => stP (a39.add 32) (.string r33) w72 fun w73 => stP (a39.add 33) (.string r34) w73 fun w74 => stP (a39.add 34) (.string r35) w74 fun w75 => stP (a39.add 35) (.string r36) w75 fun w76 => stP (a39.add 36) (.string r37) w76 fun w77 => arrP 37 op_0 (ldStr (a39.add (Int.toNat op_0 * 1)) w77 fun s78 => K s78 w77)))

def c_preluderef03_Spell (op_0 : Int) (w : World) (K : ByteArray → World → Prop) : Prop := Calls Tryd.prog 36 #[.int .i64 op_0] w (onRet (fun v w' => ∃ (y0 : ByteArray), v = .string y0 ∧ K y0 w'))

theorem sim_preluderef03_Spell {op_0 : Int} {w : World} {K : ByteArray → World → Prop} (h : sh_preluderef03_Spell c_preluderef03_names op_0 w K) : c_preluderef03_Spell op_0 w K := by
  have e : sh_preluderef03_Spell c_preluderef03_names op_0 w K = shF Tryd.prog 36 ⟨[], [], []⟩ [.int .i64 op_0] w (fun v w' => decV .str v fun y0 => K y0 w') := by kernel_rfl
  exact Calls.mono (calls_of _ e h) (onRet_mono (fun _ _ h => decV_spec h))

-- 46 prelude/preluderef03.is; callees ['preluderef03_Spell']
def sh_preluderef03_is (c_preluderef03_Spell : Int → World → (ByteArray → World → Prop) → Prop) (op_0 : Int) (a_1 : ByteArray) (b_2 : ByteArray) (c_3 : ByteArray) (d_4 : ByteArray) (w : World) (K : Bool → World → Prop) : Prop :=
  c_preluderef03_Spell op_0 w fun r1 w2 => iteB (!((r1).toList == (ByteArray.mk #[]).toList))
  (iteB ((r1).toList == (a_1).toList)
  (K true w2)
  (iteB ((r1).toList == (b_2).toList)
  (K true w2)
  (iteB ((r1).toList == (c_3).toList)
  (K true w2)
  (K ((r1).toList == (d_4).toList) w2))))
  (K false w2)

def c_preluderef03_is (op_0 : Int) (a_1 : ByteArray) (b_2 : ByteArray) (c_3 : ByteArray) (d_4 : ByteArray) (w : World) (K : Bool → World → Prop) : Prop := Calls Tryd.prog 46 #[.int .i64 op_0, .string a_1, .string b_2, .string c_3, .string d_4] w (onRet (fun v w' => ∃ (y0 : Bool), v = .bool y0 ∧ K y0 w'))

theorem sim_preluderef03_is {op_0 : Int} {a_1 : ByteArray} {b_2 : ByteArray} {c_3 : ByteArray} {d_4 : ByteArray} {w : World} {K : Bool → World → Prop} (h : sh_preluderef03_is c_preluderef03_Spell op_0 a_1 b_2 c_3 d_4 w K) : c_preluderef03_is op_0 a_1 b_2 c_3 d_4 w K := by
  have e : sh_preluderef03_is c_preluderef03_Spell op_0 a_1 b_2 c_3 d_4 w K = shF Tryd.prog 46 ⟨[], [], []⟩ [.int .i64 op_0, .string a_1, .string b_2, .string c_3, .string d_4] w (fun v w' => decV .b v fun y0 => K y0 w') := by kernel_rfl
  exact Calls.mono (calls_of _ e h) (onRet_mono (fun _ _ h => decV_spec h))

-- 47 prelude/preluderef03.argument; callees ['preluderef03_Spell']
def sh_preluderef03_argument (c_preluderef03_Spell : Int → World → (ByteArray → World → Prop) → Prop) (p_0_0 : Int) (p_0_1 : Int) (p_0_2 : Int) (p_0_3 : Int) (p_0_4 : Slc) (x_1_0 : Int) (x_1_1 : Int) (w : World) (K : Bool → World → Prop) : Prop :=
  newP #[.int .i64 p_0_0, .int .i64 p_0_1, .int .i64 p_0_2, .int .i64 p_0_3, .slice p_0_4.a p_0_4.l p_0_4.c] 35 w fun a1 w2 => newP #[.int .i64 x_1_0, .int .i64 x_1_1] 39 w2 fun a3 w4 => ldI .i64 a3 w4 fun n5 => c_preluderef03_Spell n5 w4 fun r6 w7 => iteB ((r6).toList == (ByteArray.mk #[112, 117, 115, 104]).toList)
  (K true w7)
  (iteB ((r6).toList == (ByteArray.mk #[106, 117, 109, 112]).toList)
  (K true w7)
  (iteB ((r6).toList == (ByteArray.mk #[122, 101, 114, 111]).toList)
  (K true w7)
  (iteB ((r6).toList == (ByteArray.mk #[108, 111, 97, 100]).toList)
  (ldI .i64 (a1.add 3) w7 fun n8 => ldI .i64 (a3.add 1) w7 fun n9 => iteB (decide ((n9 : Int) ≥ 0))
  (ldI .i64 (a3.add 1) w7 fun n10 => K (decide ((n10 : Int) < n8)) w7)
  (K false w7))
  (iteB ((r6).toList == (ByteArray.mk #[115, 97, 118, 101]).toList)
  (ldI .i64 (a1.add 3) w7 fun n11 => ldI .i64 (a3.add 1) w7 fun n12 => iteB (decide ((n12 : Int) ≥ 0))
  (ldI .i64 (a3.add 1) w7 fun n13 => K (decide ((n13 : Int) < n11)) w7)
  (K false w7))
  (iteB ((r6).toList == (ByteArray.mk #[97, 114, 103]).toList)
  (ldI .i64 a1 w7 fun n14 => ldI .i64 (a3.add 1) w7 fun n15 => iteB (decide ((n15 : Int) ≥ 0))
  (ldI .i64 (a3.add 1) w7 fun n16 => K (decide ((n16 : Int) < n14)) w7)
  (K false w7))
  (iteB ((r6).toList == (ByteArray.mk #[103, 101, 116]).toList)
  (ldI .i64 (a1.add 1) w7 fun n17 => ldI .i64 (a3.add 1) w7 fun n18 => iteB (decide ((n18 : Int) ≥ 0))
  (ldI .i64 (a3.add 1) w7 fun n19 => K (decide ((n19 : Int) < n17)) w7)
  (K false w7))
  (iteB ((r6).toList == (ByteArray.mk #[104, 97, 115]).toList)
  (ldI .i64 (a1.add 1) w7 fun n20 => ldI .i64 (a3.add 1) w7 fun n21 => iteB (decide ((n21 : Int) ≥ 0))
  (ldI .i64 (a3.add 1) w7 fun n22 => K (decide ((n22 : Int) < n20)) w7)
  (K false w7))
  (iteB ((r6).toList == (ByteArray.mk #[112, 117, 116]).toList)
  (ldI .i64 (a1.add 2) w7 fun n23 => ldI .i64 (a3.add 1) w7 fun n24 => iteB (decide ((n24 : Int) ≥ 0))
  (ldI .i64 (a3.add 1) w7 fun n25 => K (decide ((n25 : Int) < n23)) w7)
  (K false w7))
  (iteB ((r6).toList == (ByteArray.mk #[100, 101, 108]).toList)
  (ldI .i64 (a1.add 2) w7 fun n26 => ldI .i64 (a3.add 1) w7 fun n27 => iteB (decide ((n27 : Int) ≥ 0))
  (ldI .i64 (a3.add 1) w7 fun n28 => K (decide ((n28 : Int) < n26)) w7)
  (K false w7))
  (ldI .i64 (a3.add 1) w7 fun n29 => K ((n29 : Int) == 0) w7))))))))))

def c_preluderef03_argument (p_0_0 : Int) (p_0_1 : Int) (p_0_2 : Int) (p_0_3 : Int) (p_0_4 : Slc) (x_1_0 : Int) (x_1_1 : Int) (w : World) (K : Bool → World → Prop) : Prop := Calls Tryd.prog 47 #[.agg #[.int .i64 p_0_0, .int .i64 p_0_1, .int .i64 p_0_2, .int .i64 p_0_3, .slice p_0_4.a p_0_4.l p_0_4.c], .agg #[.int .i64 x_1_0, .int .i64 x_1_1]] w (onRet (fun v w' => ∃ (y0 : Bool), v = .bool y0 ∧ K y0 w'))

theorem sim_preluderef03_argument {p_0_0 : Int} {p_0_1 : Int} {p_0_2 : Int} {p_0_3 : Int} {p_0_4 : Slc} {x_1_0 : Int} {x_1_1 : Int} {w : World} {K : Bool → World → Prop} (h : sh_preluderef03_argument c_preluderef03_Spell p_0_0 p_0_1 p_0_2 p_0_3 p_0_4 x_1_0 x_1_1 w K) : c_preluderef03_argument p_0_0 p_0_1 p_0_2 p_0_3 p_0_4 x_1_0 x_1_1 w K := by
  have e : sh_preluderef03_argument c_preluderef03_Spell p_0_0 p_0_1 p_0_2 p_0_3 p_0_4 x_1_0 x_1_1 w K = shF Tryd.prog 47 ⟨[], [], []⟩ [.agg #[.int .i64 p_0_0, .int .i64 p_0_1, .int .i64 p_0_2, .int .i64 p_0_3, .slice p_0_4.a p_0_4.l p_0_4.c], .agg #[.int .i64 x_1_0, .int .i64 x_1_1]] w (fun v w' => decV .b v fun y0 => K y0 w') := by kernel_rfl
  exact Calls.mono (calls_of _ e h) (onRet_mono (fun _ _ h => decV_spec h))

-- 48 prelude/preluderef03.Takes; callees ['preluderef03_Spell']
def sh_preluderef03_Takes (c_preluderef03_Spell : Int → World → (ByteArray → World → Prop) → Prop) (op_0 : Int) (w : World) (K : Int → Int → World → Prop) : Prop :=
  c_preluderef03_Spell op_0 w fun r1 w2 => iteB ((r1).toList == (ByteArray.mk #[115, 116, 111, 112]).toList)
  (K 0 0 w2)
  (iteB ((r1).toList == (ByteArray.mk #[100, 101, 108]).toList)
  (K 0 0 w2)
  (iteB ((r1).toList == (ByteArray.mk #[106, 117, 109, 112]).toList)
  (K 0 0 w2)
  (iteB ((r1).toList == (ByteArray.mk #[112, 117, 115, 104]).toList)
  (K 0 1 w2)
  (iteB ((r1).toList == (ByteArray.mk #[108, 111, 97, 100]).toList)
  (K 0 1 w2)
  (iteB ((r1).toList == (ByteArray.mk #[97, 114, 103]).toList)
  (K 0 1 w2)
  (iteB ((r1).toList == (ByteArray.mk #[103, 101, 116]).toList)
  (K 0 1 w2)
  (iteB ((r1).toList == (ByteArray.mk #[104, 97, 115]).toList)
  (K 0 1 w2)
  (iteB ((r1).toList == (ByteArray.mk #[112, 111, 112]).toList)
  (K 1 0 w2)
  (iteB ((r1).toList == (ByteArray.mk #[115, 97, 118, 101]).toList)
  (K 1 0 w2)
  (iteB ((r1).toList == (ByteArray.mk #[122, 101, 114, 111]).toList)
  (K 1 0 w2)
  (iteB ((r1).toList == (ByteArray.mk #[112, 117, 116]).toList)
  (K 1 0 w2)
  (iteB ((r1).toList == (ByteArray.mk #[111, 117, 116]).toList)
  (K 1 0 w2)
  (iteB ((r1).toList == (ByteArray.mk #[97, 98, 111, 114, 116]).toList)
  (K 1 0 w2)
  (iteB ((r1).toList == (ByteArray.mk #[103, 101, 116, 120]).toList)
  (K 1 1 w2)
  (iteB ((r1).toList == (ByteArray.mk #[110, 101, 103]).toList)
  (K 1 1 w2)
  (iteB ((r1).toList == (ByteArray.mk #[110, 111, 116]).toList)
  (K 1 1 w2)
  (iteB ((r1).toList == (ByteArray.mk #[100, 117, 112]).toList)
  (K 1 2 w2)
  (iteB ((r1).toList == (ByteArray.mk #[112, 117, 116, 120]).toList)
  (K 2 0 w2)
  (K 2 1 w2)))))))))))))))))))

def c_preluderef03_Takes (op_0 : Int) (w : World) (K : Int → Int → World → Prop) : Prop := Calls Tryd.prog 48 #[.int .i64 op_0] w (onRet (fun v w' => ∃ (y0 : Int), ∃ (y1 : Int), v = .tuple #[.int .i64 y0, .int .i64 y1] ∧ K y0 y1 w'))

theorem sim_preluderef03_Takes {op_0 : Int} {w : World} {K : Int → Int → World → Prop} (h : sh_preluderef03_Takes c_preluderef03_Spell op_0 w K) : c_preluderef03_Takes op_0 w K := by
  have e : sh_preluderef03_Takes c_preluderef03_Spell op_0 w K = shF Tryd.prog 48 ⟨[], [], []⟩ [.int .i64 op_0] w (fun v w' => decT [(false, [(.int .i64)]), (false, [(.int .i64)])] v fun s => (fun (y0 : Int) (y1 : Int) => K y0 y1 w') s.1 s.2.1) := by kernel_rfl
  exact Calls.mono (calls_of _ e h) (onRet_mono (fun _ _ h => by obtain ⟨s, h1, h2⟩ := decT_spec h; exact ⟨s.1, s.2.1, h1, h2⟩))

-- 49 prelude/preluderef03.Next; callees ['preluderef03_Spell']
def sh_preluderef03_Next (c_preluderef03_Spell : Int → World → (ByteArray → World → Prop) → Prop) (p_0_0 : Int) (p_0_1 : Int) (p_0_2 : Int) (p_0_3 : Int) (p_0_4 : Slc) (at_1 : Int) (w : World) (K : Slc → World → Prop) : Prop :=
  newP #[.int .i64 p_0_0, .int .i64 p_0_1, .int .i64 p_0_2, .int .i64 p_0_3, .slice p_0_4.a p_0_4.l p_0_4.c] 35 w fun a1 w2 => ldS (a1.add 4) w2 fun s3 => idxP s3.a s3.l at_1 2 fun a4 => ldI .i64 a4 w2 fun n5 => ldI .i64 (a4.add 1) w2 fun n6 => newP #[.int .i64 0, .int .i64 0] 39 w2 fun a7 w8 => stP a7 (.int .i64 n5) w8 fun w9 => stP (a7.add 1) (.int .i64 n6) w9 fun w10 => ldI .i64 a7 w10 fun n11 => c_preluderef03_Spell n11 w10 fun r12 w13 => iteB ((r12).toList == (ByteArray.mk #[115, 116, 111, 112]).toList)
  (K ⟨none, 0, 0⟩ w13)
  (iteB ((r12).toList == (ByteArray.mk #[97, 98, 111, 114, 116]).toList)
  (K ⟨none, 0, 0⟩ w13)
  (iteB ((r12).toList == (ByteArray.mk #[106, 117, 109, 112]).toList)
  (ldI .i64 (a7.add 1) w13 fun n14 => newP #[.int .i64 n14] 3 w13 fun a15 w16 => K ⟨(some a15), 1, 1⟩ w16)
  (iteB ((r12).toList == (ByteArray.mk #[122, 101, 114, 111]).toList)
  (ldI .i64 (a7.add 1) w13 fun n17 => newP #[.int .i64 (IntKind.i64.wrap (at_1 + 1)), .int .i64 n17] 3 w13 fun a18 w19 => K ⟨(some a18), 2, 2⟩ w19)
  (newP #[.int .i64 (IntKind.i64.wrap (at_1 + 1))] 3 w13 fun a20 w21 => K ⟨(some a20), 1, 1⟩ w21))))

def c_preluderef03_Next (p_0_0 : Int) (p_0_1 : Int) (p_0_2 : Int) (p_0_3 : Int) (p_0_4 : Slc) (at_1 : Int) (w : World) (K : Slc → World → Prop) : Prop := Calls Tryd.prog 49 #[.agg #[.int .i64 p_0_0, .int .i64 p_0_1, .int .i64 p_0_2, .int .i64 p_0_3, .slice p_0_4.a p_0_4.l p_0_4.c], .int .i64 at_1] w (onRet (fun v w' => ∃ (y0 : Slc), v = .slice y0.a y0.l y0.c ∧ K y0 w'))

theorem sim_preluderef03_Next {p_0_0 : Int} {p_0_1 : Int} {p_0_2 : Int} {p_0_3 : Int} {p_0_4 : Slc} {at_1 : Int} {w : World} {K : Slc → World → Prop} (h : sh_preluderef03_Next c_preluderef03_Spell p_0_0 p_0_1 p_0_2 p_0_3 p_0_4 at_1 w K) : c_preluderef03_Next p_0_0 p_0_1 p_0_2 p_0_3 p_0_4 at_1 w K := by
  have e : sh_preluderef03_Next c_preluderef03_Spell p_0_0 p_0_1 p_0_2 p_0_3 p_0_4 at_1 w K = shF Tryd.prog 49 ⟨[], [], []⟩ [.agg #[.int .i64 p_0_0, .int .i64 p_0_1, .int .i64 p_0_2, .int .i64 p_0_3, .slice p_0_4.a p_0_4.l p_0_4.c], .int .i64 at_1] w (fun v w' => decV .sl v fun y0 => K y0 w') := by kernel_rfl
  exact Calls.mono (calls_of _ e h) (onRet_mono (fun _ _ h => decV_spec h))

-- 35 prelude/preluderef03.Depths; callees ['preluderef03_limits', 'preluderef03_is', 'preluderef03_argument', 'preluderef03_Takes', 'preluderef03_Next']
def sh_preluderef03_Depths (c_preluderef03_limits : Int → Int → Int → Int → Slc → World → (Bool → World → Prop) → Prop) (c_preluderef03_is : Int → ByteArray → ByteArray → ByteArray → ByteArray → World → (Bool → World → Prop) → Prop) (c_preluderef03_argument : Int → Int → Int → Int → Slc → Int → Int → World → (Bool → World → Prop) → Prop) (c_preluderef03_Takes : Int → World → (Int → Int → World → Prop) → Prop) (c_preluderef03_Next : Int → Int → Int → Int → Slc → Int → World → (Slc → World → Prop) → Prop) (x_0_0 : Int) (x_0_1 : Int) (x_0_2 : Int) (x_0_3 : Int) (x_0_4 : Slc) (w : World) (K : Slc → Int → World → Prop) : Prop :=
  newP #[.int .i64 x_0_0, .int .i64 x_0_1, .int .i64 x_0_2, .int .i64 x_0_3, .slice x_0_4.a x_0_4.l x_0_4.c] 35 w fun a1 w2 => ldI .i64 a1 w2 fun n3 => ldI .i64 (a1.add 1) w2 fun n4 => ldI .i64 (a1.add 2) w2 fun n5 => ldI .i64 (a1.add 3) w2 fun n6 => ldS (a1.add 4) w2 fun s7 => c_preluderef03_limits n3 n4 n5 n6 s7 w2 fun r8 w9 => iteB (!r8)
  (K ⟨none, 0, 0⟩ 30 w9)
  (loopP (σ := Int × Unit) (fun st11 next10 w12 => (fun (x13 : Int) => ldS (a1.add 4) w12 fun s14 => iteB (decide ((x13 : Int) < (s14.l : Int)))
  (ldS (a1.add 4) w12 fun s15 => idxP s15.a s15.l x13 2 fun a16 => ldI .i64 a16 w12 fun n17 => ldI .i64 (a16.add 1) w12 fun n18 => newP #[.int .i64 0, .int .i64 0] 39 w12 fun a19 w20 => stP a19 (.int .i64 n17) w20 fun w21 => stP (a19.add 1) (.int .i64 n18) w21 fun w22 => ldI .i64 a19 w22 fun n23 => iteB (decide ((n23 : Int) < 0))
  (K ⟨none, 0, 0⟩ 31 w22)
  (ldI .i64 a19 w22 fun n24 => iteB (decide ((n24 : Int) ≥ 37))
  (K ⟨none, 0, 0⟩ 31 w22)
  (ldI .i64 a19 w22 fun n25 => c_preluderef03_is n25 (ByteArray.mk #[106, 117, 109, 112]) (ByteArray.mk #[122, 101, 114, 111]) (ByteArray.mk #[]) (ByteArray.mk #[]) w22 fun r26 w27 => iteB r26
  (ldI .i64 (a19.add 1) w27 fun n28 => iteB (decide ((n28 : Int) ≤ x13))
  (K ⟨none, 0, 0⟩ 33 w27)
  (ldI .i64 (a19.add 1) w27 fun n29 => ldS (a1.add 4) w27 fun s30 => iteB (decide ((n29 : Int) > (s30.l : Int)))
  (K ⟨none, 0, 0⟩ 33 w27)
  (ldI .i64 a1 w27 fun n31 => ldI .i64 (a1.add 1) w27 fun n32 => ldI .i64 (a1.add 2) w27 fun n33 => ldI .i64 (a1.add 3) w27 fun n34 => ldS (a1.add 4) w27 fun s35 => ldI .i64 a19 w27 fun n36 => ldI .i64 (a19.add 1) w27 fun n37 => c_preluderef03_argument n31 n32 n33 n34 s35 n36 n37 w27 fun r38 w39 => iteB (!r38)
  (K ⟨none, 0, 0⟩ 32 w39)
  (next10 ((IntKind.i64.wrap (x13 + 1)), ()) w39))))
  (ldI .i64 a1 w27 fun n40 => ldI .i64 (a1.add 1) w27 fun n41 => ldI .i64 (a1.add 2) w27 fun n42 => ldI .i64 (a1.add 3) w27 fun n43 => ldS (a1.add 4) w27 fun s44 => ldI .i64 a19 w27 fun n45 => ldI .i64 (a19.add 1) w27 fun n46 => c_preluderef03_argument n40 n41 n42 n43 s44 n45 n46 w27 fun r47 w48 => iteB (!r47)
  (K ⟨none, 0, 0⟩ 32 w48)
  (next10 ((IntKind.i64.wrap (x13 + 1)), ()) w48)))))
  (newP #[.int .i64 0] 3 w12 fun a49 w50 => loopP (σ := Slc × Int × Unit) (fun st52 next51 w53 => (fun (x54 : Slc) (x55 : Int) => ldS (a1.add 4) w53 fun s56 => iteB (decide ((x55 : Int) < (s56.l : Int)))
  (newP #[.int .i64 (-1)] 3 w53 fun a57 w58 => apP Tryd.prog #[69, 69] 69 [.slice x54.a x54.l x54.c, .slice (some a57) 1 1] w58 fun s60 w59 => next51 (s60, (IntKind.i64.wrap (x55 + 1)), ()) w59)
  (loopP (σ := Int × Unit) (fun st62 next61 w63 => (fun (x64 : Int) => ldS (a1.add 4) w63 fun s65 => iteB (decide ((x64 : Int) < (s65.l : Int)))
  (idxP x54.a x54.l x64 1 fun a66 => ldI .i64 a66 w63 fun n67 => iteB (decide ((n67 : Int) < 0))
  (next61 ((IntKind.i64.wrap (x64 + 1)), ()) w63)
  (ldS (a1.add 4) w63 fun s68 => idxP s68.a s68.l x64 2 fun a69 => ldI .i64 a69 w63 fun n70 => c_preluderef03_Takes n70 w63 fun r71 r72 w73 => idxP x54.a x54.l x64 1 fun a74 => ldI .i64 a74 w73 fun n75 => iteB (decide (((IntKind.i64.wrap (n75 - r71)) : Int) < 0))
  (K ⟨none, 0, 0⟩ 34 w73)
  (iteB (decide (((IntKind.i64.wrap ((IntKind.i64.wrap (n75 - r71)) + r72)) : Int) > 32))
  (K ⟨none, 0, 0⟩ 34 w73)
  (ldI .i64 a1 w73 fun n76 => ldI .i64 (a1.add 1) w73 fun n77 => ldI .i64 (a1.add 2) w73 fun n78 => ldI .i64 (a1.add 3) w73 fun n79 => ldS (a1.add 4) w73 fun s80 => c_preluderef03_Next n76 n77 n78 n79 s80 x64 w73 fun r81 w82 => loopP (σ := Int × Unit) (fun st84 next83 w85 => (fun (x86 : Int) => iteB (decide ((x86 : Int) < (r81.l : Int)))
  (idxP r81.a r81.l x86 1 fun a87 => ldI .i64 a87 w85 fun n88 => idxP x54.a x54.l n88 1 fun a89 => ldI .i64 a89 w85 fun n90 => iteB (decide ((n90 : Int) ≥ 0))
  (idxP r81.a r81.l x86 1 fun a91 => ldI .i64 a91 w85 fun n92 => idxP x54.a x54.l n92 1 fun a93 => ldI .i64 a93 w85 fun n94 => iteB ((n94 : Int) != (IntKind.i64.wrap ((IntKind.i64.wrap (n75 - r71)) + r72)))
  (K ⟨none, 0, 0⟩ 34 w85)
  (idxP r81.a r81.l x86 1 fun a95 => ldI .i64 a95 w85 fun n96 => idxP x54.a x54.l n96 1 fun a97 => stP a97 (.int .i64 (IntKind.i64.wrap ((IntKind.i64.wrap (n75 - r71)) + r72))) w85 fun w98 => next83 ((IntKind.i64.wrap (x86 + 1)), ()) w98))
  (idxP r81.a r81.l x86 1 fun a99 => ldI .i64 a99 w85 fun n100 => idxP x54.a x54.l n100 1 fun a101 => stP a101 (.int .i64 (IntKind.i64.wrap ((IntKind.i64.wrap (n75 - r71)) + r72))) w85 fun w102 => next83 ((IntKind.i64.wrap (x86 + 1)), ()) w102))
  (next61 ((IntKind.i64.wrap (x64 + 1)), ()) w85)) st84.1) (0, ()) w82))))
  (K x54 0 w63)) st62.1) (0, ()) w53)) st52.1 st52.2.1) (⟨(some a49), 1, 1⟩, 0, ()) w50)) st11.1) (0, ()) w9)

def c_preluderef03_Depths (x_0_0 : Int) (x_0_1 : Int) (x_0_2 : Int) (x_0_3 : Int) (x_0_4 : Slc) (w : World) (K : Slc → Int → World → Prop) : Prop := Calls Tryd.prog 35 #[.agg #[.int .i64 x_0_0, .int .i64 x_0_1, .int .i64 x_0_2, .int .i64 x_0_3, .slice x_0_4.a x_0_4.l x_0_4.c]] w (onRet (fun v w' => ∃ (y0 : Slc), ∃ (y1 : Int), v = .tuple #[.slice y0.a y0.l y0.c, .int .i64 y1] ∧ K y0 y1 w'))

theorem sim_preluderef03_Depths {x_0_0 : Int} {x_0_1 : Int} {x_0_2 : Int} {x_0_3 : Int} {x_0_4 : Slc} {w : World} {K : Slc → Int → World → Prop} (h : sh_preluderef03_Depths c_preluderef03_limits c_preluderef03_is c_preluderef03_argument c_preluderef03_Takes c_preluderef03_Next x_0_0 x_0_1 x_0_2 x_0_3 x_0_4 w K) : c_preluderef03_Depths x_0_0 x_0_1 x_0_2 x_0_3 x_0_4 w K := by
  have e : sh_preluderef03_Depths c_preluderef03_limits c_preluderef03_is c_preluderef03_argument c_preluderef03_Takes c_preluderef03_Next x_0_0 x_0_1 x_0_2 x_0_3 x_0_4 w K = shF Tryd.prog 35 ⟨[], [(4, [(4, (.int .i64))], [1]), (15, [(6, .sl), (7, (.int .i64))], [1]), (19, [(8, (.int .i64))], [1, 6]), (29, [(13, (.int .i64))], [1, 6, 8, 11, 12])], []⟩ [.agg #[.int .i64 x_0_0, .int .i64 x_0_1, .int .i64 x_0_2, .int .i64 x_0_3, .slice x_0_4.a x_0_4.l x_0_4.c]] w (fun v w' => decT [(false, [.sl]), (false, [(.int .i64)])] v fun s => (fun (y0 : Slc) (y1 : Int) => K y0 y1 w') s.1 s.2.1) := by kernel_rfl
  exact Calls.mono (calls_of _ e h) (onRet_mono (fun _ _ h => by obtain ⟨s, h1, h2⟩ := decT_spec h; exact ⟨s.1, s.2.1, h1, h2⟩))

-- 27 prelude/preluderef03.Verify; callees ['preluderef03_Depths']
def sh_preluderef03_Verify (c_preluderef03_Depths : Int → Int → Int → Int → Slc → World → (Slc → Int → World → Prop) → Prop) (p_0_0 : Int) (p_0_1 : Int) (p_0_2 : Int) (p_0_3 : Int) (p_0_4 : Slc) (w : World) (K : Int → World → Prop) : Prop :=
  newP #[.int .i64 p_0_0, .int .i64 p_0_1, .int .i64 p_0_2, .int .i64 p_0_3, .slice p_0_4.a p_0_4.l p_0_4.c] 35 w fun a1 w2 => ldI .i64 a1 w2 fun n3 => ldI .i64 (a1.add 1) w2 fun n4 => ldI .i64 (a1.add 2) w2 fun n5 => ldI .i64 (a1.add 3) w2 fun n6 => ldS (a1.add 4) w2 fun s7 => c_preluderef03_Depths n3 n4 n5 n6 s7 w2 fun r8 r9 w10 => K r9 w10

def c_preluderef03_Verify (p_0_0 : Int) (p_0_1 : Int) (p_0_2 : Int) (p_0_3 : Int) (p_0_4 : Slc) (w : World) (K : Int → World → Prop) : Prop := Calls Tryd.prog 27 #[.agg #[.int .i64 p_0_0, .int .i64 p_0_1, .int .i64 p_0_2, .int .i64 p_0_3, .slice p_0_4.a p_0_4.l p_0_4.c]] w (onRet (fun v w' => ∃ (y0 : Int), v = .int .i64 y0 ∧ K y0 w'))

theorem sim_preluderef03_Verify {p_0_0 : Int} {p_0_1 : Int} {p_0_2 : Int} {p_0_3 : Int} {p_0_4 : Slc} {w : World} {K : Int → World → Prop} (h : sh_preluderef03_Verify c_preluderef03_Depths p_0_0 p_0_1 p_0_2 p_0_3 p_0_4 w K) : c_preluderef03_Verify p_0_0 p_0_1 p_0_2 p_0_3 p_0_4 w K := by
  have e : sh_preluderef03_Verify c_preluderef03_Depths p_0_0 p_0_1 p_0_2 p_0_3 p_0_4 w K = shF Tryd.prog 27 ⟨[], [], []⟩ [.agg #[.int .i64 p_0_0, .int .i64 p_0_1, .int .i64 p_0_2, .int .i64 p_0_3, .slice p_0_4.a p_0_4.l p_0_4.c]] w (fun v w' => decV (.int .i64) v fun y0 => K y0 w') := by kernel_rfl
  exact Calls.mono (calls_of _ e h) (onRet_mono (fun _ _ h => decV_spec h))

-- 14 prelude/preluderef03.Check; callees ['preluderef03_Name', 'preluderef03_Verify']
def sh_preluderef03_Check (c_preluderef03_Name : ByteArray → World → (Bool → World → Prop) → Prop) (c_preluderef03_Verify : Int → Int → Int → Int → Slc → World → (Int → World → Prop) → Prop) (lib_0 : Slc) (w : World) (K : Int → Int → World → Prop) : Prop :=
  iteB (decide (((lib_0.l : Int) : Int) > 64))
  (K 0 36 w)
  (loopP (σ := Int × Unit) (fun st2 next1 w3 => (fun (i_4 : Int) => iteB (decide ((i_4 : Int) < (lib_0.l : Int)))
  (idxP lib_0.a lib_0.l i_4 6 fun a5 => ldStr a5 w3 fun s6 => c_preluderef03_Name s6 w3 fun r7 w8 => iteB (!r7)
  (K i_4 35 w8)
  (loopP (σ := Int × Unit) (fun st10 next9 w11 => (fun (k_12 : Int) => iteB (decide ((k_12 : Int) < i_4))
  (idxP lib_0.a lib_0.l k_12 6 fun a13 => ldStr a13 w11.drew fun s14 => idxP lib_0.a lib_0.l i_4 6 fun a15 => ldStr a15 w11.drew fun s16 => iteB ((s14).toList == (s16).toList)
  (K i_4 35 w11.drew)
  (next9 ((IntKind.i64.wrap (k_12 + 1)), ()) w11.drew))
  (idxP lib_0.a lib_0.l i_4 6 fun a17 => ldI .i64 (a17.add 1) w11 fun n18 => ldI .i64 ((a17.add 1).add 1) w11 fun n19 => ldI .i64 ((a17.add 1).add 2) w11 fun n20 => ldI .i64 ((a17.add 1).add 3) w11 fun n21 => ldS ((a17.add 1).add 4) w11 fun s22 => c_preluderef03_Verify n18 n19 n20 n21 s22 w11 fun r23 w24 => iteB ((r23 : Int) != 0)
  (K i_4 r23 w24)
  (next1 ((IntKind.i64.wrap (i_4 + 1)), ()) w24))) st10.1) (0, ()) w8))
  (K 0 0 w3)) st2.1) (0, ()) w)

def c_preluderef03_Check (lib_0 : Slc) (w : World) (K : Int → Int → World → Prop) : Prop := Calls Tryd.prog 14 #[.slice lib_0.a lib_0.l lib_0.c] w (onRet (fun v w' => ∃ (y0 : Int), ∃ (y1 : Int), v = .tuple #[.int .i64 y0, .int .i64 y1] ∧ K y0 y1 w'))

theorem sim_preluderef03_Check {lib_0 : Slc} {w : World} {K : Int → Int → World → Prop} (h : sh_preluderef03_Check c_preluderef03_Name c_preluderef03_Verify lib_0 w K) : c_preluderef03_Check lib_0 w K := by
  have e : sh_preluderef03_Check c_preluderef03_Name c_preluderef03_Verify lib_0 w K = shF Tryd.prog 14 ⟨[(11, .of [0, 1, 2, 3, 4, 5, 6, 7, 8, 9, 10])], [(4, [(4, (.int .i64))], [0]), (9, [(5, (.int .i64))], [0, 4])], []⟩ [.slice lib_0.a lib_0.l lib_0.c] w (fun v w' => decT [(false, [(.int .i64)]), (false, [(.int .i64)])] v fun s => (fun (y0 : Int) (y1 : Int) => K y0 y1 w') s.1 s.2.1) := by kernel_rfl
  exact Calls.mono (calls_of _ e h) (onRet_mono (fun _ _ h => by obtain ⟨s, h1, h2⟩ := decT_spec h; exact ⟨s.1, s.2.1, h1, h2⟩))

-- 28 prelude/preluderef01.Digits; callees []
def sh_preluderef01_Digits (n_0 : Int) (w : World) (K : ByteArray → World → Prop) : Prop :=
  iteB ((n_0 : Int) == 0)
  (K (ByteArray.mk #[48]) w)
  (iteB (decide ((n_0 : Int) < 0))
  (loopP (σ := Int × ByteArray × Unit) (fun st2 next1 w3 => (fun (rest_4 : Int) (s_5 : ByteArray) => iteB (decide ((rest_4 : Int) > 0))
  (dzP 10 (newP #[.int .u8 (IntKind.u8.wrap (IntKind.u64.wrap (48 + (Int.tmod rest_4 10))))] 5 w3 fun a6 w7 => (∃ (r8 : ByteArray), ∃ w9, (convert 43 9 (.slice (some a6) 1 1)).run Tryd.prog w7 = .ok (.string r8) w9 ∧ (catP r8 s_5 (dzP 10 (next1 ((IntKind.u64.wrap (Int.tdiv rest_4 10)), (r8 ++ s_5), ()) w9))))))
  (catP (ByteArray.mk #[45]) s_5 (K (ByteArray.mk #[45] ++ s_5) w3))) st2.1 st2.2.1) ((IntKind.u64.wrap ((IntKind.u64.wrap (IntKind.i64.wrap (0 - (IntKind.i64.wrap (n_0 + 1))))) + 1)), (ByteArray.mk #[]), ()) w)
  (loopP (σ := Int × ByteArray × Unit) (fun st11 next10 w12 => (fun (rest_13 : Int) (s_14 : ByteArray) => iteB (decide ((rest_13 : Int) > 0))
  (dzP 10 (newP #[.int .u8 (IntKind.u8.wrap (IntKind.u64.wrap (48 + (Int.tmod rest_13 10))))] 5 w12 fun a15 w16 => (∃ (r17 : ByteArray), ∃ w18, (convert 43 9 (.slice (some a15) 1 1)).run Tryd.prog w16 = .ok (.string r17) w18 ∧ (catP r17 s_14 (dzP 10 (next10 ((IntKind.u64.wrap (Int.tdiv rest_13 10)), (r17 ++ s_14), ()) w18))))))
  (catP (ByteArray.mk #[]) s_14 (K (ByteArray.mk #[] ++ s_14) w12))) st11.1 st11.2.1) ((IntKind.u64.wrap n_0), (ByteArray.mk #[]), ()) w))

def c_preluderef01_Digits (n_0 : Int) (w : World) (K : ByteArray → World → Prop) : Prop := Calls Tryd.prog 28 #[.int .i64 n_0] w (onRet (fun v w' => ∃ (y0 : ByteArray), v = .string y0 ∧ K y0 w'))

theorem sim_preluderef01_Digits {n_0 : Int} {w : World} {K : ByteArray → World → Prop} (h : sh_preluderef01_Digits n_0 w K) : c_preluderef01_Digits n_0 w K := by
  have e : sh_preluderef01_Digits n_0 w K = shF Tryd.prog 28 ⟨[], [(9, [(4, (.int .u64)), (5, .str)], [3])], []⟩ [.int .i64 n_0] w (fun v w' => decV .str v fun y0 => K y0 w') := by kernel_rfl
  exact Calls.mono (calls_of _ e h) (onRet_mono (fun _ _ h => decV_spec h))

-- 29 prelude/preluderef04.target; callees []
def sh_preluderef04_target (p_0_0 : Int) (p_0_1 : Int) (p_0_2 : Int) (p_0_3 : Int) (p_0_4 : Slc) (place_1 : Int) (w : World) (K : Bool → World → Prop) : Prop :=
  newP #[.int .i64 p_0_0, .int .i64 p_0_1, .int .i64 p_0_2, .int .i64 p_0_3, .slice p_0_4.a p_0_4.l p_0_4.c] 35 w fun a1 w2 => loopP (σ := Int × Unit) (fun st4 next3 w5 => (fun (i_6 : Int) => ldS (a1.add 4) w5 fun s7 => iteB (decide ((i_6 : Int) < (s7.l : Int)))
  (ldS (a1.add 4) w5 fun s8 => idxP s8.a s8.l i_6 2 fun a9 => ldI .i64 a9 w5 fun n10 => ldI .i64 (a9.add 1) w5 fun n11 => newP #[.int .i64 0, .int .i64 0] 39 w5 fun a12 w13 => stP a12 (.int .i64 n10) w13 fun w14 => stP (a12.add 1) (.int .i64 n11) w14 fun w15 => ldI .i64 a12 w15 fun n16 => iteB ((n16 : Int) == 30)
  (ldI .i64 (a12.add 1) w15 fun n17 => iteB ((n17 : Int) == place_1)
  (K true w15)
  (next3 ((IntKind.i64.wrap (i_6 + 1)), ()) w15))
  (ldI .i64 a12 w15 fun n18 => iteB ((n18 : Int) == 31)
  (ldI .i64 (a12.add 1) w15 fun n19 => iteB ((n19 : Int) == place_1)
  (K true w15)
  (next3 ((IntKind.i64.wrap (i_6 + 1)), ()) w15))
  (next3 ((IntKind.i64.wrap (i_6 + 1)), ()) w15)))
  (K false w5)) st4.1) (0, ()) w2

def c_preluderef04_target (p_0_0 : Int) (p_0_1 : Int) (p_0_2 : Int) (p_0_3 : Int) (p_0_4 : Slc) (place_1 : Int) (w : World) (K : Bool → World → Prop) : Prop := Calls Tryd.prog 29 #[.agg #[.int .i64 p_0_0, .int .i64 p_0_1, .int .i64 p_0_2, .int .i64 p_0_3, .slice p_0_4.a p_0_4.l p_0_4.c], .int .i64 place_1] w (onRet (fun v w' => ∃ (y0 : Bool), v = .bool y0 ∧ K y0 w'))

theorem sim_preluderef04_target {p_0_0 : Int} {p_0_1 : Int} {p_0_2 : Int} {p_0_3 : Int} {p_0_4 : Slc} {place_1 : Int} {w : World} {K : Bool → World → Prop} (h : sh_preluderef04_target p_0_0 p_0_1 p_0_2 p_0_3 p_0_4 place_1 w K) : c_preluderef04_target p_0_0 p_0_1 p_0_2 p_0_3 p_0_4 place_1 w K := by
  have e : sh_preluderef04_target p_0_0 p_0_1 p_0_2 p_0_3 p_0_4 place_1 w K = shF Tryd.prog 29 ⟨[], [(2, [(5, (.int .i64))], [1, 2])], []⟩ [.agg #[.int .i64 p_0_0, .int .i64 p_0_1, .int .i64 p_0_2, .int .i64 p_0_3, .slice p_0_4.a p_0_4.l p_0_4.c], .int .i64 place_1] w (fun v w' => decV .b v fun y0 => K y0 w') := by kernel_rfl
  exact Calls.mono (calls_of _ e h) (onRet_mono (fun _ _ h => decV_spec h))

-- 37 prelude/preluderef03.Wants; callees ['preluderef03_is']
def sh_preluderef03_Wants (c_preluderef03_is : Int → ByteArray → ByteArray → ByteArray → ByteArray → World → (Bool → World → Prop) → Prop) (op_0 : Int) (w : World) (K : Bool → World → Prop) : Prop :=
  c_preluderef03_is op_0 (ByteArray.mk #[112, 117, 115, 104]) (ByteArray.mk #[108, 111, 97, 100]) (ByteArray.mk #[115, 97, 118, 101]) (ByteArray.mk #[97, 114, 103]) w fun r1 w2 => iteB r1
  (K true w2)
  (c_preluderef03_is op_0 (ByteArray.mk #[103, 101, 116]) (ByteArray.mk #[104, 97, 115]) (ByteArray.mk #[106, 117, 109, 112]) (ByteArray.mk #[122, 101, 114, 111]) w2 fun r3 w4 => iteB r3
  (K true w4)
  (c_preluderef03_is op_0 (ByteArray.mk #[112, 117, 116]) (ByteArray.mk #[100, 101, 108]) (ByteArray.mk #[]) (ByteArray.mk #[]) w4 fun r5 w6 => K r5 w6))

def c_preluderef03_Wants (op_0 : Int) (w : World) (K : Bool → World → Prop) : Prop := Calls Tryd.prog 37 #[.int .i64 op_0] w (onRet (fun v w' => ∃ (y0 : Bool), v = .bool y0 ∧ K y0 w'))

theorem sim_preluderef03_Wants {op_0 : Int} {w : World} {K : Bool → World → Prop} (h : sh_preluderef03_Wants c_preluderef03_is op_0 w K) : c_preluderef03_Wants op_0 w K := by
  have e : sh_preluderef03_Wants c_preluderef03_is op_0 w K = shF Tryd.prog 37 ⟨[], [], []⟩ [.int .i64 op_0] w (fun v w' => decV .b v fun y0 => K y0 w') := by kernel_rfl
  exact Calls.mono (calls_of _ e h) (onRet_mono (fun _ _ h => decV_spec h))

-- 30 prelude/preluderef04.spelt; callees ['preluderef03_Spell', 'preluderef03_Wants', 'preluderef01_Digits']
def sh_preluderef04_spelt (c_preluderef03_Spell : Int → World → (ByteArray → World → Prop) → Prop) (c_preluderef03_Wants : Int → World → (Bool → World → Prop) → Prop) (c_preluderef01_Digits : Int → World → (ByteArray → World → Prop) → Prop) (x_0_0 : Int) (x_0_1 : Int) (w : World) (K : ByteArray → World → Prop) : Prop :=
  newP #[.int .i64 x_0_0, .int .i64 x_0_1] 39 w fun a1 w2 => ldI .i64 a1 w2 fun n3 => c_preluderef03_Spell n3 w2 fun r4 w5 => catP (ByteArray.mk #[32, 32]) r4 (ldI .i64 a1 w5 fun n6 => c_preluderef03_Wants n6 w5 fun r7 w8 => iteB (!r7)
  (catP (ByteArray.mk #[32, 32] ++ r4) (ByteArray.mk #[10]) (K ((ByteArray.mk #[32, 32] ++ r4) ++ ByteArray.mk #[10]) w8))
  (ldI .i64 (a1.add 1) w8 fun n9 => c_preluderef01_Digits n9 w8 fun r10 w11 => ldI .i64 a1 w11 fun n12 => iteB ((n12 : Int) == 30)
  (catP (ByteArray.mk #[76]) r10 (catP (ByteArray.mk #[32, 32] ++ r4) (ByteArray.mk #[32]) (catP ((ByteArray.mk #[32, 32] ++ r4) ++ ByteArray.mk #[32]) (ByteArray.mk #[76] ++ r10) (catP (((ByteArray.mk #[32, 32] ++ r4) ++ ByteArray.mk #[32]) ++ (ByteArray.mk #[76] ++ r10)) (ByteArray.mk #[10]) (K ((((ByteArray.mk #[32, 32] ++ r4) ++ ByteArray.mk #[32]) ++ (ByteArray.mk #[76] ++ r10)) ++ ByteArray.mk #[10]) w11)))))
  (ldI .i64 a1 w11 fun n13 => iteB ((n13 : Int) == 31)
  (catP (ByteArray.mk #[76]) r10 (catP (ByteArray.mk #[32, 32] ++ r4) (ByteArray.mk #[32]) (catP ((ByteArray.mk #[32, 32] ++ r4) ++ ByteArray.mk #[32]) (ByteArray.mk #[76] ++ r10) (catP (((ByteArray.mk #[32, 32] ++ r4) ++ ByteArray.mk #[32]) ++ (ByteArray.mk #[76] ++ r10)) (ByteArray.mk #[10]) (K ((((ByteArray.mk #[32, 32] ++ r4) ++ ByteArray.mk #[32]) ++ (ByteArray.mk #[76] ++ r10)) ++ ByteArray.mk #[10]) w11)))))
  (catP (ByteArray.mk #[32, 32] ++ r4) (ByteArray.mk #[32]) (catP ((ByteArray.mk #[32, 32] ++ r4) ++ ByteArray.mk #[32]) r10 (catP (((ByteArray.mk #[32, 32] ++ r4) ++ ByteArray.mk #[32]) ++ r10) (ByteArray.mk #[10]) (K ((((ByteArray.mk #[32, 32] ++ r4) ++ ByteArray.mk #[32]) ++ r10) ++ ByteArray.mk #[10]) w11)))))))

def c_preluderef04_spelt (x_0_0 : Int) (x_0_1 : Int) (w : World) (K : ByteArray → World → Prop) : Prop := Calls Tryd.prog 30 #[.agg #[.int .i64 x_0_0, .int .i64 x_0_1]] w (onRet (fun v w' => ∃ (y0 : ByteArray), v = .string y0 ∧ K y0 w'))

theorem sim_preluderef04_spelt {x_0_0 : Int} {x_0_1 : Int} {w : World} {K : ByteArray → World → Prop} (h : sh_preluderef04_spelt c_preluderef03_Spell c_preluderef03_Wants c_preluderef01_Digits x_0_0 x_0_1 w K) : c_preluderef04_spelt x_0_0 x_0_1 w K := by
  have e : sh_preluderef04_spelt c_preluderef03_Spell c_preluderef03_Wants c_preluderef01_Digits x_0_0 x_0_1 w K = shF Tryd.prog 30 ⟨[], [], []⟩ [.agg #[.int .i64 x_0_0, .int .i64 x_0_1]] w (fun v w' => decV .str v fun y0 => K y0 w') := by kernel_rfl
  exact Calls.mono (calls_of _ e h) (onRet_mono (fun _ _ h => decV_spec h))

-- 15 prelude/preluderef04.one; callees ['preluderef01_Digits', 'preluderef04_target', 'preluderef04_spelt']
def sh_preluderef04_one (c_preluderef01_Digits : Int → World → (ByteArray → World → Prop) → Prop) (c_preluderef04_target : Int → Int → Int → Int → Slc → Int → World → (Bool → World → Prop) → Prop) (c_preluderef04_spelt : Int → Int → World → (ByteArray → World → Prop) → Prop) (p_0_0 : ByteArray) (p_0_1 : Int) (p_0_2 : Int) (p_0_3 : Int) (p_0_4 : Int) (p_0_5 : Slc) (w : World) (K : ByteArray → World → Prop) : Prop :=
  newP #[.string p_0_0, .int .i64 p_0_1, .int .i64 p_0_2, .int .i64 p_0_3, .int .i64 p_0_4, .slice p_0_5.a p_0_5.l p_0_5.c] 37 w fun a1 w2 => ldI .i64 (a1.add 1) w2 fun n3 => ldI .i64 ((a1.add 1).add 1) w2 fun n4 => ldI .i64 ((a1.add 1).add 2) w2 fun n5 => ldI .i64 ((a1.add 1).add 3) w2 fun n6 => ldS ((a1.add 1).add 4) w2 fun s7 => newP #[.int .i64 0, .int .i64 0, .int .i64 0, .int .i64 0, .slice none 0 0] 35 w2 fun a8 w9 => stP a8 (.int .i64 n3) w9 fun w10 => stP (a8.add 1) (.int .i64 n4) w10 fun w11 => stP (a8.add 2) (.int .i64 n5) w11 fun w12 => stP (a8.add 3) (.int .i64 n6) w12 fun w13 => stP (a8.add 4) (.slice s7.a s7.l s7.c) w13 fun w14 => ldStr a1 w14.drew fun s15 => catP (ByteArray.mk #[112, 114, 111, 99, 32]) s15 (catP (ByteArray.mk #[112, 114, 111, 99, 32] ++ s15) (ByteArray.mk #[32, 97, 114, 103, 115, 32]) (ldI .i64 a8 w14.drew fun n16 => ldI .i64 (a8.add 1) w14.drew fun n17 => c_preluderef01_Digits n16 w14.drew fun r18 w19 => w19.cell? (a8.add 1) = some (.int .i64 n17) ∧ w19.cell? a1 = some (.string s15) ∧ (catP ((ByteArray.mk #[112, 114, 111, 99, 32] ++ s15) ++ ByteArray.mk #[32, 97, 114, 103, 115, 32]) r18 (catP (((ByteArray.mk #[112, 114, 111, 99, 32] ++ s15) ++ ByteArray.mk #[32, 97, 114, 103, 115, 32]) ++ r18) (ByteArray.mk #[32, 114, 101, 97, 100, 115, 32]) (c_preluderef01_Digits n17 w19 fun r20 w21 => w21.cell? a1 = some (.string s15) ∧ (catP ((((ByteArray.mk #[112, 114, 111, 99, 32] ++ s15) ++ ByteArray.mk #[32, 97, 114, 103, 115, 32]) ++ r18) ++ ByteArray.mk #[32, 114, 101, 97, 100, 115, 32]) r20 (catP (((((ByteArray.mk #[112, 114, 111, 99, 32] ++ s15) ++ ByteArray.mk #[32, 97, 114, 103, 115, 32]) ++ r18) ++ ByteArray.mk #[32, 114, 101, 97, 100, 115, 32]) ++ r20) (ByteArray.mk #[32, 119, 114, 105, 116, 101, 115, 32]) (ldI .i64 (a8.add 2) w21.drew fun n22 => ldI .i64 (a8.add 3) w21.drew fun n23 => c_preluderef01_Digits n22 w21.drew fun r24 w25 => w25.cell? (a8.add 3) = some (.int .i64 n23) ∧ (catP ((((((ByteArray.mk #[112, 114, 111, 99, 32] ++ s15) ++ ByteArray.mk #[32, 97, 114, 103, 115, 32]) ++ r18) ++ ByteArray.mk #[32, 114, 101, 97, 100, 115, 32]) ++ r20) ++ ByteArray.mk #[32, 119, 114, 105, 116, 101, 115, 32]) r24 (catP (((((((ByteArray.mk #[112, 114, 111, 99, 32] ++ s15) ++ ByteArray.mk #[32, 97, 114, 103, 115, 32]) ++ r18) ++ ByteArray.mk #[32, 114, 101, 97, 100, 115, 32]) ++ r20) ++ ByteArray.mk #[32, 119, 114, 105, 116, 101, 115, 32]) ++ r24) (ByteArray.mk #[32, 108, 111, 99, 97, 108, 115, 32]) (c_preluderef01_Digits n23 w25 fun r26 w27 => catP ((((((((ByteArray.mk #[112, 114, 111, 99, 32] ++ s15) ++ ByteArray.mk #[32, 97, 114, 103, 115, 32]) ++ r18) ++ ByteArray.mk #[32, 114, 101, 97, 100, 115, 32]) ++ r20) ++ ByteArray.mk #[32, 119, 114, 105, 116, 101, 115, 32]) ++ r24) ++ ByteArray.mk #[32, 108, 111, 99, 97, 108, 115, 32]) r26 (catP (((((((((ByteArray.mk #[112, 114, 111, 99, 32] ++ s15) ++ ByteArray.mk #[32, 97, 114, 103, 115, 32]) ++ r18) ++ ByteArray.mk #[32, 114, 101, 97, 100, 115, 32]) ++ r20) ++ ByteArray.mk #[32, 119, 114, 105, 116, 101, 115, 32]) ++ r24) ++ ByteArray.mk #[32, 108, 111, 99, 97, 108, 115, 32]) ++ r26) (ByteArray.mk #[10]) (loopP (σ := ByteArray × Int × Unit) (fun st29 next28 w30 => (fun (s_31 : ByteArray) (i_32 : Int) => ldS (a8.add 4) w30 fun s33 => iteB (decide ((i_32 : Int) ≤ (s33.l : Int)))
  (ldI .i64 a8 w30 fun n34 => ldI .i64 (a8.add 1) w30 fun n35 => ldI .i64 (a8.add 2) w30 fun n36 => ldI .i64 (a8.add 3) w30 fun n37 => ldS (a8.add 4) w30 fun s38 => c_preluderef04_target n34 n35 n36 n37 s38 i_32 w30 fun r39 w40 => iteB r39
  (catP s_31 (ByteArray.mk #[76]) (c_preluderef01_Digits i_32 w40 fun r41 w42 => catP (s_31 ++ ByteArray.mk #[76]) r41 (catP ((s_31 ++ ByteArray.mk #[76]) ++ r41) (ByteArray.mk #[58, 10]) (ldS (a8.add 4) w42 fun s43 => iteB (decide ((i_32 : Int) < (s43.l : Int)))
  (ldS (a8.add 4) w42 fun s44 => idxP s44.a s44.l i_32 2 fun a45 => ldI .i64 a45 w42 fun n46 => ldI .i64 (a45.add 1) w42 fun n47 => c_preluderef04_spelt n46 n47 w42 fun r48 w49 => catP (((s_31 ++ ByteArray.mk #[76]) ++ r41) ++ ByteArray.mk #[58, 10]) r48 (next28 (((((s_31 ++ ByteArray.mk #[76]) ++ r41) ++ ByteArray.mk #[58, 10]) ++ r48), (IntKind.i64.wrap (i_32 + 1)), ()) w49))
  (next28 ((((s_31 ++ ByteArray.mk #[76]) ++ r41) ++ ByteArray.mk #[58, 10]), (IntKind.i64.wrap (i_32 + 1)), ()) w42)))))
  (ldS (a8.add 4) w40 fun s50 => iteB (decide ((i_32 : Int) < (s50.l : Int)))
  (ldS (a8.add 4) w40 fun s51 => idxP s51.a s51.l i_32 2 fun a52 => ldI .i64 a52 w40 fun n53 => ldI .i64 (a52.add 1) w40 fun n54 => c_preluderef04_spelt n53 n54 w40 fun r55 w56 => catP s_31 r55 (next28 ((s_31 ++ r55), (IntKind.i64.wrap (i_32 + 1)), ()) w56))
  (next28 (s_31, (IntKind.i64.wrap (i_32 + 1)), ()) w40)))
  (catP s_31 (ByteArray.mk #[101, 110, 100, 10]) (K (s_31 ++ ByteArray.mk #[101, 110, 100, 10]) w30))) st29.1 st29.2.1) (((((((((((ByteArray.mk #[112, 114, 111, 99, 32] ++ s15) ++ ByteArray.mk #[32, 97, 114, 103, 115, 32]) ++ r18) ++ ByteArray.mk #[32, 114, 101, 97, 100, 115, 32]) ++ r20) ++ ByteArray.mk #[32, 119, 114, 105, 116, 101, 115, 32]) ++ r24) ++ ByteArray.mk #[32, 108, 111, 99, 97, 108, 115, 32]) ++ r26) ++ ByteArray.mk #[10]), 0, ()) w27)))))))))))))

def c_preluderef04_one (p_0_0 : ByteArray) (p_0_1 : Int) (p_0_2 : Int) (p_0_3 : Int) (p_0_4 : Int) (p_0_5 : Slc) (w : World) (K : ByteArray → World → Prop) : Prop := Calls Tryd.prog 15 #[.agg #[.string p_0_0, .int .i64 p_0_1, .int .i64 p_0_2, .int .i64 p_0_3, .int .i64 p_0_4, .slice p_0_5.a p_0_5.l p_0_5.c]] w (onRet (fun v w' => ∃ (y0 : ByteArray), v = .string y0 ∧ K y0 w'))

theorem sim_preluderef04_one {p_0_0 : ByteArray} {p_0_1 : Int} {p_0_2 : Int} {p_0_3 : Int} {p_0_4 : Int} {p_0_5 : Slc} {w : World} {K : ByteArray → World → Prop} (h : sh_preluderef04_one c_preluderef01_Digits c_preluderef04_target c_preluderef04_spelt p_0_0 p_0_1 p_0_2 p_0_3 p_0_4 p_0_5 w K) : c_preluderef04_one p_0_0 p_0_1 p_0_2 p_0_3 p_0_4 p_0_5 w K := by
  have e : sh_preluderef04_one c_preluderef01_Digits c_preluderef04_target c_preluderef04_spelt p_0_0 p_0_1 p_0_2 p_0_3 p_0_4 p_0_5 w K = shF Tryd.prog 15 ⟨[(2, .of [0, 1, 2, 3, 4, 5, 9, 10, 6, 7, 8, 11, 12, 13]), (3, .of [0, 1, 2, 3, 7, 8, 4, 5, 6, 9, 10, 11, 12])], [(5, [(4, .str), (5, (.int .i64))], [3])], []⟩ [.agg #[.string p_0_0, .int .i64 p_0_1, .int .i64 p_0_2, .int .i64 p_0_3, .int .i64 p_0_4, .slice p_0_5.a p_0_5.l p_0_5.c]] w (fun v w' => decV .str v fun y0 => K y0 w') := by kernel_rfl
  exact Calls.mono (calls_of _ e h) (onRet_mono (fun _ _ h => decV_spec h))

-- 7 prelude/preluderef04.List; callees ['preluderef03_Check', 'preluderef04_one']
def sh_preluderef04_List (c_preluderef03_Check : Slc → World → (Int → Int → World → Prop) → Prop) (c_preluderef04_one : ByteArray → Int → Int → Int → Int → Slc → World → (ByteArray → World → Prop) → Prop) (lib_0 : Slc) (w : World) (K : ByteArray → Int → World → Prop) : Prop :=
  c_preluderef03_Check lib_0 w fun r1 r2 w3 => iteB ((r2 : Int) != 0)
  (K (ByteArray.mk #[]) r2 w3)
  (loopP (σ := ByteArray × Int × Unit) (fun st5 next4 w6 => (fun (s_7 : ByteArray) (i_8 : Int) => iteB (decide ((i_8 : Int) < (lib_0.l : Int)))
  (idxP lib_0.a lib_0.l i_8 6 fun a9 => ldStr a9 w6 fun s10 => ldI .i64 (a9.add 1) w6 fun n11 => ldI .i64 (a9.add 2) w6 fun n12 => ldI .i64 (a9.add 3) w6 fun n13 => ldI .i64 (a9.add 4) w6 fun n14 => ldS (a9.add 5) w6 fun s15 => c_preluderef04_one s10 n11 n12 n13 n14 s15 w6 fun r16 w17 => catP s_7 r16 (next4 ((s_7 ++ r16), (IntKind.i64.wrap (i_8 + 1)), ()) w17))
  (iteB (decide (((s_7.size : Int) : Int) > 65536))
  (K (ByteArray.mk #[]) 44 w6)
  (K s_7 0 w6))) st5.1 st5.2.1) ((ByteArray.mk #[]), 0, ()) w3)

def c_preluderef04_List (lib_0 : Slc) (w : World) (K : ByteArray → Int → World → Prop) : Prop := Calls Tryd.prog 7 #[.slice lib_0.a lib_0.l lib_0.c] w (onRet (fun v w' => ∃ (y0 : ByteArray), ∃ (y1 : Int), v = .tuple #[.string y0, .int .i64 y1] ∧ K y0 y1 w'))

theorem sim_preluderef04_List {lib_0 : Slc} {w : World} {K : ByteArray → Int → World → Prop} (h : sh_preluderef04_List c_preluderef03_Check c_preluderef04_one lib_0 w K) : c_preluderef04_List lib_0 w K := by
  have e : sh_preluderef04_List c_preluderef03_Check c_preluderef04_one lib_0 w K = shF Tryd.prog 7 ⟨[], [(6, [(6, .str), (7, (.int .i64))], [0])], []⟩ [.slice lib_0.a lib_0.l lib_0.c] w (fun v w' => decT [(false, [.str]), (false, [(.int .i64)])] v fun s => (fun (y0 : ByteArray) (y1 : Int) => K y0 y1 w') s.1 s.2.1) := by kernel_rfl
  exact Calls.mono (calls_of _ e h) (onRet_mono (fun _ _ h => by obtain ⟨s, h1, h2⟩ := decT_spec h; exact ⟨s.1, s.2.1, h1, h2⟩))

-- 8 prelude/preludelaw04.num; callees []
def sh_preludelaw04_num (e_0 : Int) (w : World) (K : Int → World → Prop) : Prop :=
  K e_0 w

def c_preludelaw04_num (e_0 : Int) (w : World) (K : Int → World → Prop) : Prop := Calls Tryd.prog 8 #[.int .i64 e_0] w (onRet (fun v w' => ∃ (y0 : Int), v = .int .i64 y0 ∧ K y0 w'))

theorem sim_preludelaw04_num {e_0 : Int} {w : World} {K : Int → World → Prop} (h : sh_preludelaw04_num e_0 w K) : c_preludelaw04_num e_0 w K := by
  have e : sh_preludelaw04_num e_0 w K = shF Tryd.prog 8 ⟨[], [], []⟩ [.int .i64 e_0] w (fun v w' => decV (.int .i64) v fun y0 => K y0 w') := by kernel_rfl
  exact Calls.mono (calls_of _ e h) (onRet_mono (fun _ _ h => decV_spec h))

-- 31 prelude/preludelaw04.sameCode; callees []
def sh_preludelaw04_sameCode (a_0 : Slc) (b_1 : Slc) (w : World) (K : Bool → World → Prop) : Prop :=
  iteB (((a_0.l : Int) : Int) != (b_1.l : Int))
  (K false w)
  (loopP (σ := Int × Unit) (fun st2 next1 w3 => (fun (i_4 : Int) => iteB (decide ((i_4 : Int) < (a_0.l : Int)))
  (idxP a_0.a a_0.l i_4 2 fun a5 => ldI .i64 a5 w3.drew fun n6 => ldI .i64 (a5.add 1) w3.drew fun n7 => idxP b_1.a b_1.l i_4 2 fun a8 => ldI .i64 a8 w3.drew fun n9 => ldI .i64 (a8.add 1) w3.drew fun n10 => (∃ (r11 : Bool), ∃ w12, (do eqGuard .neq 39 (.tmp 20) (.tmp 24) (.agg #[.int .i64 n6, .int .i64 n7]) (.agg #[.int .i64 n9, .int .i64 n10]); binOp .neq 39 (.agg #[.int .i64 n6, .int .i64 n7]) (.agg #[.int .i64 n9, .int .i64 n10])).run Tryd.prog w3.drew = .ok (.bool r11) w12 ∧ (iteB r11
  (K false w12)
  (next1 ((IntKind.i64.wrap (i_4 + 1)), ()) w12))))
  (K true w3)) st2.1) (0, ()) w)

def c_preludelaw04_sameCode (a_0 : Slc) (b_1 : Slc) (w : World) (K : Bool → World → Prop) : Prop := Calls Tryd.prog 31 #[.slice a_0.a a_0.l a_0.c, .slice b_1.a b_1.l b_1.c] w (onRet (fun v w' => ∃ (y0 : Bool), v = .bool y0 ∧ K y0 w'))

theorem sim_preludelaw04_sameCode {a_0 : Slc} {b_1 : Slc} {w : World} {K : Bool → World → Prop} (h : sh_preludelaw04_sameCode a_0 b_1 w K) : c_preludelaw04_sameCode a_0 b_1 w K := by
  have e : sh_preludelaw04_sameCode a_0 b_1 w K = shF Tryd.prog 31 ⟨[(6, .of [0, 1, 2, 3, 4, 5, 6, 7, 8])], [(4, [(5, (.int .i64))], [0, 1])], []⟩ [.slice a_0.a a_0.l a_0.c, .slice b_1.a b_1.l b_1.c] w (fun v w' => decV .b v fun y0 => K y0 w') := by kernel_rfl
  exact Calls.mono (calls_of _ e h) (onRet_mono (fun _ _ h => decV_spec h))

-- 16 prelude/preludelaw04.sameLib; callees ['preludelaw04_sameCode']
def sh_preludelaw04_sameLib (c_preludelaw04_sameCode : Slc → Slc → World → (Bool → World → Prop) → Prop) (x_0 : Slc) (x_1 : Slc) (w : World) (K : Bool → World → Prop) : Prop :=
  iteB (((x_0.l : Int) : Int) != (x_1.l : Int))
  (K false w)
  (loopP (σ := Int × Unit) (fun st2 next1 w3 => (fun (x4 : Int) => iteB (decide ((x4 : Int) < (x_0.l : Int)))
  (idxP x_0.a x_0.l x4 6 fun a5 => ldI .i64 (a5.add 1) w3 fun n6 => ldI .i64 ((a5.add 1).add 1) w3 fun n7 => ldI .i64 ((a5.add 1).add 2) w3 fun n8 => ldI .i64 ((a5.add 1).add 3) w3 fun n9 => ldS ((a5.add 1).add 4) w3 fun s10 => newP #[.int .i64 0, .int .i64 0, .int .i64 0, .int .i64 0, .slice none 0 0] 35 w3 fun a11 w12 => stP a11 (.int .i64 n6) w12 fun w13 => stP (a11.add 1) (.int .i64 n7) w13 fun w14 => stP (a11.add 2) (.int .i64 n8) w14 fun w15 => stP (a11.add 3) (.int .i64 n9) w15 fun w16 => stP (a11.add 4) (.slice s10.a s10.l s10.c) w16 fun w17 => idxP x_1.a x_1.l x4 6 fun a18 => ldI .i64 (a18.add 1) w17 fun n19 => ldI .i64 ((a18.add 1).add 1) w17 fun n20 => ldI .i64 ((a18.add 1).add 2) w17 fun n21 => ldI .i64 ((a18.add 1).add 3) w17 fun n22 => ldS ((a18.add 1).add 4) w17 fun s23 => newP #[.int .i64 0, .int .i64 0, .int .i64 0, .int .i64 0, .slice none 0 0] 35 w17 fun a24 w25 => stP a24 (.int .i64 n19) w25 fun w26 => stP (a24.add 1) (.int .i64 n20) w26 fun w27 => stP (a24.add 2) (.int .i64 n21) w27 fun w28 => stP (a24.add 3) (.int .i64 n22) w28 fun w29 => stP (a24.add 4) (.slice s23.a s23.l s23.c) w29 fun w30 => idxP x_0.a x_0.l x4 6 fun a31 => ldStr a31 w30.drew fun s32 => idxP x_1.a x_1.l x4 6 fun a33 => ldStr a33 w30.drew fun s34 => iteB (!((s32).toList == (s34).toList))
  (K false w30.drew)
  (ldI .i64 a11 w30.drew fun n35 => ldI .i64 a24 w30.drew fun n36 => iteB ((n35 : Int) != n36)
  (K false w30.drew)
  (ldI .i64 (a11.add 1) w30.drew fun n37 => ldI .i64 (a24.add 1) w30.drew fun n38 => iteB ((n37 : Int) != n38)
  (K false w30.drew)
  (ldI .i64 (a11.add 2) w30.drew fun n39 => ldI .i64 (a24.add 2) w30.drew fun n40 => iteB ((n39 : Int) != n40)
  (K false w30.drew)
  (ldI .i64 (a11.add 3) w30.drew fun n41 => ldI .i64 (a24.add 3) w30.drew fun n42 => iteB ((n41 : Int) != n42)
  (K false w30.drew)
  (ldS (a11.add 4) w30.drew fun s43 => ldS (a24.add 4) w30.drew fun s44 => c_preludelaw04_sameCode s43 s44 w30.drew fun r45 w46 => iteB (!r45)
  (K false w46)
  (next1 ((IntKind.i64.wrap (x4 + 1)), ()) w46)))))))
  (K true w3)) st2.1) (0, ()) w)

def c_preludelaw04_sameLib (x_0 : Slc) (x_1 : Slc) (w : World) (K : Bool → World → Prop) : Prop := Calls Tryd.prog 16 #[.slice x_0.a x_0.l x_0.c, .slice x_1.a x_1.l x_1.c] w (onRet (fun v w' => ∃ (y0 : Bool), v = .bool y0 ∧ K y0 w'))

theorem sim_preludelaw04_sameLib {x_0 : Slc} {x_1 : Slc} {w : World} {K : Bool → World → Prop} (h : sh_preludelaw04_sameLib c_preludelaw04_sameCode x_0 x_1 w K) : c_preludelaw04_sameLib x_0 x_1 w K := by
  have e : sh_preludelaw04_sameLib c_preludelaw04_sameCode x_0 x_1 w K = shF Tryd.prog 16 ⟨[(8, .of [0, 1, 2, 3, 4, 5, 6, 7, 8, 9, 10, 11, 12, 13, 14, 15, 16, 17, 18, 19, 20, 21, 22, 23, 24, 25, 26, 27, 28, 29, 30, 31, 32, 33, 34, 35, 36, 37, 38, 39, 40, 41, 42, 43, 44, 45, 46])], [(4, [(5, (.int .i64))], [0, 1])], []⟩ [.slice x_0.a x_0.l x_0.c, .slice x_1.a x_1.l x_1.c] w (fun v w' => decV .b v fun y0 => K y0 w') := by kernel_rfl
  exact Calls.mono (calls_of _ e h) (onRet_mono (fun _ _ h => decV_spec h))

-- 9 prelude/preludelaw04.back; callees ['preludelaw04_sameLib']
def sh_preludelaw04_back (c_preludelaw04_sameLib : Slc → Slc → World → (Bool → World → Prop) → Prop) (x_0 : Slc) (x_1 : Slc) (w : World) (K : Bool → World → Prop) : Prop :=
  c_preludelaw04_sameLib x_0 x_1 w fun r1 w2 => iteB (!r1)
  (K r1 w2)
  (iteB ((x_1.a).isNone)
  (K r1 w2)
  (slP x_0.a x_0.l x_0.c none (some (IntKind.i64.wrap ((x_1.l : Int) + 3))) 6 fun p3 l4 c5 => loopP (σ := Bool × Int × Unit) (fun st7 next6 w8 => (fun (x9 : Bool) (x10 : Int) => iteB (decide ((x10 : Int) < (l4 : Int)))
  (iteB x9
  (idxP p3 l4 x10 6 fun a11 => ldStr a11 w8 fun s12 => iteB ((s12).toList == (ByteArray.mk #[45]).toList)
  (idxP p3 l4 x10 6 fun a13 => ldI .i64 (a13.add 1) w8 fun n14 => next6 (((n14 : Int) == (IntKind.i64.wrap (0 - x10))), (IntKind.i64.wrap (x10 + 1)), ()) w8)
  (next6 (false, (IntKind.i64.wrap (x10 + 1)), ()) w8))
  (next6 (false, (IntKind.i64.wrap (x10 + 1)), ()) w8))
  (loopP (σ := Bool × Int × Unit) (fun st16 next15 w17 => (fun (x18 : Bool) (x19 : Int) => iteB (decide ((x19 : Int) < (x_1.l : Int)))
  (idxP x_1.a x_1.l x19 6 fun a20 => ldS ((a20.add 1).add 4) w17 fun s21 => idxP x_1.a x_1.l x19 6 fun a22 => ldS ((a22.add 1).add 4) w17 fun s23 => iteB ((s23.a).isNone)
  (next15 (x18, (IntKind.i64.wrap (x19 + 1)), ()) w17)
  (idxP x_0.a x_0.l x19 6 fun a24 => ldS ((a24.add 1).add 4) w17 fun s25 => slP s25.a s25.l s25.c none (some (IntKind.i64.wrap ((s21.l : Int) + 3))) 2 fun p26 l27 c28 => loopP (σ := Bool × Int × Unit) (fun st30 next29 w31 => (fun (x32 : Bool) (x33 : Int) => iteB (decide ((x33 : Int) < (l27 : Int)))
  (iteB x32
  (idxP p26 l27 x33 2 fun a34 => ldI .i64 a34 w31 fun n35 => ldI .i64 (a34.add 1) w31 fun n36 => (∃ (r37 : Bool), ∃ w38, (do eqGuard .eql 39 (.tmp 96) (.tmp 98) (.agg #[.int .i64 n35, .int .i64 n36]) (.agg #[.int .i64 (-7), .int .i64 x33]); binOp .eql 39 (.agg #[.int .i64 n35, .int .i64 n36]) (.agg #[.int .i64 (-7), .int .i64 x33])).run Tryd.prog w31 = .ok (.bool r37) w38 ∧ (next29 (r37, (IntKind.i64.wrap (x33 + 1)), ()) w38)))
  (next29 (false, (IntKind.i64.wrap (x33 + 1)), ()) w31))
  (next15 (x32, (IntKind.i64.wrap (x19 + 1)), ()) w31)) st30.1 st30.2.1) (x18, (s21.l : Int), ()) w17))
  (K x18 w17)) st16.1 st16.2.1) (x9, 0, ()) w8)) st7.1 st7.2.1) (r1, (x_1.l : Int), ()) w2))

def c_preludelaw04_back (x_0 : Slc) (x_1 : Slc) (w : World) (K : Bool → World → Prop) : Prop := Calls Tryd.prog 9 #[.slice x_0.a x_0.l x_0.c, .slice x_1.a x_1.l x_1.c] w (onRet (fun v w' => ∃ (y0 : Bool), v = .bool y0 ∧ K y0 w'))

theorem sim_preludelaw04_back {x_0 : Slc} {x_1 : Slc} {w : World} {K : Bool → World → Prop} (h : sh_preludelaw04_back c_preludelaw04_sameLib x_0 x_1 w K) : c_preludelaw04_back x_0 x_1 w K := by
  have e : sh_preludelaw04_back c_preludelaw04_sameLib x_0 x_1 w K = shF Tryd.prog 9 ⟨[], [(6, [(5, .b), (7, (.int .i64))], [0, 1, 6]), (10, [(5, .b), (8, (.int .i64))], [0, 1]), (16, [(5, .b), (11, (.int .i64))], [0, 1, 8, 10])], []⟩ [.slice x_0.a x_0.l x_0.c, .slice x_1.a x_1.l x_1.c] w (fun v w' => decV .b v fun y0 => K y0 w') := by kernel_rfl
  exact Calls.mono (calls_of _ e h) (onRet_mono (fun _ _ h => decV_spec h))

-- 3 prelude/preludelaw04.AsmLists; callees ['preluderef04_Parts', 'preludelaw04_lent', 'asm_List', 'preluderef04_List', 'preludelaw04_num', 'preludelaw04_back']
def sh_preludelaw04_AsmLists (c_preluderef04_Parts : Slc → Int → World → (Int → World → Prop) → Prop) (c_preludelaw04_lent : Slc → World → (Slc → World → Prop) → Prop) (c_asm_List : Slc → World → (ByteArray → Int → World → Prop) → Prop) (c_preluderef04_List : Slc → World → (ByteArray → Int → World → Prop) → Prop) (c_preludelaw04_num : Int → World → (Int → World → Prop) → Prop) (c_preludelaw04_back : Slc → Slc → World → (Bool → World → Prop) → Prop) (lib_0 : Slc) (w : World) (K : Bool → World → Prop) : Prop :=
  c_preluderef04_Parts lib_0 100000 w fun r1 w2 => iteB (decide ((r1 : Int) < 0))
  (K true w2)
  (c_preludelaw04_lent lib_0 w2 fun r3 w4 => c_asm_List r3 w4 fun r5 r6 w7 => c_preluderef04_List lib_0 w7 fun r8 r9 w10 => iteB ((r5).toList == (r8).toList)
  (c_preludelaw04_num r6 w10 fun r11 w12 => iteB ((r11 : Int) == r9)
  (c_preludelaw04_back r3 lib_0 w12 fun r13 w14 => K r13 w14)
  (K false w12))
  (K false w10))

def c_preludelaw04_AsmLists (lib_0 : Slc) (w : World) (K : Bool → World → Prop) : Prop := Calls Tryd.prog 3 #[.slice lib_0.a lib_0.l lib_0.c] w (onRet (fun v w' => ∃ (y0 : Bool), v = .bool y0 ∧ K y0 w'))

theorem sim_preludelaw04_AsmLists {lib_0 : Slc} {w : World} {K : Bool → World → Prop} (h : sh_preludelaw04_AsmLists c_preluderef04_Parts c_preludelaw04_lent c_asm_List c_preluderef04_List c_preludelaw04_num c_preludelaw04_back lib_0 w K) : c_preludelaw04_AsmLists lib_0 w K := by
  have e : sh_preludelaw04_AsmLists c_preluderef04_Parts c_preludelaw04_lent c_asm_List c_preluderef04_List c_preludelaw04_num c_preludelaw04_back lib_0 w K = shF Tryd.prog 3 ⟨[], [], []⟩ [.slice lib_0.a lib_0.l lib_0.c] w (fun v w' => decV .b v fun y0 => K y0 w') := by kernel_rfl
  exact Calls.mono (calls_of _ e h) (onRet_mono (fun _ _ h => decV_spec h))

end Go.Proofs.YthgkehldimldgaaDoor
