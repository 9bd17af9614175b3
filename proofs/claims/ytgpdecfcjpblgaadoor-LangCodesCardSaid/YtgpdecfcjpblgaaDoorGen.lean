import Derived.Test.YtgpdecfcjpblgaaDoorProg
import Derived.Test.YtgpdecfcjpblgaaDoorSh
set_option linter.unusedVariables false
namespace Go.Proofs.YtgpdecfcjpblgaaDoor
open Go Go.Sh
-- NOT 0 main.main: no body
-- NOT 1 gosem.cut: no body
-- LACKS 2 gosem.cut.init: ['gosem_cut']
-- 4 prelude/preludelaw03.wide; callees []
def sh_preludelaw03_wide (lib_0 : Slc) (w : World) (K : Bool → World → Prop) : Prop :=
  loopP (σ := Int × Int × Unit) (fun st2 next1 w3 => (fun (n_4 : Int) (i_5 : Int) => iteB (decide ((i_5 : Int) < (lib_0.l : Int)))
  (iteB (decide ((n_4 : Int) ≤ 100000))
  (idxP lib_0.a lib_0.l i_5 6 fun a6 => ldS ((a6.add 1).add 4) w3 fun s7 => next1 ((IntKind.i64.wrap (n_4 + (s7.l : Int))), (IntKind.i64.wrap (i_5 + 1)), ()) w3)
  (K (decide ((n_4 : Int) > 100000)) w3))
  (K (decide ((n_4 : Int) > 100000)) w3)) st2.1 st2.2.1) ((lib_0.l : Int), 0, ()) w

def c_preludelaw03_wide (lib_0 : Slc) (w : World) (K : Bool → World → Prop) : Prop := Calls Tryd.prog 4 #[.slice lib_0.a lib_0.l lib_0.c] w (onRet (fun v w' => ∃ (y0 : Bool), v = .bool y0 ∧ K y0 w'))

theorem sim_preludelaw03_wide {lib_0 : Slc} {w : World} {K : Bool → World → Prop} (h : sh_preludelaw03_wide lib_0 w K) : c_preludelaw03_wide lib_0 w K := by
  have e : sh_preludelaw03_wide lib_0 w K = shF Tryd.prog 4 ⟨[], [(3, [(3, (.int .i64)), (4, (.int .i64))], [0])], []⟩ [.slice lib_0.a lib_0.l lib_0.c] w (fun v w' => decV .b v fun y0 => K y0 w') := by kernel_rfl
  exact Calls.mono (calls_of _ e h) (onRet_mono (fun _ _ h => decV_spec h))

-- 15 prelude/preludelaw03.roomy; callees []
def sh_preludelaw03_roomy (p_0_0 : Int) (p_0_1 : Int) (p_0_2 : Int) (p_0_3 : Int) (p_0_4 : Slc) (w : World) (K : Int → Int → Int → Int → Slc → Slc → World → Prop) : Prop :=
  newP #[.int .i64 p_0_0, .int .i64 p_0_1, .int .i64 p_0_2, .int .i64 p_0_3, .slice p_0_4.a p_0_4.l p_0_4.c] 41 w fun a1 w2 => newP #[.int .i64 0, .int .i64 0, .int .i64 0, .int .i64 0, .slice none 0 0] 41 w2 fun a3 w4 => ldS (a1.add 4) w4 fun s5 => mkP Tryd.prog 39 (.int .i64 (IntKind.i64.wrap ((s5.l : Int) + 2))) (.int .i64 (IntKind.i64.wrap ((s5.l : Int) + 2))) w4 fun s6 w7 => ldS (a1.add 4) w7 fun s8 => cpP Tryd.prog #[39, 39] 3 [.slice s6.a s6.l s6.c, .slice s8.a s8.l s8.c] w7 fun n10 w9 => ldS (a1.add 4) w9 fun s11 => idxP s6.a s6.l (s11.l : Int) 2 fun a12 => stP a12 (.int .i64 (-31)) w9 fun w13 => ldS (a1.add 4) w13 fun s14 => idxP s6.a s6.l (IntKind.i64.wrap ((s14.l : Int) + 1)) 2 fun a15 => stP a15 (.int .i64 (-32)) w13 fun w16 => ldI .i64 a1 w16 fun n17 => ldI .i64 (a1.add 1) w16 fun n18 => ldI .i64 (a1.add 2) w16 fun n19 => ldI .i64 (a1.add 3) w16 fun n20 => ldS (a1.add 4) w16 fun s21 => newP #[.int .i64 0, .int .i64 0, .int .i64 0, .int .i64 0, .slice none 0 0] 41 w16 fun a22 w23 => stP a22 (.int .i64 n17) w23 fun w24 => stP (a22.add 1) (.int .i64 n18) w24 fun w25 => stP (a22.add 2) (.int .i64 n19) w25 fun w26 => stP (a22.add 3) (.int .i64 n20) w26 fun w27 => stP (a22.add 4) (.slice s21.a s21.l s21.c) w27 fun w28 => ldS (a1.add 4) w28 fun s29 => slP s6.a s6.l s6.c none (some (s29.l : Int)) 2 fun p30 l31 c32 => stP (a22.add 4) (.slice p30 l31 c32) w28 fun w33 => ldI .i64 a22 w33 fun n34 => ldI .i64 (a22.add 1) w33 fun n35 => ldI .i64 (a22.add 2) w33 fun n36 => ldI .i64 (a22.add 3) w33 fun n37 => ldS (a22.add 4) w33 fun s38 => stP a3 (.int .i64 n34) w33 fun w39 => stP (a3.add 1) (.int .i64 n35) w39 fun w40 => stP (a3.add 2) (.int .i64 n36) w40 fun w41 => stP (a3.add 3) (.int .i64 n37) w41 fun w42 => stP (a3.add 4) (.slice s38.a s38.l s38.c) w42 fun w43 => ldI .i64 a3 w43 fun n44 => ldI .i64 (a3.add 1) w43 fun n45 => ldI .i64 (a3.add 2) w43 fun n46 => ldI .i64 (a3.add 3) w43 fun n47 => ldS (a3.add 4) w43 fun s48 => K n44 n45 n46 n47 s48 s6 w43

def c_preludelaw03_roomy (p_0_0 : Int) (p_0_1 : Int) (p_0_2 : Int) (p_0_3 : Int) (p_0_4 : Slc) (w : World) (K : Int → Int → Int → Int → Slc → Slc → World → Prop) : Prop := Calls Tryd.prog 15 #[.agg #[.int .i64 p_0_0, .int .i64 p_0_1, .int .i64 p_0_2, .int .i64 p_0_3, .slice p_0_4.a p_0_4.l p_0_4.c]] w (onRet (fun v w' => ∃ (y0 : Int), ∃ (y1 : Int), ∃ (y2 : Int), ∃ (y3 : Int), ∃ (y4 : Slc), ∃ (y5 : Slc), v = .tuple #[.agg #[.int .i64 y0, .int .i64 y1, .int .i64 y2, .int .i64 y3, .slice y4.a y4.l y4.c], .slice y5.a y5.l y5.c] ∧ K y0 y1 y2 y3 y4 y5 w'))

theorem sim_preludelaw03_roomy {p_0_0 : Int} {p_0_1 : Int} {p_0_2 : Int} {p_0_3 : Int} {p_0_4 : Slc} {w : World} {K : Int → Int → Int → Int → Slc → Slc → World → Prop} (h : sh_preludelaw03_roomy p_0_0 p_0_1 p_0_2 p_0_3 p_0_4 w K) : c_preludelaw03_roomy p_0_0 p_0_1 p_0_2 p_0_3 p_0_4 w K := by
  have e : sh_preludelaw03_roomy p_0_0 p_0_1 p_0_2 p_0_3 p_0_4 w K = shF Tryd.prog 15 ⟨[], [], []⟩ [.agg #[.int .i64 p_0_0, .int .i64 p_0_1, .int .i64 p_0_2, .int .i64 p_0_3, .slice p_0_4.a p_0_4.l p_0_4.c]] w (fun v w' => decT [(true, [(.int .i64), (.int .i64), (.int .i64), (.int .i64), .sl]), (false, [.sl])] v fun s => (fun (y0 : Int) (y1 : Int) (y2 : Int) (y3 : Int) (y4 : Slc) (y5 : Slc) => K y0 y1 y2 y3 y4 y5 w') s.1 s.2.1 s.2.2.1 s.2.2.2.1 s.2.2.2.2.1 s.2.2.2.2.2.1) := by kernel_rfl
  exact Calls.mono (calls_of _ e h) (onRet_mono (fun _ _ h => by obtain ⟨s, h1, h2⟩ := decT_spec h; exact ⟨s.1, s.2.1, s.2.2.1, s.2.2.2.1, s.2.2.2.2.1, s.2.2.2.2.2.1, h1, h2⟩))

-- 5 prelude/preludelaw03.library; callees ['preludelaw03_roomy']
def sh_preludelaw03_library (c_preludelaw03_roomy : Int → Int → Int → Int → Slc → World → (Int → Int → Int → Int → Slc → Slc → World → Prop) → Prop) (lib_0 : Slc) (w : World) (K : Slc → Slc → World → Prop) : Prop :=
  mkP Tryd.prog 22 (.int .i64 (IntKind.i64.wrap ((lib_0.l : Int) + 1))) (.int .i64 (IntKind.i64.wrap ((lib_0.l : Int) + 1))) w fun s1 w2 => loopP (σ := Int × Unit) (fun st4 next3 w5 => (fun (i_6 : Int) => iteB (decide ((i_6 : Int) < (lib_0.l : Int)))
  (idxP lib_0.a lib_0.l i_6 6 fun a7 => ldI .i64 (a7.add 1) w5 fun n8 => ldI .i64 ((a7.add 1).add 1) w5 fun n9 => ldI .i64 ((a7.add 1).add 2) w5 fun n10 => ldI .i64 ((a7.add 1).add 3) w5 fun n11 => ldS ((a7.add 1).add 4) w5 fun s12 => c_preludelaw03_roomy n8 n9 n10 n11 s12 w5 fun r13 r14 r15 r16 r17 r18 w19 => newP #[.int .i64 0, .int .i64 0, .int .i64 0, .int .i64 0, .slice none 0 0] 41 w19 fun a20 w21 => stP a20 (.int .i64 r13) w21 fun w22 => stP (a20.add 1) (.int .i64 r14) w22 fun w23 => stP (a20.add 2) (.int .i64 r15) w23 fun w24 => stP (a20.add 3) (.int .i64 r16) w24 fun w25 => stP (a20.add 4) (.slice r17.a r17.l r17.c) w25 fun w26 => idxP lib_0.a lib_0.l i_6 6 fun a27 => ldStr a27 w26.drew fun s28 => ldI .i64 a20 w26.drew fun n29 => ldI .i64 (a20.add 1) w26.drew fun n30 => ldI .i64 (a20.add 2) w26.drew fun n31 => ldI .i64 (a20.add 3) w26.drew fun n32 => ldS (a20.add 4) w26.drew fun s33 => idxP s1.a s1.l i_6 6 fun a34 => stP a34 (.string s28) w26.drew fun w35 => stP (a34.add 1) (.int .i64 n29) w35 fun w36 => stP (a34.add 2) (.int .i64 n30) w36 fun w37 => stP (a34.add 3) (.int .i64 n31) w37 fun w38 => stP (a34.add 4) (.int .i64 n32) w38 fun w39 => stP (a34.add 5) (.slice s33.a s33.l s33.c) w39 fun w40 => next3 ((IntKind.i64.wrap (i_6 + 1)), ()) w40)
  (idxP s1.a s1.l (lib_0.l : Int) 6 fun a41 => stP a41 (.string (ByteArray.mk #[98, 101, 104, 105, 110, 100])) w5 fun w42 => slP s1.a s1.l s1.c none (some (lib_0.l : Int)) 6 fun p43 l44 c45 => K ⟨p43, l44, c45⟩ s1 w42)) st4.1) (0, ()) w2

def c_preludelaw03_library (lib_0 : Slc) (w : World) (K : Slc → Slc → World → Prop) : Prop := Calls Tryd.prog 5 #[.slice lib_0.a lib_0.l lib_0.c] w (onRet (fun v w' => ∃ (y0 : Slc), ∃ (y1 : Slc), v = .tuple #[.slice y0.a y0.l y0.c, .slice y1.a y1.l y1.c] ∧ K y0 y1 w'))

theorem sim_preludelaw03_library {lib_0 : Slc} {w : World} {K : Slc → Slc → World → Prop} (h : sh_preludelaw03_library c_preludelaw03_roomy lib_0 w K) : c_preludelaw03_library lib_0 w K := by
  have e : sh_preludelaw03_library c_preludelaw03_roomy lib_0 w K = shF Tryd.prog 5 ⟨[(6, .of [0, 1, 2, 3, 4, 5, 6, 7, 8, 9, 10])], [(3, [(5, (.int .i64))], [0, 4])], []⟩ [.slice lib_0.a lib_0.l lib_0.c] w (fun v w' => decT [(false, [.sl]), (false, [.sl])] v fun s => (fun (y0 : Slc) (y1 : Slc) => K y0 y1 w') s.1 s.2.1) := by kernel_rfl
  exact Calls.mono (calls_of _ e h) (onRet_mono (fun _ _ h => by obtain ⟨s, h1, h2⟩ := decT_spec h; exact ⟨s.1, s.2.1, h1, h2⟩))

-- 42 prelude/lang.isName; callees []
def sh_lang_isName (s_0 : ByteArray) (w : World) (K : Bool → World → Prop) : Prop :=
  iteB ((s_0).toList == (ByteArray.mk #[]).toList)
  (K false w)
  (iteB (decide (((s_0.size : Int) : Int) > 31))
  (K false w)
  (loopP (σ := Int × Unit) (fun st2 next1 w3 => (fun (i_4 : Int) => iteB (decide ((i_4 : Int) < (s_0.size : Int)))
  (chP s_0 i_4 fun b5 => iteB (decide ((b5 : Int) ≥ 97))
  (iteB (decide ((b5 : Int) ≤ 122))
  (next1 ((IntKind.i64.wrap (i_4 + 1)), ()) w3)
  (iteB (decide ((b5 : Int) ≥ 65))
  (iteB (!(decide ((b5 : Int) ≤ 90)))
  (iteB ((i_4 : Int) == 0)
  (K false w3)
  (iteB ((b5 : Int) != 95)
  (iteB (decide ((b5 : Int) < 48))
  (K false w3)
  (iteB (decide ((b5 : Int) > 57))
  (K false w3)
  (next1 ((IntKind.i64.wrap (i_4 + 1)), ()) w3)))
  (next1 ((IntKind.i64.wrap (i_4 + 1)), ()) w3)))
  (next1 ((IntKind.i64.wrap (i_4 + 1)), ()) w3))
  (iteB ((i_4 : Int) == 0)
  (K false w3)
  (iteB ((b5 : Int) != 95)
  (iteB (decide ((b5 : Int) < 48))
  (K false w3)
  (iteB (decide ((b5 : Int) > 57))
  (K false w3)
  (next1 ((IntKind.i64.wrap (i_4 + 1)), ()) w3)))
  (next1 ((IntKind.i64.wrap (i_4 + 1)), ()) w3)))))
  (iteB (decide ((b5 : Int) ≥ 65))
  (iteB (!(decide ((b5 : Int) ≤ 90)))
  (iteB ((i_4 : Int) == 0)
  (K false w3)
  (iteB ((b5 : Int) != 95)
  (iteB (decide ((b5 : Int) < 48))
  (K false w3)
  (iteB (decide ((b5 : Int) > 57))
  (K false w3)
  (next1 ((IntKind.i64.wrap (i_4 + 1)), ()) w3)))
  (next1 ((IntKind.i64.wrap (i_4 + 1)), ()) w3)))
  (next1 ((IntKind.i64.wrap (i_4 + 1)), ()) w3))
  (iteB ((i_4 : Int) == 0)
  (K false w3)
  (iteB ((b5 : Int) != 95)
  (iteB (decide ((b5 : Int) < 48))
  (K false w3)
  (iteB (decide ((b5 : Int) > 57))
  (K false w3)
  (next1 ((IntKind.i64.wrap (i_4 + 1)), ()) w3)))
  (next1 ((IntKind.i64.wrap (i_4 + 1)), ()) w3)))))
  (K true w3)) st2.1) (0, ()) w))

def c_lang_isName (s_0 : ByteArray) (w : World) (K : Bool → World → Prop) : Prop := Calls Tryd.prog 42 #[.string s_0] w (onRet (fun v w' => ∃ (y0 : Bool), v = .bool y0 ∧ K y0 w'))

theorem sim_lang_isName {s_0 : ByteArray} {w : World} {K : Bool → World → Prop} (h : sh_lang_isName s_0 w K) : c_lang_isName s_0 w K := by
  have e : sh_lang_isName s_0 w K = shF Tryd.prog 42 ⟨[], [(4, [(3, (.int .i64))], [0])], []⟩ [.string s_0] w (fun v w' => decV .b v fun y0 => K y0 w') := by kernel_rfl
  exact Calls.mono (calls_of _ e h) (onRet_mono (fun _ _ h => decV_spec h))

-- 45 prelude/lang.within; callees []
def sh_lang_within (n_0 : Int) (most_1 : Int) (w : World) (K : Bool → World → Prop) : Prop :=
  iteB (decide ((n_0 : Int) ≥ 0))
  (K (decide ((n_0 : Int) ≤ most_1)) w)
  (K false w)

def c_lang_within (n_0 : Int) (most_1 : Int) (w : World) (K : Bool → World → Prop) : Prop := Calls Tryd.prog 45 #[.int .i64 n_0, .int .i64 most_1] w (onRet (fun v w' => ∃ (y0 : Bool), v = .bool y0 ∧ K y0 w'))

theorem sim_lang_within {n_0 : Int} {most_1 : Int} {w : World} {K : Bool → World → Prop} (h : sh_lang_within n_0 most_1 w K) : c_lang_within n_0 most_1 w K := by
  have e : sh_lang_within n_0 most_1 w K = shF Tryd.prog 45 ⟨[], [], []⟩ [.int .i64 n_0, .int .i64 most_1] w (fun v w' => decV .b v fun y0 => K y0 w') := by kernel_rfl
  exact Calls.mono (calls_of _ e h) (onRet_mono (fun _ _ h => decV_spec h))

-- 44 prelude/lang.sizes; callees ['lang_within']
def sh_lang_sizes (c_lang_within : Int → Int → World → (Bool → World → Prop) → Prop) (p_0_0 : Int) (p_0_1 : Int) (p_0_2 : Int) (p_0_3 : Int) (p_0_4 : Slc) (w : World) (K : Int → World → Prop) : Prop :=
  newP #[.int .i64 p_0_0, .int .i64 p_0_1, .int .i64 p_0_2, .int .i64 p_0_3, .slice p_0_4.a p_0_4.l p_0_4.c] 41 w fun a1 w2 => ldI .i64 a1 w2 fun n3 => c_lang_within n3 16 w2 fun r4 w5 => iteB r4
  (ldI .i64 (a1.add 1) w5 fun n6 => c_lang_within n6 16 w5 fun r7 w8 => iteB r7
  (ldI .i64 (a1.add 2) w8 fun n9 => c_lang_within n9 16 w8 fun r10 w11 => iteB r10
  (ldI .i64 (a1.add 3) w11 fun n12 => c_lang_within n12 16 w11 fun r13 w14 => iteB (!r13)
  (K 30 w14)
  (ldS (a1.add 4) w14 fun s15 => iteB (decide (((s15.l : Int) : Int) > 256))
  (K 30 w14)
  (K 0 w14)))
  (K 30 w11))
  (K 30 w8))
  (K 30 w5)

def c_lang_sizes (p_0_0 : Int) (p_0_1 : Int) (p_0_2 : Int) (p_0_3 : Int) (p_0_4 : Slc) (w : World) (K : Int → World → Prop) : Prop := Calls Tryd.prog 44 #[.agg #[.int .i64 p_0_0, .int .i64 p_0_1, .int .i64 p_0_2, .int .i64 p_0_3, .slice p_0_4.a p_0_4.l p_0_4.c]] w (onRet (fun v w' => ∃ (y0 : Int), v = .int .i64 y0 ∧ K y0 w'))

theorem sim_lang_sizes {p_0_0 : Int} {p_0_1 : Int} {p_0_2 : Int} {p_0_3 : Int} {p_0_4 : Slc} {w : World} {K : Int → World → Prop} (h : sh_lang_sizes c_lang_within p_0_0 p_0_1 p_0_2 p_0_3 p_0_4 w K) : c_lang_sizes p_0_0 p_0_1 p_0_2 p_0_3 p_0_4 w K := by
  have e : sh_lang_sizes c_lang_within p_0_0 p_0_1 p_0_2 p_0_3 p_0_4 w K = shF Tryd.prog 44 ⟨[], [], []⟩ [.agg #[.int .i64 p_0_0, .int .i64 p_0_1, .int .i64 p_0_2, .int .i64 p_0_3, .slice p_0_4.a p_0_4.l p_0_4.c]] w (fun v w' => decV (.int .i64) v fun y0 => K y0 w') := by kernel_rfl
  exact Calls.mono (calls_of _ e h) (onRet_mono (fun _ _ h => decV_spec h))

-- 65 prelude/lang.argument; callees []
def sh_lang_argument (p_0_0 : Int) (p_0_1 : Int) (p_0_2 : Int) (p_0_3 : Int) (p_0_4 : Slc) (at_1 : Int) (w : World) (K : Int → World → Prop) : Prop :=
  newP #[.int .i64 p_0_0, .int .i64 p_0_1, .int .i64 p_0_2, .int .i64 p_0_3, .slice p_0_4.a p_0_4.l p_0_4.c] 41 w fun a1 w2 => ldS (a1.add 4) w2 fun s3 => idxP s3.a s3.l at_1 2 fun a4 => ldI .i64 a4 w2 fun n5 => ldI .i64 (a4.add 1) w2 fun n6 => newP #[.int .i64 0, .int .i64 0] 80 w2 fun a7 w8 => stP a7 (.int .i64 n5) w8 fun w9 => stP (a7.add 1) (.int .i64 n6) w9 fun w10 => ldI .i64 a7 w10 fun n11 => iteB ((n11 : Int) == 1)
  (K 0 w10)
  (iteB ((n11 : Int) == 30)
  (ldI .i64 (a7.add 1) w10 fun n12 => iteB (decide ((n12 : Int) ≤ at_1))
  (K 33 w10)
  (ldI .i64 (a7.add 1) w10 fun n13 => ldS (a1.add 4) w10 fun s14 => iteB (decide ((n13 : Int) > (s14.l : Int)))
  (K 33 w10)
  (K 0 w10)))
  (iteB ((n11 : Int) == 31)
  (ldI .i64 (a7.add 1) w10 fun n15 => iteB (decide ((n15 : Int) ≤ at_1))
  (K 33 w10)
  (ldI .i64 (a7.add 1) w10 fun n16 => ldS (a1.add 4) w10 fun s17 => iteB (decide ((n16 : Int) > (s17.l : Int)))
  (K 33 w10)
  (K 0 w10)))
  (iteB ((n11 : Int) == 4)
  (ldI .i64 (a1.add 3) w10 fun n18 => ldI .i64 (a7.add 1) w10 fun n19 => iteB (decide ((n19 : Int) < 0))
  (K 32 w10)
  (ldI .i64 (a7.add 1) w10 fun n20 => iteB (decide ((n20 : Int) > (IntKind.i64.wrap (n18 - 1))))
  (K 32 w10)
  (K 0 w10)))
  (iteB ((n11 : Int) == 5)
  (ldI .i64 (a1.add 3) w10 fun n21 => ldI .i64 (a7.add 1) w10 fun n22 => iteB (decide ((n22 : Int) < 0))
  (K 32 w10)
  (ldI .i64 (a7.add 1) w10 fun n23 => iteB (decide ((n23 : Int) > (IntKind.i64.wrap (n21 - 1))))
  (K 32 w10)
  (K 0 w10)))
  (iteB ((n11 : Int) == 6)
  (ldI .i64 a1 w10 fun n24 => ldI .i64 (a7.add 1) w10 fun n25 => iteB (decide ((n25 : Int) < 0))
  (K 32 w10)
  (ldI .i64 (a7.add 1) w10 fun n26 => iteB (decide ((n26 : Int) > (IntKind.i64.wrap (n24 - 1))))
  (K 32 w10)
  (K 0 w10)))
  (iteB ((n11 : Int) == 7)
  (ldI .i64 (a1.add 1) w10 fun n27 => ldI .i64 (a7.add 1) w10 fun n28 => iteB (decide ((n28 : Int) < 0))
  (K 32 w10)
  (ldI .i64 (a7.add 1) w10 fun n29 => iteB (decide ((n29 : Int) > (IntKind.i64.wrap (n27 - 1))))
  (K 32 w10)
  (K 0 w10)))
  (iteB ((n11 : Int) == 8)
  (ldI .i64 (a1.add 1) w10 fun n30 => ldI .i64 (a7.add 1) w10 fun n31 => iteB (decide ((n31 : Int) < 0))
  (K 32 w10)
  (ldI .i64 (a7.add 1) w10 fun n32 => iteB (decide ((n32 : Int) > (IntKind.i64.wrap (n30 - 1))))
  (K 32 w10)
  (K 0 w10)))
  (iteB ((n11 : Int) == 32)
  (ldI .i64 (a1.add 2) w10 fun n33 => ldI .i64 (a7.add 1) w10 fun n34 => iteB (decide ((n34 : Int) < 0))
  (K 32 w10)
  (ldI .i64 (a7.add 1) w10 fun n35 => iteB (decide ((n35 : Int) > (IntKind.i64.wrap (n33 - 1))))
  (K 32 w10)
  (K 0 w10)))
  (iteB ((n11 : Int) == 33)
  (ldI .i64 (a1.add 2) w10 fun n36 => ldI .i64 (a7.add 1) w10 fun n37 => iteB (decide ((n37 : Int) < 0))
  (K 32 w10)
  (ldI .i64 (a7.add 1) w10 fun n38 => iteB (decide ((n38 : Int) > (IntKind.i64.wrap (n36 - 1))))
  (K 32 w10)
  (K 0 w10)))
  (ldI .i64 (a7.add 1) w10 fun n39 => iteB (decide ((n39 : Int) < 0))
  (K 32 w10)
  (ldI .i64 (a7.add 1) w10 fun n40 => iteB (decide ((n40 : Int) > 0))
  (K 32 w10)
  (K 0 w10))))))))))))

def c_lang_argument (p_0_0 : Int) (p_0_1 : Int) (p_0_2 : Int) (p_0_3 : Int) (p_0_4 : Slc) (at_1 : Int) (w : World) (K : Int → World → Prop) : Prop := Calls Tryd.prog 65 #[.agg #[.int .i64 p_0_0, .int .i64 p_0_1, .int .i64 p_0_2, .int .i64 p_0_3, .slice p_0_4.a p_0_4.l p_0_4.c], .int .i64 at_1] w (onRet (fun v w' => ∃ (y0 : Int), v = .int .i64 y0 ∧ K y0 w'))

theorem sim_lang_argument {p_0_0 : Int} {p_0_1 : Int} {p_0_2 : Int} {p_0_3 : Int} {p_0_4 : Slc} {at_1 : Int} {w : World} {K : Int → World → Prop} (h : sh_lang_argument p_0_0 p_0_1 p_0_2 p_0_3 p_0_4 at_1 w K) : c_lang_argument p_0_0 p_0_1 p_0_2 p_0_3 p_0_4 at_1 w K := by
  have e : sh_lang_argument p_0_0 p_0_1 p_0_2 p_0_3 p_0_4 at_1 w K = shF Tryd.prog 65 ⟨[], [], []⟩ [.agg #[.int .i64 p_0_0, .int .i64 p_0_1, .int .i64 p_0_2, .int .i64 p_0_3, .slice p_0_4.a p_0_4.l p_0_4.c], .int .i64 at_1] w (fun v w' => decV (.int .i64) v fun y0 => K y0 w') := by kernel_rfl
  exact Calls.mono (calls_of _ e h) (onRet_mono (fun _ _ h => decV_spec h))

-- 66 prelude/lang.moves; callees []
def sh_lang_moves (op_0 : Int) (w : World) (K : Int → Int → World → Prop) : Prop :=
  iteB ((op_0 : Int) == 34)
  (K (IntKind.i64.wrap ((IntKind.i64.wrap (0 + 1)) + 1)) 0 w)
  (iteB ((op_0 : Int) == 2)
  (K (IntKind.i64.wrap (0 + 1)) 0 w)
  (iteB ((op_0 : Int) == 5)
  (K (IntKind.i64.wrap (0 + 1)) 0 w)
  (iteB ((op_0 : Int) == 31)
  (K (IntKind.i64.wrap (0 + 1)) 0 w)
  (iteB ((op_0 : Int) == 32)
  (K (IntKind.i64.wrap (0 + 1)) 0 w)
  (iteB ((op_0 : Int) == 35)
  (K (IntKind.i64.wrap (0 + 1)) 0 w)
  (iteB ((op_0 : Int) == 36)
  (K (IntKind.i64.wrap (0 + 1)) 0 w)
  (iteB ((op_0 : Int) == 3)
  (K (IntKind.i64.wrap (0 + 1)) (IntKind.i64.wrap ((IntKind.i64.wrap (0 + 1)) + 1)) w)
  (iteB ((op_0 : Int) == 9)
  (K (IntKind.i64.wrap (0 + 1)) (IntKind.i64.wrap (0 + 1)) w)
  (iteB ((op_0 : Int) == 20)
  (K (IntKind.i64.wrap (0 + 1)) (IntKind.i64.wrap (0 + 1)) w)
  (iteB ((op_0 : Int) == 21)
  (K (IntKind.i64.wrap (0 + 1)) (IntKind.i64.wrap (0 + 1)) w)
  (iteB ((op_0 : Int) == 1)
  (K 0 (IntKind.i64.wrap (0 + 1)) w)
  (iteB ((op_0 : Int) == 4)
  (K 0 (IntKind.i64.wrap (0 + 1)) w)
  (iteB ((op_0 : Int) == 6)
  (K 0 (IntKind.i64.wrap (0 + 1)) w)
  (iteB ((op_0 : Int) == 7)
  (K 0 (IntKind.i64.wrap (0 + 1)) w)
  (iteB ((op_0 : Int) == 8)
  (K 0 (IntKind.i64.wrap (0 + 1)) w)
  (iteB ((op_0 : Int) == 0)
  (K 0 0 w)
  (iteB ((op_0 : Int) == 30)
  (K 0 0 w)
  (iteB ((op_0 : Int) == 33)
  (K 0 0 w)
  (K 2 1 w)))))))))))))))))))

def c_lang_moves (op_0 : Int) (w : World) (K : Int → Int → World → Prop) : Prop := Calls Tryd.prog 66 #[.int .i64 op_0] w (onRet (fun v w' => ∃ (y0 : Int), ∃ (y1 : Int), v = .tuple #[.int .i64 y0, .int .i64 y1] ∧ K y0 y1 w'))

theorem sim_lang_moves {op_0 : Int} {w : World} {K : Int → Int → World → Prop} (h : sh_lang_moves op_0 w K) : c_lang_moves op_0 w K := by
  have e : sh_lang_moves op_0 w K = shF Tryd.prog 66 ⟨[], [], []⟩ [.int .i64 op_0] w (fun v w' => decT [(false, [(.int .i64)]), (false, [(.int .i64)])] v fun s => (fun (y0 : Int) (y1 : Int) => K y0 y1 w') s.1 s.2.1) := by kernel_rfl
  exact Calls.mono (calls_of _ e h) (onRet_mono (fun _ _ h => by obtain ⟨s, h1, h2⟩ := decT_spec h; exact ⟨s.1, s.2.1, h1, h2⟩))

-- 67 prelude/lang.ways; callees []
def sh_lang_ways (in_0_0 : Int) (in_0_1 : Int) (at_1 : Int) (w : World) (K : Slc → World → Prop) : Prop :=
  newP #[.int .i64 in_0_0, .int .i64 in_0_1] 80 w fun a1 w2 => ldI .i64 a1 w2 fun n3 => iteB ((n3 : Int) == 0)
  (K ⟨none, 0, 0⟩ w2)
  (iteB ((n3 : Int) == 36)
  (K ⟨none, 0, 0⟩ w2)
  (iteB ((n3 : Int) == 30)
  (ldI .i64 (a1.add 1) w2 fun n4 => newP #[.int .i64 n4] 3 w2 fun a5 w6 => K ⟨(some a5), 1, 1⟩ w6)
  (iteB ((n3 : Int) == 31)
  (ldI .i64 (a1.add 1) w2 fun n7 => newP #[.int .i64 n7, .int .i64 (IntKind.i64.wrap (at_1 + 1))] 3 w2 fun a8 w9 => K ⟨(some a8), 2, 2⟩ w9)
  (newP #[.int .i64 (IntKind.i64.wrap (at_1 + 1))] 3 w2 fun a10 w11 => K ⟨(some a10), 1, 1⟩ w11))))

def c_lang_ways (in_0_0 : Int) (in_0_1 : Int) (at_1 : Int) (w : World) (K : Slc → World → Prop) : Prop := Calls Tryd.prog 67 #[.agg #[.int .i64 in_0_0, .int .i64 in_0_1], .int .i64 at_1] w (onRet (fun v w' => ∃ (y0 : Slc), v = .slice y0.a y0.l y0.c ∧ K y0 w'))

theorem sim_lang_ways {in_0_0 : Int} {in_0_1 : Int} {at_1 : Int} {w : World} {K : Slc → World → Prop} (h : sh_lang_ways in_0_0 in_0_1 at_1 w K) : c_lang_ways in_0_0 in_0_1 at_1 w K := by
  have e : sh_lang_ways in_0_0 in_0_1 at_1 w K = shF Tryd.prog 67 ⟨[], [], []⟩ [.agg #[.int .i64 in_0_0, .int .i64 in_0_1], .int .i64 at_1] w (fun v w' => decV .sl v fun y0 => K y0 w') := by kernel_rfl
  exact Calls.mono (calls_of _ e h) (onRet_mono (fun _ _ h => decV_spec h))

-- 59 prelude/lang.look; callees ['lang_sizes', 'lang_within', 'lang_argument', 'lang_moves', 'lang_ways']
def sh_lang_look (c_lang_sizes : Int → Int → Int → Int → Slc → World → (Int → World → Prop) → Prop) (c_lang_within : Int → Int → World → (Bool → World → Prop) → Prop) (c_lang_argument : Int → Int → Int → Int → Slc → Int → World → (Int → World → Prop) → Prop) (c_lang_moves : Int → World → (Int → Int → World → Prop) → Prop) (c_lang_ways : Int → Int → Int → World → (Slc → World → Prop) → Prop) (x_0_0 : Int) (x_0_1 : Int) (x_0_2 : Int) (x_0_3 : Int) (x_0_4 : Slc) (w : World) (K : Slc → Int → World → Prop) : Prop :=
  newP #[.int .i64 x_0_0, .int .i64 x_0_1, .int .i64 x_0_2, .int .i64 x_0_3, .slice x_0_4.a x_0_4.l x_0_4.c] 41 w fun a1 w2 => ldI .i64 a1 w2 fun n3 => ldI .i64 (a1.add 1) w2 fun n4 => ldI .i64 (a1.add 2) w2 fun n5 => ldI .i64 (a1.add 3) w2 fun n6 => ldS (a1.add 4) w2 fun s7 => c_lang_sizes n3 n4 n5 n6 s7 w2 fun r8 w9 => iteB ((r8 : Int) != 0)
  (K ⟨none, 0, 0⟩ r8 w9)
  (ldS (a1.add 4) w9 fun s10 => loopP (σ := Int × Unit) (fun st12 next11 w13 => (fun (x14 : Int) => iteB (decide ((x14 : Int) < (s10.l : Int)))
  (idxP s10.a s10.l x14 2 fun a15 => ldI .i64 a15 w13 fun n16 => ldI .i64 (a15.add 1) w13 fun n17 => newP #[.int .i64 0, .int .i64 0] 80 w13 fun a18 w19 => stP a18 (.int .i64 n16) w19 fun w20 => stP (a18.add 1) (.int .i64 n17) w20 fun w21 => ldI .i64 a18 w21 fun n22 => c_lang_within n22 36 w21 fun r23 w24 => iteB (!r23)
  (K ⟨none, 0, 0⟩ 31 w24)
  (ldI .i64 a1 w24 fun n25 => ldI .i64 (a1.add 1) w24 fun n26 => ldI .i64 (a1.add 2) w24 fun n27 => ldI .i64 (a1.add 3) w24 fun n28 => ldS (a1.add 4) w24 fun s29 => c_lang_argument n25 n26 n27 n28 s29 x14 w24 fun r30 w31 => iteB ((r30 : Int) != 0)
  (K ⟨none, 0, 0⟩ r30 w31)
  (next11 ((IntKind.i64.wrap (x14 + 1)), ()) w31)))
  (ldS (a1.add 4) w13 fun s32 => mkP Tryd.prog 90 (.int .i64 (IntKind.i64.wrap ((s32.l : Int) + 1))) (.int .i64 (IntKind.i64.wrap ((s32.l : Int) + 1))) w13 fun s33 w34 => loopP (σ := Int × Unit) (fun st36 next35 w37 => (fun (x38 : Int) => iteB (decide ((x38 : Int) < (s33.l : Int)))
  (idxP s33.a s33.l x38 1 fun a39 => stP a39 (.int .i64 (-1)) w37 fun w40 => next35 ((IntKind.i64.wrap (x38 + 1)), ()) w40)
  (idxP s33.a s33.l 0 1 fun a41 => stP a41 (.int .i64 0) w37 fun w42 => ldS (a1.add 4) w42 fun s43 => loopP (σ := Bool × Int × Unit) (fun st45 next44 w46 => (fun (x47 : Bool) (x48 : Int) => iteB (decide ((x48 : Int) < (s43.l : Int)))
  (idxP s43.a s43.l x48 2 fun a49 => ldI .i64 a49 w46 fun n50 => ldI .i64 (a49.add 1) w46 fun n51 => newP #[.int .i64 0, .int .i64 0] 80 w46 fun a52 w53 => stP a52 (.int .i64 n50) w53 fun w54 => stP (a52.add 1) (.int .i64 n51) w54 fun w55 => idxP s33.a s33.l x48 1 fun a56 => ldI .i64 a56 w55 fun n57 => iteB (decide ((n57 : Int) < 0))
  (next44 (x47, (IntKind.i64.wrap (x48 + 1)), ()) w55)
  (ldI .i64 a52 w55 fun n58 => c_lang_moves n58 w55 fun r59 r60 w61 => iteB (decide ((n57 : Int) < r59))
  (K ⟨none, 0, 0⟩ 34 w61)
  (iteB (decide (((IntKind.i64.wrap ((IntKind.i64.wrap (n57 - r59)) + r60)) : Int) > 32))
  (K ⟨none, 0, 0⟩ 34 w61)
  (ldI .i64 a52 w61 fun n62 => ldI .i64 (a52.add 1) w61 fun n63 => c_lang_ways n62 n63 x48 w61 fun r64 w65 => loopP (σ := Bool × Int × Unit) (fun st67 next66 w68 => (fun (x69 : Bool) (x70 : Int) => iteB (decide ((x70 : Int) < (r64.l : Int)))
  (idxP r64.a r64.l x70 1 fun a71 => ldI .i64 a71 w68 fun n72 => idxP s33.a s33.l n72 1 fun a73 => ldI .i64 a73 w68 fun n74 => iteB (decide ((n74 : Int) ≥ 0))
  (idxP s33.a s33.l n72 1 fun a75 => ldI .i64 a75 w68 fun n76 => iteB ((n76 : Int) != (IntKind.i64.wrap ((IntKind.i64.wrap (n57 - r59)) + r60)))
  (K ⟨none, 0, 0⟩ 34 w68)
  (idxP s33.a s33.l n72 1 fun a77 => stP a77 (.int .i64 (IntKind.i64.wrap ((IntKind.i64.wrap (n57 - r59)) + r60))) w68 fun w78 => next66 (x69, (IntKind.i64.wrap (x70 + 1)), ()) w78))
  (idxP s33.a s33.l n72 1 fun a79 => stP a79 (.int .i64 (IntKind.i64.wrap ((IntKind.i64.wrap (n57 - r59)) + r60))) w68 fun w80 => next66 (x69, (IntKind.i64.wrap (x70 + 1)), ()) w80))
  (next44 (x69, (IntKind.i64.wrap (x48 + 1)), ()) w68)) st67.1 st67.2.1) (x47, 0, ()) w65))))
  (iteB x47
  (K ⟨none, 0, 0⟩ 34 w46)
  (K s33 0 w46))) st45.1 st45.2.1) (false, 0, ()) w42)) st36.1) (0, ()) w34)) st12.1) (0, ()) w9)

def c_lang_look (x_0_0 : Int) (x_0_1 : Int) (x_0_2 : Int) (x_0_3 : Int) (x_0_4 : Slc) (w : World) (K : Slc → Int → World → Prop) : Prop := Calls Tryd.prog 59 #[.agg #[.int .i64 x_0_0, .int .i64 x_0_1, .int .i64 x_0_2, .int .i64 x_0_3, .slice x_0_4.a x_0_4.l x_0_4.c]] w (onRet (fun v w' => ∃ (y0 : Slc), ∃ (y1 : Int), v = .tuple #[.slice y0.a y0.l y0.c, .int .i64 y1] ∧ K y0 y1 w'))

theorem sim_lang_look {x_0_0 : Int} {x_0_1 : Int} {x_0_2 : Int} {x_0_3 : Int} {x_0_4 : Slc} {w : World} {K : Slc → Int → World → Prop} (h : sh_lang_look c_lang_sizes c_lang_within c_lang_argument c_lang_moves c_lang_ways x_0_0 x_0_1 x_0_2 x_0_3 x_0_4 w K) : c_lang_look x_0_0 x_0_1 x_0_2 x_0_3 x_0_4 w K := by
  have e : sh_lang_look c_lang_sizes c_lang_within c_lang_argument c_lang_moves c_lang_ways x_0_0 x_0_1 x_0_2 x_0_3 x_0_4 w K = shF Tryd.prog 59 ⟨[], [(5, [(26, (.int .i64))], [1, 24, 25]), (15, [(49, (.int .i64))], [1, 8, 48]), (22, [(10, .b), (61, (.int .i64))], [8, 59, 60]), (30, [(10, .b), (93, (.int .i64))], [8, 13, 14, 15, 59, 60, 61, 91, 92])], []⟩ [.agg #[.int .i64 x_0_0, .int .i64 x_0_1, .int .i64 x_0_2, .int .i64 x_0_3, .slice x_0_4.a x_0_4.l x_0_4.c]] w (fun v w' => decT [(false, [.sl]), (false, [(.int .i64)])] v fun s => (fun (y0 : Slc) (y1 : Int) => K y0 y1 w') s.1 s.2.1) := by kernel_rfl
  exact Calls.mono (calls_of _ e h) (onRet_mono (fun _ _ h => by obtain ⟨s, h1, h2⟩ := decT_spec h; exact ⟨s.1, s.2.1, h1, h2⟩))

-- 43 prelude/lang.Verify; callees ['lang_look']
def sh_lang_Verify (c_lang_look : Int → Int → Int → Int → Slc → World → (Slc → Int → World → Prop) → Prop) (p_0_0 : Int) (p_0_1 : Int) (p_0_2 : Int) (p_0_3 : Int) (p_0_4 : Slc) (w : World) (K : Int → World → Prop) : Prop :=
  newP #[.int .i64 p_0_0, .int .i64 p_0_1, .int .i64 p_0_2, .int .i64 p_0_3, .slice p_0_4.a p_0_4.l p_0_4.c] 41 w fun a1 w2 => ldI .i64 a1 w2 fun n3 => ldI .i64 (a1.add 1) w2 fun n4 => ldI .i64 (a1.add 2) w2 fun n5 => ldI .i64 (a1.add 3) w2 fun n6 => ldS (a1.add 4) w2 fun s7 => c_lang_look n3 n4 n5 n6 s7 w2 fun r8 r9 w10 => K r9 w10

def c_lang_Verify (p_0_0 : Int) (p_0_1 : Int) (p_0_2 : Int) (p_0_3 : Int) (p_0_4 : Slc) (w : World) (K : Int → World → Prop) : Prop := Calls Tryd.prog 43 #[.agg #[.int .i64 p_0_0, .int .i64 p_0_1, .int .i64 p_0_2, .int .i64 p_0_3, .slice p_0_4.a p_0_4.l p_0_4.c]] w (onRet (fun v w' => ∃ (y0 : Int), v = .int .i64 y0 ∧ K y0 w'))

theorem sim_lang_Verify {p_0_0 : Int} {p_0_1 : Int} {p_0_2 : Int} {p_0_3 : Int} {p_0_4 : Slc} {w : World} {K : Int → World → Prop} (h : sh_lang_Verify c_lang_look p_0_0 p_0_1 p_0_2 p_0_3 p_0_4 w K) : c_lang_Verify p_0_0 p_0_1 p_0_2 p_0_3 p_0_4 w K := by
  have e : sh_lang_Verify c_lang_look p_0_0 p_0_1 p_0_2 p_0_3 p_0_4 w K = shF Tryd.prog 43 ⟨[], [], []⟩ [.agg #[.int .i64 p_0_0, .int .i64 p_0_1, .int .i64 p_0_2, .int .i64 p_0_3, .slice p_0_4.a p_0_4.l p_0_4.c]] w (fun v w' => decV (.int .i64) v fun y0 => K y0 w') := by kernel_rfl
  exact Calls.mono (calls_of _ e h) (onRet_mono (fun _ _ h => decV_spec h))

-- 16 prelude/lang.Check; callees ['lang_isName', 'lang_Verify']
def sh_lang_Check (c_lang_isName : ByteArray → World → (Bool → World → Prop) → Prop) (c_lang_Verify : Int → Int → Int → Int → Slc → World → (Int → World → Prop) → Prop) (lib_0 : Slc) (w : World) (K : Int → Int → World → Prop) : Prop :=
  iteB (decide (((lib_0.l : Int) : Int) > 64))
  (K 0 36 w)
  ((∃ (r1 : Option Nat), ∃ w2, (Instr.makeMap 82 none).run Tryd.prog w = .ok (.map r1) w2 ∧ (loopP (σ := Int × Unit) (fun st4 next3 w5 => (fun (x6 : Int) => iteB (decide ((x6 : Int) < (lib_0.l : Int)))
  (idxP lib_0.a lib_0.l x6 6 fun a7 => ldStr a7 w5 fun s8 => ldI .i64 (a7.add 1) w5 fun n9 => ldI .i64 (a7.add 2) w5 fun n10 => ldI .i64 (a7.add 3) w5 fun n11 => ldI .i64 (a7.add 4) w5 fun n12 => ldS (a7.add 5) w5 fun s13 => newP #[.string ByteArray.empty, .int .i64 0, .int .i64 0, .int .i64 0, .int .i64 0, .slice none 0 0] 43 w5 fun a14 w15 => stP a14 (.string s8) w15 fun w16 => stP (a14.add 1) (.int .i64 n9) w16 fun w17 => stP (a14.add 2) (.int .i64 n10) w17 fun w18 => stP (a14.add 3) (.int .i64 n11) w18 fun w19 => stP (a14.add 4) (.int .i64 n12) w19 fun w20 => stP (a14.add 5) (.slice s13.a s13.l s13.c) w20 fun w21 => ldStr a14 w21 fun s22 => (∃ (r23 : Int), ∃ (r24 : Bool), ∃ w25, (Instr.lookup 82 (.map r1) (.string s22) true).run Tryd.prog w21 = .ok (.tuple #[.int .i64 r23, .bool r24]) w25 ∧ (iteB r24
  (K x6 35 w25)
  (ldStr a14 w25 fun s26 => c_lang_isName s26 w25 fun r27 w28 => iteB (!r27)
  (K x6 35 w28)
  (ldStr a14 w28 fun s29 => opU Tryd.prog (Instr.mapUpdate 82 (.map r1) (.string s29) (.int .i64 x6)) w28 fun w30 => ldI .i64 (a14.add 1) w30 fun n31 => ldI .i64 ((a14.add 1).add 1) w30 fun n32 => ldI .i64 ((a14.add 1).add 2) w30 fun n33 => ldI .i64 ((a14.add 1).add 3) w30 fun n34 => ldS ((a14.add 1).add 4) w30 fun s35 => c_lang_Verify n31 n32 n33 n34 s35 w30 fun r36 w37 => iteB ((r36 : Int) != 0)
  (K x6 r36 w37)
  (next3 ((IntKind.i64.wrap (x6 + 1)), ()) w37))))))
  (K 0 0 w5)) st4.1) (0, ()) w2)))

def c_lang_Check (lib_0 : Slc) (w : World) (K : Int → Int → World → Prop) : Prop := Calls Tryd.prog 16 #[.slice lib_0.a lib_0.l lib_0.c] w (onRet (fun v w' => ∃ (y0 : Int), ∃ (y1 : Int), v = .tuple #[.int .i64 y0, .int .i64 y1] ∧ K y0 y1 w'))

theorem sim_lang_Check {lib_0 : Slc} {w : World} {K : Int → Int → World → Prop} (h : sh_lang_Check c_lang_isName c_lang_Verify lib_0 w K) : c_lang_Check lib_0 w K := by
  have e : sh_lang_Check c_lang_isName c_lang_Verify lib_0 w K = shF Tryd.prog 16 ⟨[], [(5, [(16, (.int .i64))], [4, 14, 15])], []⟩ [.slice lib_0.a lib_0.l lib_0.c] w (fun v w' => decT [(false, [(.int .i64)]), (false, [(.int .i64)])] v fun s => (fun (y0 : Int) (y1 : Int) => K y0 y1 w') s.1 s.2.1) := by kernel_rfl
  exact Calls.mono (calls_of _ e h) (onRet_mono (fun _ _ h => by obtain ⟨s, h1, h2⟩ := decT_spec h; exact ⟨s.1, s.2.1, h1, h2⟩))

-- 17 prelude/codec.New; callees []
def sh_codec_New (w : World) (K : Option Addr → World → Prop) : Prop :=
  newP #[.slice none 0 0] 87 w fun a1 w2 => K (some a1) w2

def c_codec_New (w : World) (K : Option Addr → World → Prop) : Prop := Calls Tryd.prog 17 #[] w (onRet (fun v w' => ∃ (y0 : Option Addr), v = .pointer y0 ∧ K y0 w'))

theorem sim_codec_New {w : World} {K : Option Addr → World → Prop} (h : sh_codec_New w K) : c_codec_New  w K := by
  have e : sh_codec_New w K = shF Tryd.prog 17 ⟨[], [], []⟩ [] w (fun v w' => decV .ptr v fun y0 => K y0 w') := by kernel_rfl
  exact Calls.mono (calls_of _ e h) (onRet_mono (fun _ _ h => decV_spec h))

-- 18 (*prelude/codec.Writer).Raw; callees []
def sh_codec_Writer_Raw (w_0 : Option Addr) (b_1 : Slc) (w : World) (K : World → Prop) : Prop :=
  nnP w_0 fun a1 => ldS a1 w fun s2 => apP Tryd.prog #[23, 23] 23 [.slice s2.a s2.l s2.c, .slice b_1.a b_1.l b_1.c] w fun s4 w3 => nnP w_0 fun a5 => stP a5 (.slice s4.a s4.l s4.c) w3 fun w6 => K w6

def c_codec_Writer_Raw (w_0 : Option Addr) (b_1 : Slc) (w : World) (K : World → Prop) : Prop := Calls Tryd.prog 18 #[.pointer w_0, .slice b_1.a b_1.l b_1.c] w (onRet (fun v w' => v = .tuple #[] ∧ K w'))

theorem sim_codec_Writer_Raw {w_0 : Option Addr} {b_1 : Slc} {w : World} {K : World → Prop} (h : sh_codec_Writer_Raw w_0 b_1 w K) : c_codec_Writer_Raw w_0 b_1 w K := by
  have e : sh_codec_Writer_Raw w_0 b_1 w K = shF Tryd.prog 18 ⟨[], [], []⟩ [.pointer w_0, .slice b_1.a b_1.l b_1.c] w (fun v w' => decU v (K w')) := by kernel_rfl
  exact Calls.mono (calls_of _ e h) (onRet_mono (fun _ _ h => decU_spec h))

-- 19 (*prelude/codec.Writer).Uint; callees []
def sh_codec_Writer_Uint (w_0 : Option Addr) (n_1 : Int) (w : World) (K : World → Prop) : Prop :=
  loopP (σ := Int × Unit) (fun st2 next1 w3 => (fun (n_4 : Int) => iteB (decide ((n_4 : Int) ≥ 128))
  (nnP w_0 fun a5 => ldS a5 w3 fun s6 => newP #[.int .u8 (bOr .u8 (IntKind.u8.wrap n_4) 128)] 5 w3 fun a7 w8 => apP Tryd.prog #[23, 23] 23 [.slice s6.a s6.l s6.c, .slice (some a7) 1 1] w8 fun s10 w9 => nnP w_0 fun a11 => stP a11 (.slice s10.a s10.l s10.c) w9 fun w12 => shP 7 (next1 ((Int.fdiv n_4 (2 ^ (min (Int.toNat 7) (IntKind.bits .u64)))), ()) w12))
  (nnP w_0 fun a13 => ldS a13 w3 fun s14 => newP #[.int .u8 (IntKind.u8.wrap n_4)] 5 w3 fun a15 w16 => apP Tryd.prog #[23, 23] 23 [.slice s14.a s14.l s14.c, .slice (some a15) 1 1] w16 fun s18 w17 => nnP w_0 fun a19 => stP a19 (.slice s18.a s18.l s18.c) w17 fun w20 => K w20)) st2.1) (n_1, ()) w

def c_codec_Writer_Uint (w_0 : Option Addr) (n_1 : Int) (w : World) (K : World → Prop) : Prop := Calls Tryd.prog 19 #[.pointer w_0, .int .u64 n_1] w (onRet (fun v w' => v = .tuple #[] ∧ K w'))

theorem sim_codec_Writer_Uint {w_0 : Option Addr} {n_1 : Int} {w : World} {K : World → Prop} (h : sh_codec_Writer_Uint w_0 n_1 w K) : c_codec_Writer_Uint w_0 n_1 w K := by
  have e : sh_codec_Writer_Uint w_0 n_1 w K = shF Tryd.prog 19 ⟨[], [(0, [(1, (.int .u64))], [0])], []⟩ [.pointer w_0, .int .u64 n_1] w (fun v w' => decU v (K w')) := by kernel_rfl
  exact Calls.mono (calls_of _ e h) (onRet_mono (fun _ _ h => decU_spec h))

-- 20 (*prelude/codec.Writer).Bytes; callees ['codec_Writer_Uint', 'codec_Writer_Raw']
def sh_codec_Writer_Bytes (c_codec_Writer_Uint : Option Addr → Int → World → (World → Prop) → Prop) (c_codec_Writer_Raw : Option Addr → Slc → World → (World → Prop) → Prop) (w_0 : Option Addr) (b_1 : Slc) (w : World) (K : World → Prop) : Prop :=
  c_codec_Writer_Uint w_0 (IntKind.u64.wrap (b_1.l : Int)) w fun w1 => c_codec_Writer_Raw w_0 b_1 w1 fun w2 => K w2

def c_codec_Writer_Bytes (w_0 : Option Addr) (b_1 : Slc) (w : World) (K : World → Prop) : Prop := Calls Tryd.prog 20 #[.pointer w_0, .slice b_1.a b_1.l b_1.c] w (onRet (fun v w' => v = .tuple #[] ∧ K w'))

theorem sim_codec_Writer_Bytes {w_0 : Option Addr} {b_1 : Slc} {w : World} {K : World → Prop} (h : sh_codec_Writer_Bytes c_codec_Writer_Uint c_codec_Writer_Raw w_0 b_1 w K) : c_codec_Writer_Bytes w_0 b_1 w K := by
  have e : sh_codec_Writer_Bytes c_codec_Writer_Uint c_codec_Writer_Raw w_0 b_1 w K = shF Tryd.prog 20 ⟨[], [], []⟩ [.pointer w_0, .slice b_1.a b_1.l b_1.c] w (fun v w' => decU v (K w')) := by kernel_rfl
  exact Calls.mono (calls_of _ e h) (onRet_mono (fun _ _ h => decU_spec h))

-- 46 (*prelude/codec.Writer).Byte; callees []
def sh_codec_Writer_Byte (w_0 : Option Addr) (b_1 : Int) (w : World) (K : World → Prop) : Prop :=
  nnP w_0 fun a1 => ldS a1 w fun s2 => newP #[.int .u8 b_1] 5 w fun a3 w4 => apP Tryd.prog #[23, 23] 23 [.slice s2.a s2.l s2.c, .slice (some a3) 1 1] w4 fun s6 w5 => nnP w_0 fun a7 => stP a7 (.slice s6.a s6.l s6.c) w5 fun w8 => K w8

def c_codec_Writer_Byte (w_0 : Option Addr) (b_1 : Int) (w : World) (K : World → Prop) : Prop := Calls Tryd.prog 46 #[.pointer w_0, .int .u8 b_1] w (onRet (fun v w' => v = .tuple #[] ∧ K w'))

theorem sim_codec_Writer_Byte {w_0 : Option Addr} {b_1 : Int} {w : World} {K : World → Prop} (h : sh_codec_Writer_Byte w_0 b_1 w K) : c_codec_Writer_Byte w_0 b_1 w K := by
  have e : sh_codec_Writer_Byte w_0 b_1 w K = shF Tryd.prog 46 ⟨[], [], []⟩ [.pointer w_0, .int .u8 b_1] w (fun v w' => decU v (K w')) := by kernel_rfl
  exact Calls.mono (calls_of _ e h) (onRet_mono (fun _ _ h => decU_spec h))

-- 47 (*prelude/codec.Writer).Int; callees ['codec_Writer_Uint']
def sh_codec_Writer_Int (c_codec_Writer_Uint : Option Addr → Int → World → (World → Prop) → Prop) (w_0 : Option Addr) (n_1 : Int) (w : World) (K : World → Prop) : Prop :=
  shP 1 (shP 63 (c_codec_Writer_Uint w_0 (bXor .u64 (IntKind.u64.wrap ((IntKind.u64.wrap n_1) * 2 ^ (min (Int.toNat 1) (IntKind.bits .u64)))) (IntKind.u64.wrap (Int.fdiv n_1 (2 ^ (min (Int.toNat 63) (IntKind.bits .i64)))))) w fun w1 => K w1))

def c_codec_Writer_Int (w_0 : Option Addr) (n_1 : Int) (w : World) (K : World → Prop) : Prop := Calls Tryd.prog 47 #[.pointer w_0, .int .i64 n_1] w (onRet (fun v w' => v = .tuple #[] ∧ K w'))

theorem sim_codec_Writer_Int {w_0 : Option Addr} {n_1 : Int} {w : World} {K : World → Prop} (h : sh_codec_Writer_Int c_codec_Writer_Uint w_0 n_1 w K) : c_codec_Writer_Int w_0 n_1 w K := by
  have e : sh_codec_Writer_Int c_codec_Writer_Uint w_0 n_1 w K = shF Tryd.prog 47 ⟨[], [], []⟩ [.pointer w_0, .int .i64 n_1] w (fun v w' => decU v (K w')) := by kernel_rfl
  exact Calls.mono (calls_of _ e h) (onRet_mono (fun _ _ h => decU_spec h))

-- 21 prelude/lang.Put; callees ['lang_sizes', 'lang_within', 'codec_Writer_Uint', 'codec_Writer_Byte', 'codec_Writer_Int']
def sh_lang_Put (c_lang_sizes : Int → Int → Int → Int → Slc → World → (Int → World → Prop) → Prop) (c_lang_within : Int → Int → World → (Bool → World → Prop) → Prop) (c_codec_Writer_Uint : Option Addr → Int → World → (World → Prop) → Prop) (c_codec_Writer_Byte : Option Addr → Int → World → (World → Prop) → Prop) (c_codec_Writer_Int : Option Addr → Int → World → (World → Prop) → Prop) (x_0 : Option Addr) (x_1_0 : Int) (x_1_1 : Int) (x_1_2 : Int) (x_1_3 : Int) (x_1_4 : Slc) (w : World) (K : Int → World → Prop) : Prop :=
  newP #[.int .i64 x_1_0, .int .i64 x_1_1, .int .i64 x_1_2, .int .i64 x_1_3, .slice x_1_4.a x_1_4.l x_1_4.c] 41 w fun a1 w2 => ldI .i64 a1 w2 fun n3 => ldI .i64 (a1.add 1) w2 fun n4 => ldI .i64 (a1.add 2) w2 fun n5 => ldI .i64 (a1.add 3) w2 fun n6 => ldS (a1.add 4) w2 fun s7 => c_lang_sizes n3 n4 n5 n6 s7 w2 fun r8 w9 => iteB ((r8 : Int) != 0)
  (K r8 w9)
  (ldS (a1.add 4) w9 fun s10 => loopP (σ := Int × Unit) (fun st12 next11 w13 => (fun (x14 : Int) => iteB (decide ((x14 : Int) < (s10.l : Int)))
  (idxP s10.a s10.l x14 2 fun a15 => ldI .i64 a15 w13 fun n16 => ldI .i64 (a15.add 1) w13 fun n17 => newP #[.int .i64 0, .int .i64 0] 80 w13 fun a18 w19 => stP a18 (.int .i64 n16) w19 fun w20 => stP (a18.add 1) (.int .i64 n17) w20 fun w21 => ldI .i64 a18 w21 fun n22 => c_lang_within n22 36 w21 fun r23 w24 => iteB (!r23)
  (K 31 w24)
  (next11 ((IntKind.i64.wrap (x14 + 1)), ()) w24))
  (ldI .i64 a1 w13 fun n25 => ldI .i64 (a1.add 1) w13 fun n26 => ldI .i64 (a1.add 2) w13 fun n27 => ldI .i64 (a1.add 3) w13 fun n28 => ldS (a1.add 4) w13 fun s29 => newP #[.int .i64 n25, .int .i64 n26, .int .i64 n27, .int .i64 n28, .int .i64 (s29.l : Int)] 3 w13 fun a30 w31 => loopP (σ := Int × Unit) (fun st33 next32 w34 => (fun (x35 : Int) => iteB (decide ((x35 : Int) < (5 : Int)))
  (idxP (some a30) 5 x35 1 fun a36 => ldI .i64 a36 w34 fun n37 => c_codec_Writer_Uint x_0 (IntKind.u64.wrap n37) w34 fun w38 => next32 ((IntKind.i64.wrap (x35 + 1)), ()) w38)
  (ldS (a1.add 4) w34 fun s39 => loopP (σ := Int × Unit) (fun st41 next40 w42 => (fun (x43 : Int) => iteB (decide ((x43 : Int) < (s39.l : Int)))
  (idxP s39.a s39.l x43 2 fun a44 => ldI .i64 a44 w42 fun n45 => ldI .i64 (a44.add 1) w42 fun n46 => newP #[.int .i64 0, .int .i64 0] 80 w42 fun a47 w48 => stP a47 (.int .i64 n45) w48 fun w49 => stP (a47.add 1) (.int .i64 n46) w49 fun w50 => ldI .i64 (a47.add 1) w50 fun n51 => iteB ((n51 : Int) == 0)
  (ldI .i64 a47 w50 fun n52 => c_codec_Writer_Byte x_0 (IntKind.u8.wrap n52) w50 fun w53 => next40 ((IntKind.i64.wrap (x43 + 1)), ()) w53)
  (ldI .i64 a47 w50 fun n54 => c_codec_Writer_Byte x_0 (IntKind.u8.wrap ((IntKind.u8.wrap n54) + 64)) w50 fun w55 => ldI .i64 (a47.add 1) w55 fun n56 => c_codec_Writer_Int x_0 n56 w55 fun w57 => next40 ((IntKind.i64.wrap (x43 + 1)), ()) w57))
  (K 0 w42)) st41.1) (0, ()) w34)) st33.1) (0, ()) w31)) st12.1) (0, ()) w9)

def c_lang_Put (x_0 : Option Addr) (x_1_0 : Int) (x_1_1 : Int) (x_1_2 : Int) (x_1_3 : Int) (x_1_4 : Slc) (w : World) (K : Int → World → Prop) : Prop := Calls Tryd.prog 21 #[.pointer x_0, .agg #[.int .i64 x_1_0, .int .i64 x_1_1, .int .i64 x_1_2, .int .i64 x_1_3, .slice x_1_4.a x_1_4.l x_1_4.c]] w (onRet (fun v w' => ∃ (y0 : Int), v = .int .i64 y0 ∧ K y0 w'))

theorem sim_lang_Put {x_0 : Option Addr} {x_1_0 : Int} {x_1_1 : Int} {x_1_2 : Int} {x_1_3 : Int} {x_1_4 : Slc} {w : World} {K : Int → World → Prop} (h : sh_lang_Put c_lang_sizes c_lang_within c_codec_Writer_Uint c_codec_Writer_Byte c_codec_Writer_Int x_0 x_1_0 x_1_1 x_1_2 x_1_3 x_1_4 w K) : c_lang_Put x_0 x_1_0 x_1_1 x_1_2 x_1_3 x_1_4 w K := by
  have e : sh_lang_Put c_lang_sizes c_lang_within c_codec_Writer_Uint c_codec_Writer_Byte c_codec_Writer_Int x_0 x_1_0 x_1_1 x_1_2 x_1_3 x_1_4 w K = shF Tryd.prog 21 ⟨[], [(5, [(20, (.int .i64))], [0, 3, 18, 19]), (11, [(42, (.int .i64))], [0, 3, 40, 41]), (16, [(54, (.int .i64))], [0, 52, 53])], []⟩ [.pointer x_0, .agg #[.int .i64 x_1_0, .int .i64 x_1_1, .int .i64 x_1_2, .int .i64 x_1_3, .slice x_1_4.a x_1_4.l x_1_4.c]] w (fun v w' => decV (.int .i64) v fun y0 => K y0 w') := by kernel_rfl
  exact Calls.mono (calls_of _ e h) (onRet_mono (fun _ _ h => decV_spec h))

-- 48 slices.Clone[[]byte,byte]; callees []
def sh_slices_Clone_byte_byte (s_0 : Slc) (w : World) (K : Slc → World → Prop) : Prop :=
  iteB ((s_0.a).isNone)
  (K ⟨none, 0, 0⟩ w)
  (newP #[] 5 w fun a1 w2 => apP Tryd.prog #[23, 23] 23 [.slice (some a1) 0 0, .slice s_0.a s_0.l s_0.c] w2 fun s4 w3 => K s4 w3)

def c_slices_Clone_byte_byte (s_0 : Slc) (w : World) (K : Slc → World → Prop) : Prop := Calls Tryd.prog 48 #[.slice s_0.a s_0.l s_0.c] w (onRet (fun v w' => ∃ (y0 : Slc), v = .slice y0.a y0.l y0.c ∧ K y0 w'))

theorem sim_slices_Clone_byte_byte {s_0 : Slc} {w : World} {K : Slc → World → Prop} (h : sh_slices_Clone_byte_byte s_0 w K) : c_slices_Clone_byte_byte s_0 w K := by
  have e : sh_slices_Clone_byte_byte s_0 w K = shF Tryd.prog 48 ⟨[], [], []⟩ [.slice s_0.a s_0.l s_0.c] w (fun v w' => decV .sl v fun y0 => K y0 w') := by kernel_rfl
  exact Calls.mono (calls_of _ e h) (onRet_mono (fun _ _ h => decV_spec h))

-- 22 (*prelude/codec.Writer).Out; callees ['slices_Clone_byte_byte']
def sh_codec_Writer_Out (c_slices_Clone_byte_byte : Slc → World → (Slc → World → Prop) → Prop) (w_0 : Option Addr) (w : World) (K : Slc → World → Prop) : Prop :=
  nnP w_0 fun a1 => ldS a1 w fun s2 => c_slices_Clone_byte_byte s2 w fun r3 w4 => K r3 w4

def c_codec_Writer_Out (w_0 : Option Addr) (w : World) (K : Slc → World → Prop) : Prop := Calls Tryd.prog 22 #[.pointer w_0] w (onRet (fun v w' => ∃ (y0 : Slc), v = .slice y0.a y0.l y0.c ∧ K y0 w'))

theorem sim_codec_Writer_Out {w_0 : Option Addr} {w : World} {K : Slc → World → Prop} (h : sh_codec_Writer_Out c_slices_Clone_byte_byte w_0 w K) : c_codec_Writer_Out w_0 w K := by
  have e : sh_codec_Writer_Out c_slices_Clone_byte_byte w_0 w K = shF Tryd.prog 22 ⟨[], [], []⟩ [.pointer w_0] w (fun v w' => decV .sl v fun y0 => K y0 w') := by kernel_rfl
  exact Calls.mono (calls_of _ e h) (onRet_mono (fun _ _ h => decV_spec h))

-- 6 prelude/lang.Encode; callees ['lang_Check', 'codec_New', 'codec_Writer_Raw', 'codec_Writer_Uint', 'codec_Writer_Bytes', 'lang_Put', 'codec_Writer_Out']
def sh_lang_Encode (c_lang_Check : Slc → World → (Int → Int → World → Prop) → Prop) (c_codec_New : World → (Option Addr → World → Prop) → Prop) (c_codec_Writer_Raw : Option Addr → Slc → World → (World → Prop) → Prop) (c_codec_Writer_Uint : Option Addr → Int → World → (World → Prop) → Prop) (c_codec_Writer_Bytes : Option Addr → Slc → World → (World → Prop) → Prop) (c_lang_Put : Option Addr → Int → Int → Int → Int → Slc → World → (Int → World → Prop) → Prop) (c_codec_Writer_Out : Option Addr → World → (Slc → World → Prop) → Prop) (lib_0 : Slc) (w : World) (K : Slc → Int → World → Prop) : Prop :=
  c_lang_Check lib_0 w fun r1 r2 w3 => iteB ((r2 : Int) != 0)
  (K ⟨none, 0, 0⟩ r2 w3)
  (c_codec_New  w3 fun r4 w5 => newP #[.int .u8 80, .int .u8 82, .int .u8 76, .int .u8 49] 5 w5 fun a6 w7 => (∃ (r8 : Slc), ∃ w9, (convert 23 23 (.slice (some a6) 4 4)).run Tryd.prog w7 = .ok (.slice r8.a r8.l r8.c) w9 ∧ (c_codec_Writer_Raw r4 r8 w9 fun w10 => c_codec_Writer_Uint r4 (IntKind.u64.wrap (lib_0.l : Int)) w10 fun w11 => loopP (σ := Int × Unit) (fun st13 next12 w14 => (fun (x15 : Int) => iteB (decide ((x15 : Int) < (lib_0.l : Int)))
  (idxP lib_0.a lib_0.l x15 6 fun a16 => ldStr a16 w14 fun s17 => ldI .i64 (a16.add 1) w14 fun n18 => ldI .i64 (a16.add 2) w14 fun n19 => ldI .i64 (a16.add 3) w14 fun n20 => ldI .i64 (a16.add 4) w14 fun n21 => ldS (a16.add 5) w14 fun s22 => newP #[.string ByteArray.empty, .int .i64 0, .int .i64 0, .int .i64 0, .int .i64 0, .slice none 0 0] 43 w14 fun a23 w24 => stP a23 (.string s17) w24 fun w25 => stP (a23.add 1) (.int .i64 n18) w25 fun w26 => stP (a23.add 2) (.int .i64 n19) w26 fun w27 => stP (a23.add 3) (.int .i64 n20) w27 fun w28 => stP (a23.add 4) (.int .i64 n21) w28 fun w29 => stP (a23.add 5) (.slice s22.a s22.l s22.c) w29 fun w30 => ldStr a23 w30 fun s31 => (∃ (r32 : Slc), ∃ w33, (convert 9 23 (.string s31)).run Tryd.prog w30 = .ok (.slice r32.a r32.l r32.c) w33 ∧ (c_codec_Writer_Bytes r4 r32 w33 fun w34 => ldI .i64 (a23.add 1) w34 fun n35 => ldI .i64 ((a23.add 1).add 1) w34 fun n36 => ldI .i64 ((a23.add 1).add 2) w34 fun n37 => ldI .i64 ((a23.add 1).add 3) w34 fun n38 => ldS ((a23.add 1).add 4) w34 fun s39 => c_lang_Put r4 n35 n36 n37 n38 s39 w34 fun r40 w41 => next12 ((IntKind.i64.wrap (x15 + 1)), ()) w41)))
  (c_codec_Writer_Out r4 w14 fun r42 w43 => K r42 0 w43)) st13.1) (0, ()) w11)))

def c_lang_Encode (lib_0 : Slc) (w : World) (K : Slc → Int → World → Prop) : Prop := Calls Tryd.prog 6 #[.slice lib_0.a lib_0.l lib_0.c] w (onRet (fun v w' => ∃ (y0 : Slc), ∃ (y1 : Int), v = .tuple #[.slice y0.a y0.l y0.c, .int .i64 y1] ∧ K y0 y1 w'))

theorem sim_lang_Encode {lib_0 : Slc} {w : World} {K : Slc → Int → World → Prop} (h : sh_lang_Encode c_lang_Check c_codec_New c_codec_Writer_Raw c_codec_Writer_Uint c_codec_Writer_Bytes c_lang_Put c_codec_Writer_Out lib_0 w K) : c_lang_Encode lib_0 w K := by
  have e : sh_lang_Encode c_lang_Check c_codec_New c_codec_Writer_Raw c_codec_Writer_Uint c_codec_Writer_Bytes c_lang_Put c_codec_Writer_Out lib_0 w K = shF Tryd.prog 6 ⟨[], [(8, [(29, (.int .i64))], [6, 27, 28])], []⟩ [.slice lib_0.a lib_0.l lib_0.c] w (fun v w' => decT [(false, [.sl]), (false, [(.int .i64)])] v fun s => (fun (y0 : Slc) (y1 : Int) => K y0 y1 w') s.1 s.2.1) := by kernel_rfl
  exact Calls.mono (calls_of _ e h) (onRet_mono (fun _ _ h => by obtain ⟨s, h1, h2⟩ := decT_spec h; exact ⟨s.1, s.2.1, h1, h2⟩))

-- 23 prelude/codec.Sum; callees []
def sh_codec_Sum (b_0 : Slc) (w : World) (K : Int → World → Prop) : Prop :=
  loopP (σ := Int × Int × Unit) (fun st2 next1 w3 => (fun (s_4 : Int) (x5 : Int) => iteB (decide ((x5 : Int) < (b_0.l : Int)))
  (idxP b_0.a b_0.l x5 1 fun a6 => ldI .u8 a6 w3 fun n7 => shP 4 (arrP 16 (bAnd .u32 (bXor .u32 s_4 (IntKind.u32.wrap n7)) 15) (ldI .u32 ((Addr.mk 0 0 none).add (Int.toNat (bAnd .u32 (bXor .u32 s_4 (IntKind.u32.wrap n7)) 15) * 1)) w3 fun n8 => shP 4 (arrP 16 (bAnd .u32 (bXor .u32 (Int.fdiv (bXor .u32 s_4 (IntKind.u32.wrap n7)) (2 ^ (min (Int.toNat 4) (IntKind.bits .u32)))) n8) 15) (ldI .u32 ((Addr.mk 0 0 none).add (Int.toNat (bAnd .u32 (bXor .u32 (Int.fdiv (bXor .u32 s_4 (IntKind.u32.wrap n7)) (2 ^ (min (Int.toNat 4) (IntKind.bits .u32)))) n8) 15) * 1)) w3 fun n9 => next1 ((bXor .u32 (Int.fdiv (bXor .u32 (Int.fdiv (bXor .u32 s_4 (IntKind.u32.wrap n7)) (2 ^ (min (Int.toNat 4) (IntKind.bits .u32)))) n8) (2 ^ (min (Int.toNat 4) (IntKind.bits .u32)))) n9), (IntKind.i64.wrap (x5 + 1)), ()) w3)))))
  (K (bXor .u32 (IntKind.max .u32) s_4) w3)) st2.1 st2.2.1) (4294967295, 0, ()) w

def c_codec_Sum (b_0 : Slc) (w : World) (K : Int → World → Prop) : Prop := Calls Tryd.prog 23 #[.slice b_0.a b_0.l b_0.c] w (onRet (fun v w' => ∃ (y0 : Int), v = .int .u32 y0 ∧ K y0 w'))

theorem sim_codec_Sum {b_0 : Slc} {w : World} {K : Int → World → Prop} (h : sh_codec_Sum b_0 w K) : c_codec_Sum b_0 w K := by
  have e : sh_codec_Sum b_0 w K = shF Tryd.prog 23 ⟨[], [(3, [(3, (.int .u32)), (8, (.int .i64))], [6, 7])], []⟩ [.slice b_0.a b_0.l b_0.c] w (fun v w' => decV (.int .u32) v fun y0 => K y0 w') := by kernel_rfl
  exact Calls.mono (calls_of _ e h) (onRet_mono (fun _ _ h => decV_spec h))

-- 7 prelude/lang.Digest; callees ['lang_Encode', 'codec_Sum']
def sh_lang_Digest (c_lang_Encode : Slc → World → (Slc → Int → World → Prop) → Prop) (c_codec_Sum : Slc → World → (Int → World → Prop) → Prop) (lib_0 : Slc) (w : World) (K : Int → Int → World → Prop) : Prop :=
  c_lang_Encode lib_0 w fun r1 r2 w3 => iteB ((r2 : Int) != 0)
  (K 0 r2 w3)
  (c_codec_Sum r1 w3 fun r4 w5 => K r4 0 w5)

def c_lang_Digest (lib_0 : Slc) (w : World) (K : Int → Int → World → Prop) : Prop := Calls Tryd.prog 7 #[.slice lib_0.a lib_0.l lib_0.c] w (onRet (fun v w' => ∃ (y0 : Int), ∃ (y1 : Int), v = .tuple #[.int .u32 y0, .int .i64 y1] ∧ K y0 y1 w'))

theorem sim_lang_Digest {lib_0 : Slc} {w : World} {K : Int → Int → World → Prop} (h : sh_lang_Digest c_lang_Encode c_codec_Sum lib_0 w K) : c_lang_Digest lib_0 w K := by
  have e : sh_lang_Digest c_lang_Encode c_codec_Sum lib_0 w K = shF Tryd.prog 7 ⟨[], [], []⟩ [.slice lib_0.a lib_0.l lib_0.c] w (fun v w' => decT [(false, [(.int .u32)]), (false, [(.int .i64)])] v fun s => (fun (y0 : Int) (y1 : Int) => K y0 y1 w') s.1 s.2.1) := by kernel_rfl
  exact Calls.mono (calls_of _ e h) (onRet_mono (fun _ _ h => by obtain ⟨s, h1, h2⟩ := decT_spec h; exact ⟨s.1, s.2.1, h1, h2⟩))

-- 49 prelude/preluderef03.Name; callees []
def sh_preluderef03_Name (s_0 : ByteArray) (w : World) (K : Bool → World → Prop) : Prop :=
  iteB (decide (((s_0.size : Int) : Int) < 1))
  (K false w)
  (iteB (decide (((s_0.size : Int) : Int) > 31))
  (K false w)
  (loopP (σ := Int × Unit) (fun st2 next1 w3 => (fun (i_4 : Int) => iteB (decide ((i_4 : Int) < (s_0.size : Int)))
  (chP s_0 i_4 fun b5 => iteB (decide ((b5 : Int) ≥ 97))
  (iteB (decide ((b5 : Int) ≤ 122))
  (next1 ((IntKind.i64.wrap (i_4 + 1)), ()) w3)
  (iteB (decide ((b5 : Int) ≥ 65))
  (iteB (!(decide ((b5 : Int) ≤ 90)))
  (iteB ((i_4 : Int) == 0)
  (K false w3)
  (iteB ((b5 : Int) != 95)
  (iteB (decide ((b5 : Int) < 48))
  (K false w3)
  (iteB (decide ((b5 : Int) > 57))
  (K false w3)
  (next1 ((IntKind.i64.wrap (i_4 + 1)), ()) w3)))
  (next1 ((IntKind.i64.wrap (i_4 + 1)), ()) w3)))
  (next1 ((IntKind.i64.wrap (i_4 + 1)), ()) w3))
  (iteB ((i_4 : Int) == 0)
  (K false w3)
  (iteB ((b5 : Int) != 95)
  (iteB (decide ((b5 : Int) < 48))
  (K false w3)
  (iteB (decide ((b5 : Int) > 57))
  (K false w3)
  (next1 ((IntKind.i64.wrap (i_4 + 1)), ()) w3)))
  (next1 ((IntKind.i64.wrap (i_4 + 1)), ()) w3)))))
  (iteB (decide ((b5 : Int) ≥ 65))
  (iteB (!(decide ((b5 : Int) ≤ 90)))
  (iteB ((i_4 : Int) == 0)
  (K false w3)
  (iteB ((b5 : Int) != 95)
  (iteB (decide ((b5 : Int) < 48))
  (K false w3)
  (iteB (decide ((b5 : Int) > 57))
  (K false w3)
  (next1 ((IntKind.i64.wrap (i_4 + 1)), ()) w3)))
  (next1 ((IntKind.i64.wrap (i_4 + 1)), ()) w3)))
  (next1 ((IntKind.i64.wrap (i_4 + 1)), ()) w3))
  (iteB ((i_4 : Int) == 0)
  (K false w3)
  (iteB ((b5 : Int) != 95)
  (iteB (decide ((b5 : Int) < 48))
  (K false w3)
  (iteB (decide ((b5 : Int) > 57))
  (K false w3)
  (next1 ((IntKind.i64.wrap (i_4 + 1)), ()) w3)))
  (next1 ((IntKind.i64.wrap (i_4 + 1)), ()) w3)))))
  (K true w3)) st2.1) (0, ()) w))

def c_preluderef03_Name (s_0 : ByteArray) (w : World) (K : Bool → World → Prop) : Prop := Calls Tryd.prog 49 #[.string s_0] w (onRet (fun v w' => ∃ (y0 : Bool), v = .bool y0 ∧ K y0 w'))

theorem sim_preluderef03_Name {s_0 : ByteArray} {w : World} {K : Bool → World → Prop} (h : sh_preluderef03_Name s_0 w K) : c_preluderef03_Name s_0 w K := by
  have e : sh_preluderef03_Name s_0 w K = shF Tryd.prog 49 ⟨[], [(4, [(3, (.int .i64))], [0])], []⟩ [.string s_0] w (fun v w' => decV .b v fun y0 => K y0 w') := by kernel_rfl
  exact Calls.mono (calls_of _ e h) (onRet_mono (fun _ _ h => decV_spec h))

-- 51 prelude/preluderef03.limits; callees []
def sh_preluderef03_limits (p_0_0 : Int) (p_0_1 : Int) (p_0_2 : Int) (p_0_3 : Int) (p_0_4 : Slc) (w : World) (K : Bool → World → Prop) : Prop :=
  newP #[.int .i64 p_0_0, .int .i64 p_0_1, .int .i64 p_0_2, .int .i64 p_0_3, .slice p_0_4.a p_0_4.l p_0_4.c] 41 w fun a1 w2 => ldI .i64 a1 w2 fun n3 => iteB (decide ((n3 : Int) < 0))
  (K false w2)
  (ldI .i64 a1 w2 fun n4 => iteB (decide ((n4 : Int) > 16))
  (K false w2)
  (ldI .i64 (a1.add 1) w2 fun n5 => iteB (decide ((n5 : Int) < 0))
  (K false w2)
  (ldI .i64 (a1.add 1) w2 fun n6 => iteB (decide ((n6 : Int) > 16))
  (K false w2)
  (ldI .i64 (a1.add 2) w2 fun n7 => iteB (decide ((n7 : Int) < 0))
  (K false w2)
  (ldI .i64 (a1.add 2) w2 fun n8 => iteB (decide ((n8 : Int) > 16))
  (K false w2)
  (ldI .i64 (a1.add 3) w2 fun n9 => iteB (decide ((n9 : Int) ≥ 0))
  (ldI .i64 (a1.add 3) w2 fun n10 => iteB (decide ((n10 : Int) ≤ 16))
  (ldS (a1.add 4) w2 fun s11 => K (decide (((s11.l : Int) : Int) ≤ 256)) w2)
  (K false w2))
  (K false w2)))))))

def c_preluderef03_limits (p_0_0 : Int) (p_0_1 : Int) (p_0_2 : Int) (p_0_3 : Int) (p_0_4 : Slc) (w : World) (K : Bool → World → Prop) : Prop := Calls Tryd.prog 51 #[.agg #[.int .i64 p_0_0, .int .i64 p_0_1, .int .i64 p_0_2, .int .i64 p_0_3, .slice p_0_4.a p_0_4.l p_0_4.c]] w (onRet (fun v w' => ∃ (y0 : Bool), v = .bool y0 ∧ K y0 w'))

theorem sim_preluderef03_limits {p_0_0 : Int} {p_0_1 : Int} {p_0_2 : Int} {p_0_3 : Int} {p_0_4 : Slc} {w : World} {K : Bool → World → Prop} (h : sh_preluderef03_limits p_0_0 p_0_1 p_0_2 p_0_3 p_0_4 w K) : c_preluderef03_limits p_0_0 p_0_1 p_0_2 p_0_3 p_0_4 w K := by
  have e : sh_preluderef03_limits p_0_0 p_0_1 p_0_2 p_0_3 p_0_4 w K = shF Tryd.prog 51 ⟨[], [], []⟩ [.agg #[.int .i64 p_0_0, .int .i64 p_0_1, .int .i64 p_0_2, .int .i64 p_0_3, .slice p_0_4.a p_0_4.l p_0_4.c]] w (fun v w' => decV .b v fun y0 => K y0 w') := by kernel_rfl
  exact Calls.mono (calls_of _ e h) (onRet_mono (fun _ _ h => decV_spec h))

-- 73 prelude/preluderef03.names; callees []
def sh_preluderef03_names (w : World) (K : ByteArray → ByteArray → ByteArray → ByteArray → ByteArray → ByteArray → ByteArray → ByteArray → ByteArray → ByteArray → ByteArray → ByteArray → ByteArray → ByteArray → ByteArray → ByteArray → ByteArray → ByteArray → ByteArray → ByteArray → ByteArray → ByteArray → ByteArray → ByteArray → ByteArray → ByteArray → ByteArray → ByteArray → ByteArray → ByteArray → ByteArray → ByteArray → ByteArray → ByteArray → ByteArray → ByteArray → ByteArray → World → Prop) : Prop :=
  newP #[.string ByteArray.empty, .string ByteArray.empty, .string ByteArray.empty, .string ByteArray.empty, .string ByteArray.empty, .string ByteArray.empty, .string ByteArray.empty, .string ByteArray.empty, .string ByteArray.empty, .string ByteArray.empty, .string ByteArray.empty, .string ByteArray.empty, .string ByteArray.empty, .string ByteArray.empty, .string ByteArray.empty, .string ByteArray.empty, .string ByteArray.empty, .string ByteArray.empty, .string ByteArray.empty, .string ByteArray.empty, .string ByteArray.empty, .string ByteArray.empty, .string ByteArray.empty, .string ByteArray.empty, .string ByteArray.empty, .string ByteArray.empty, .string ByteArray.empty, .string ByteArray.empty, .string ByteArray.empty, .string ByteArray.empty, .string ByteArray.empty, .string ByteArray.empty, .string ByteArray.empty, .string ByteArray.empty, .string ByteArray.empty, .string ByteArray.empty, .string ByteArray.empty] 121 w fun a1 w2 => stP a1 (.string (ByteArray.mk #[115, 116, 111, 112])) w2 fun w3 => stP (a1.add 1) (.string (ByteArray.mk #[112, 117, 115, 104])) w3 fun w4 => stP (a1.add 2) (.string (ByteArray.mk #[112, 111, 112])) w4 fun w5 => stP (a1.add 3) (.string (ByteArray.mk #[100, 117, 112])) w5 fun w6 => stP (a1.add 4) (.string (ByteArray.mk #[108, 111, 97, 100])) w6 fun w7 => stP (a1.add 5) (.string (ByteArray.mk #[115, 97, 118, 101])) w7 fun w8 => stP (a1.add 6) (.string (ByteArray.mk #[97, 114, 103])) w8 fun w9 => stP (a1.add 7) (.string (ByteArray.mk #[103, 101, 116])) w9 fun w10 => stP (a1.add 8) (.string (ByteArray.mk #[104, 97, 115])) w10 fun w11 => stP (a1.add 9) (.string (ByteArray.mk #[103, 101, 116, 120])) w11 fun w12 => stP (a1.add 10) (.string (ByteArray.mk #[97, 100, 100])) w12 fun w13 => stP (a1.add 11) (.string (ByteArray.mk #[115, 117, 98])) w13 fun w14 => stP (a1.add 12) (.string (ByteArray.mk #[109, 117, 108])) w14 fun w15 => stP (a1.add 13) (.string (ByteArray.mk #[100, 105, 118])) w15 fun w16 => stP (a1.add 14) (.string (ByteArray.mk #[109, 111, 100])) w16 fun w17 => stP (a1.add 15) (.string (ByteArray.mk #[97, 110, 100])) w17 fun w18 => stP (a1.add 16) (.string (ByteArray.mk #[111, 114])) w18 fun w19 => stP (a1.add 17) (.string (ByteArray.mk #[120, 111, 114])) w19 fun w20 => stP (a1.add 18) (.string (ByteArray.mk #[115, 104, 108])) w20 fun w21 => stP (a1.add 19) (.string (ByteArray.mk #[115, 104, 114])) w21 fun w22 => stP (a1.add 20) (.string (ByteArray.mk #[110, 101, 103])) w22 fun w23 => stP (a1.add 21) (.string (ByteArray.mk #[110, 111, 116])) w23 fun w24 => stP (a1.add 22) (.string (ByteArray.mk #[101, 113])) w24 fun w25 => stP (a1.add 23) (.string (ByteArray.mk #[110, 101])) w25 fun w26 => stP (a1.add 24) (.string (ByteArray.mk #[108, 116])) w26 fun w27 => stP (a1.add 25) (.string (ByteArray.mk #[108, 101])) w27 fun w28 => stP (a1.add 26) (.string (ByteArray.mk #[103, 116])) w28 fun w29 => stP (a1.add 27) (.string (ByteArray.mk #[103, 101])) w29 fun w30 => stP (a1.add 28) (.string (ByteArray.mk #[109, 105, 110])) w30 fun w31 => stP (a1.add 29) (.string (ByteArray.mk #[109, 97, 120])) w31 fun w32 => stP (a1.add 30) (.string (ByteArray.mk #[106, 117, 109, 112])) w32 fun w33 => stP (a1.add 31) (.string (ByteArray.mk #[122, 101, 114, 111])) w33 fun w34 => stP (a1.add 32) (.string (ByteArray.mk #[112, 117, 116])) w34 fun w35 => stP (a1.add 33) (.string (ByteArray.mk #[100, 101, 108])) w35 fun w36 => stP (a1.add 34) (.string (ByteArray.mk #[112, 117, 116, 120])) w36 fun w37 => stP (a1.add 35) (.string (ByteArray.mk #[111, 117, 116])) w37 fun w38 => stP (a1.add 36) (.string (ByteArray.mk #[97, 98, 111, 114, 116])) w38 fun w39 => ldStr a1 w39 fun s40 => ldStr (a1.add 1) w39 fun s41 => ldStr (a1.add 2) w39 fun s42 => ldStr (a1.add 3) w39 fun s43 => ldStr (a1.add 4) w39 fun s44 => ldStr (a1.add 5) w39 fun s45 => ldStr (a1.add 6) w39 fun s46 => ldStr (a1.add 7) w39 fun s47 => ldStr (a1.add 8) w39 fun s48 => ldStr (a1.add 9) w39 fun s49 => ldStr (a1.add 10) w39 fun s50 => ldStr (a1.add 11) w39 fun s51 => ldStr (a1.add 12) w39 fun s52 => ldStr (a1.add 13) w39 fun s53 => ldStr (a1.add 14) w39 fun s54 => ldStr (a1.add 15) w39 fun s55 => ldStr (a1.add 16) w39 fun s56 => ldStr (a1.add 17) w39 fun s57 => ldStr (a1.add 18) w39 fun s58 => ldStr (a1.add 19) w39 fun s59 => ldStr (a1.add 20) w39 fun s60 => ldStr (a1.add 21) w39 fun s61 => ldStr (a1.add 22) w39 fun s62 => ldStr (a1.add 23) w39 fun s63 => ldStr (a1.add 24) w39 fun s64 => ldStr (a1.add 25) w39 fun s65 => ldStr (a1.add 26) w39 fun s66 => ldStr (a1.add 27) w39 fun s67 => ldStr (a1.add 28) w39 fun s68 => ldStr (a1.add 29) w39 fun s69 => ldStr (a1.add 30) w39 fun s70 => ldStr (a1.add 31) w39 fun s71 => ldStr (a1.add 32) w39 fun s72 => ldStr (a1.add 33) w39 fun s73 => ldStr (a1.add 34) w39 fun s74 => ldStr (a1.add 35) w39 fun s75 => ldStr (a1.add 36) w39 fun s76 => K s40 s41 s42 s43 s44 s45 s46 s47 s48 s49 s50 s51 s52 s53 s54 s55 s56 s57 s58 s59 s60 s61 s62 s63 s64 s65 s66 s67 s68 s69 s70 s71 s72 s73 s74 s75 s76 w39

def c_preluderef03_names (w : World) (K : ByteArray → ByteArray → ByteArray → ByteArray → ByteArray → ByteArray → ByteArray → ByteArray → ByteArray → ByteArray → ByteArray → ByteArray → ByteArray → ByteArray → ByteArray → ByteArray → ByteArray → ByteArray → ByteArray → ByteArray → ByteArray → ByteArray → ByteArray → ByteArray → ByteArray → ByteArray → ByteArray → ByteArray → ByteArray → ByteArray → ByteArray → ByteArray → ByteArray → ByteArray → ByteArray → ByteArray → ByteArray → World → Prop) : Prop := Calls Tryd.prog 73 #[] w (onRet (fun v w' => ∃ (y0 : ByteArray), ∃ (y1 : ByteArray), ∃ (y2 : ByteArray), ∃ (y3 : ByteArray), ∃ (y4 : ByteArray), ∃ (y5 : ByteArray), ∃ (y6 : ByteArray), ∃ (y7 : ByteArray), ∃ (y8 : ByteArray), ∃ (y9 : ByteArray), ∃ (y10 : ByteArray), ∃ (y11 : ByteArray), ∃ (y12 : ByteArray), ∃ (y13 : ByteArray), ∃ (y14 : ByteArray), ∃ (y15 : ByteArray), ∃ (y16 : ByteArray), ∃ (y17 : ByteArray), ∃ (y18 : ByteArray), ∃ (y19 : ByteArray), ∃ (y20 : ByteArray), ∃ (y21 : ByteArray), ∃ (y22 : ByteArray), ∃ (y23 : ByteArray), ∃ (y24 : ByteArray), ∃ (y25 : ByteArray), ∃ (y26 : ByteArray), ∃ (y27 : ByteArray), ∃ (y28 : ByteArray), ∃ (y29 : ByteArray), ∃ (y30 : ByteArray), ∃ (y31 : ByteArray), ∃ (y32 : ByteArray), ∃ (y33 : ByteArray), ∃ (y34 : ByteArray), ∃ (y35 : ByteArray), ∃ (y36 : ByteArray), v = .agg #[.string y0, .string y1, .string y2, .string y3, .string y4, .string y5, .string y6, .string y7, .string y8, .string y9, .string y10, .string y11, .string y12, .string y13, .string y14, .string y15, .string y16, .string y17, .string y18, .string y19, .string y20, .string y21, .string y22, .string y23, .string y24, .string y25, .string y26, .string y27, .string y28, .string y29, .string y30, .string y31, .string y32, .string y33, .string y34, .string y35, .string y36] ∧ K y0 y1 y2 y3 y4 y5 y6 y7 y8 y9 y10 y11 y12 y13 y14 y15 y16 y17 y18 y19 y20 y21 y22 y23 y24 y25 y26 y27 y28 y29 y30 y31 y32 y33 y34 y35 y36 w'))

theorem sim_preluderef03_names {w : World} {K : ByteArray → ByteArray → ByteArray → ByteArray → ByteArray → ByteArray → ByteArray → ByteArray → ByteArray → ByteArray → ByteArray → ByteArray → ByteArray → ByteArray → ByteArray → ByteArray → ByteArray → ByteArray → ByteArray → ByteArray → ByteArray → ByteArray → ByteArray → ByteArray → ByteArray → ByteArray → ByteArray → ByteArray → ByteArray → ByteArray → ByteArray → ByteArray → ByteArray → ByteArray → ByteArray → ByteArray → ByteArray → World → Prop} (h : sh_preluderef03_names w K) : c_preluderef03_names  w K := by
  have e : sh_preluderef03_names w K = shF Tryd.prog 73 ⟨[], [], []⟩ [] w (fun v w' => decA [.str, .str, .str, .str, .str, .str, .str, .str, .str, .str, .str, .str, .str, .str, .str, .str, .str, .str, .str, .str, .str, .str, .str, .str, .str, .str, .str, .str, .str, .str, .str, .str, .str, .str, .str, .str, .str] v fun s => (fun (y0 : ByteArray) (y1 : ByteArray) (y2 : ByteArray) (y3 : ByteArray) (y4 : ByteArray) (y5 : ByteArray) (y6 : ByteArray) (y7 : ByteArray) (y8 : ByteArray) (y9 : ByteArray) (y10 : ByteArray) (y11 : ByteArray) (y12 : ByteArray) (y13 : ByteArray) (y14 : ByteArray) (y15 : ByteArray) (y16 : ByteArray) (y17 : ByteArray) (y18 : ByteArray) (y19 : ByteArray) (y20 : ByteArray) (y21 : ByteArray) (y22 : ByteArray) (y23 : ByteArray) (y24 : ByteArray) (y25 : ByteArray) (y26 : ByteArray) (y27 : ByteArray) (y28 : ByteArray) (y29 : ByteArray) (y30 : ByteArray) (y31 : ByteArray) (y32 : ByteArray) (y33 : ByteArray) (y34 : ByteArray) (y35 : ByteArray) (y36 : ByteArray) => K y0 y1 y2 y3 y4 y5 y6 y7 y8 y9 y10 y11 y12 y13 y14 y15 y16 y17 y18 y19 y20 y21 y22 y23 y24 y25 y26 y27 y28 y29 y30 y31 y32 y33 y34 y35 y36 w') s.1 s.2.1 s.2.2.1 s.2.2.2.1 s.2.2.2.2.1 s.2.2.2.2.2.1 s.2.2.2.2.2.2.1 s.2.2.2.2.2.2.2.1 s.2.2.2.2.2.2.2.2.1 s.2.2.2.2.2.2.2.2.2.1 s.2.2.2.2.2.2.2.2.2.2.1 s.2.2.2.2.2.2.2.2.2.2.2.1 s.2.2.2.2.2.2.2.2.2.2.2.2.1 s.2.2.2.2.2.2.2.2.2.2.2.2.2.1 s.2.2.2.2.2.2.2.2.2.2.2.2.2.2.1 s.2.2.2.2.2.2.2.2.2.2.2.2.2.2.2.1 s.2.2.2.2.2.2.2.2.2.2.2.2.2.2.2.2.1 s.2.2.2.2.2.2.2.2.2.2.2.2.2.2.2.2.2.1 s.2.2.2.2.2.2.2.2.2.2.2.2.2.2.2.2.2.2.1 s.2.2.2.2.2.2.2.2.2.2.2.2.2.2.2.2.2.2.2.1 s.2.2.2.2.2.2.2.2.2.2.2.2.2.2.2.2.2.2.2.2.1 s.2.2.2.2.2.2.2.2.2.2.2.2.2.2.2.2.2.2.2.2.2.1 s.2.2.2.2.2.2.2.2.2.2.2.2.2.2.2.2.2.2.2.2.2.2.1 s.2.2.2.2.2.2.2.2.2.2.2.2.2.2.2.2.2.2.2.2.2.2.2.1 s.2.2.2.2.2.2.2.2.2.2.2.2.2.2.2.2.2.2.2.2.2.2.2.2.1 s.2.2.2.2.2.2.2.2.2.2.2.2.2.2.2.2.2.2.2.2.2.2.2.2.2.1 s.2.2.2.2.2.2.2.2.2.2.2.2.2.2.2.2.2.2.2.2.2.2.2.2.2.2.1 s.2.2.2.2.2.2.2.2.2.2.2.2.2.2.2.2.2.2.2.2.2.2.2.2.2.2.2.1 s.2.2.2.2.2.2.2.2.2.2.2.2.2.2.2.2.2.2.2.2.2.2.2.2.2.2.2.2.1 s.2.2.2.2.2.2.2.2.2.2.2.2.2.2.2.2.2.2.2.2.2.2.2.2.2.2.2.2.2.1 s.2.2.2.2.2.2.2.2.2.2.2.2.2.2.2.2.2.2.2.2.2.2.2.2.2.2.2.2.2.2.1 s.2.2.2.2.2.2.2.2.2.2.2.2.2.2.2.2.2.2.2.2.2.2.2.2.2.2.2.2.2.2.2.1 s.2.2.2.2.2.2.2.2.2.2.2.2.2.2.2.2.2.2.2.2.2.2.2.2.2.2.2.2.2.2.2.2.1 s.2.2.2.2.2.2.2.2.2.2.2.2.2.2.2.2.2.2.2.2.2.2.2.2.2.2.2.2.2.2.2.2.2.1 s.2.2.2.2.2.2.2.2.2.2.2.2.2.2.2.2.2.2.2.2.2.2.2.2.2.2.2.2.2.2.2.2.2.2.1 s.2.2.2.2.2.2.2.2.2.2.2.2.2.2.2.2.2.2.2.2.2.2.2.2.2.2.2.2.2.2.2.2.2.2.2.1 s.2.2.2.2.2.2.2.2.2.2.2.2.2.2.2.2.2.2.2.2.2.2.2.2.2.2.2.2.2.2.2.2.2.2.2.2.1) := by kernel_rfl
  exact Calls.mono (calls_of _ e h) (onRet_mono (fun _ _ h => by obtain ⟨s, h1, h2⟩ := decA_spec h; exact ⟨s.1, s.2.1, s.2.2.1, s.2.2.2.1, s.2.2.2.2.1, s.2.2.2.2.2.1, s.2.2.2.2.2.2.1, s.2.2.2.2.2.2.2.1, s.2.2.2.2.2.2.2.2.1, s.2.2.2.2.2.2.2.2.2.1, s.2.2.2.2.2.2.2.2.2.2.1, s.2.2.2.2.2.2.2.2.2.2.2.1, s.2.2.2.2.2.2.2.2.2.2.2.2.1, s.2.2.2.2.2.2.2.2.2.2.2.2.2.1, s.2.2.2.2.2.2.2.2.2.2.2.2.2.2.1, s.2.2.2.2.2.2.2.2.2.2.2.2.2.2.2.1, s.2.2.2.2.2.2.2.2.2.2.2.2.2.2.2.2.1, s.2.2.2.2.2.2.2.2.2.2.2.2.2.2.2.2.2.1, s.2.2.2.2.2.2.2.2.2.2.2.2.2.2.2.2.2.2.1, s.2.2.2.2.2.2.2.2.2.2.2.2.2.2.2.2.2.2.2.1, s.2.2.2.2.2.2.2.2.2.2.2.2.2.2.2.2.2.2.2.2.1, s.2.2.2.2.2.2.2.2.2.2.2.2.2.2.2.2.2.2.2.2.2.1, s.2.2.2.2.2.2.2.2.2.2.2.2.2.2.2.2.2.2.2.2.2.2.1, s.2.2.2.2.2.2.2.2.2.2.2.2.2.2.2.2.2.2.2.2.2.2.2.1, s.2.2.2.2.2.2.2.2.2.2.2.2.2.2.2.2.2.2.2.2.2.2.2.2.1, s.2.2.2.2.2.2.2.2.2.2.2.2.2.2.2.2.2.2.2.2.2.2.2.2.2.1, s.2.2.2.2.2.2.2.2.2.2.2.2.2.2.2.2.2.2.2.2.2.2.2.2.2.2.1, s.2.2.2.2.2.2.2.2.2.2.2.2.2.2.2.2.2.2.2.2.2.2.2.2.2.2.2.1, s.2.2.2.2.2.2.2.2.2.2.2.2.2.2.2.2.2.2.2.2.2.2.2.2.2.2.2.2.1, s.2.2.2.2.2.2.2.2.2.2.2.2.2.2.2.2.2.2.2.2.2.2.2.2.2.2.2.2.2.1, s.2.2.2.2.2.2.2.2.2.2.2.2.2.2.2.2.2.2.2.2.2.2.2.2.2.2.2.2.2.2.1, s.2.2.2.2.2.2.2.2.2.2.2.2.2.2.2.2.2.2.2.2.2.2.2.2.2.2.2.2.2.2.2.1, s.2.2.2.2.2.2.2.2.2.2.2.2.2.2.2.2.2.2.2.2.2.2.2.2.2.2.2.2.2.2.2.2.1, s.2.2.2.2.2.2.2.2.2.2.2.2.2.2.2.2.2.2.2.2.2.2.2.2.2.2.2.2.2.2.2.2.2.1, s.2.2.2.2.2.2.2.2.2.2.2.2.2.2.2.2.2.2.2.2.2.2.2.2.2.2.2.2.2.2.2.2.2.2.1, s.2.2.2.2.2.2.2.2.2.2.2.2.2.2.2.2.2.2.2.2.2.2.2.2.2.2.2.2.2.2.2.2.2.2.2.1, s.2.2.2.2.2.2.2.2.2.2.2.2.2.2.2.2.2.2.2.2.2.2.2.2.2.2.2.2.2.2.2.2.2.2.2.2.1, h1, h2⟩))

-- 72 prelude/preluderef03.Spell; callees ['preluderef03_names']
def sh_preluderef03_Spell (c_preluderef03_names : World → (ByteArray → ByteArray → ByteArray → ByteArray → ByteArray → ByteArray → ByteArray → ByteArray → ByteArray → ByteArray → ByteArray → ByteArray → ByteArray → ByteArray → ByteArray → ByteArray → ByteArray → ByteArray → ByteArray → ByteArray → ByteArray → ByteArray → ByteArray → ByteArray → ByteArray → ByteArray → ByteArray → ByteArray → ByteArray → ByteArray → ByteArray → ByteArray → ByteArray → ByteArray → ByteArray → ByteArray → ByteArray → World → Prop) → Prop) (op_0 : Int) (w : World) (K : ByteArray → World → Prop) : Prop :=
  iteB (decide ((op_0 : Int) < 0))
  (K (ByteArray.mk #[]) w)
  (iteB (decide ((op_0 : Int) ≥ 37))
  (K (ByteArray.mk #[]) w)
  (c_preluderef03_names  w fun r1 r2 r3 r4 r5 r6 r7 r8 r9 r10 r11 r12 r13 r14 r15 r16 r17 r18 r19 r20 r21 r22 r23 r24 r25 r26 r27 r28 r29 r30 r31 r32 r33 r34 r35 r36 r37 w38 => newP #[.string ByteArray.empty, .string ByteArray.empty, .string ByteArray.empty, .string ByteArray.empty, .string ByteArray.empty, .string ByteArray.empty, .string ByteArray.empty, .string ByteArray.empty, .string ByteArray.empty, .string ByteArray.empty, .string ByteArray.empty, .string ByteArray.empty, .string ByteArray.empty, .string ByteArray.empty, .string ByteArray.empty, .string ByteArray.empty, .string ByteArray.empty, .string ByteArray.empty, .string ByteArray.empty, .string ByteArray.empty, .string ByteArray.empty, .string ByteArray.empty, .string ByteArray.empty, .string ByteArray.empty, .string ByteArray.empty, .string ByteArray.empty, .string ByteArray.empty, .string ByteArray.empty, .string ByteArray.empty, .string ByteArray.empty, .string ByteArray.empty, .string ByteArray.empty, .string ByteArray.empty, .string ByteArray.empty, .string ByteArray.empty, .string ByteArray.empty, .string ByteArray.empty] 121 w38 fun a39 w40 => stP a39 (.string r1) w40 fun w41 => stP (a39.add 1) (.string r2) w41 fun w42 => stP (a39.add 2) (.string r3) w42 fun w43 => stP (a39.add 3) (.string r4) w43 fun w44 => stP (a39.add 4) (.string r5) w44 fun w45 => stP (a39.add 5) (.string r6) w45 fun w46 => stP (a39.add 6) (.string r7) w46 fun w47 => stP (a39.add 7) (.string r8) w47 fun w48 => stP (a39.add 8) (.string r9) w48 fun w49 => stP (a39.add 9) (.string r10) w49 fun w50 => stP (a39.add 10) (.string r11) w50 fun w51 => stP (a39.add 11) (.string r12) w51 fun w52 => stP (a39.add 12) (.string r13) w52 fun w53 => stP (a39.add 13) (.string r14) w53 fun w54 => stP (a39.add 14) (.string r15) w54 fun w55 => stP (a39.add 15) (.string r16) w55 fun w56 => stP (a39.add 16) (.string r17) w56 fun w57 => stP (a39.add 17) (.string r18) w57 fun w58 => stP (a39.add 18) (.string r19) w58 fun w59 => stP (a39.add 19) (.string r20) w59 fun w60 => stP (a39.add 20) (.string r21) w60 fun w61 => stP (a39.add 21) (.string r22) w61 fun w62 => stP (a39.add 22) (.string r23) w62 fun w63 => stP (a39.add 23) (.string r24) w63 fun w64 => stP (a39.add 24) (.string r25) w64 fun w65 => stP (a39.add 25) (.string r26) w65 fun w66 => stP (a39.add 26) (.string r27) w66 fun w67 => stP (a39.add 27) (.string r28) w67 fun w68 => stP (a39.add 28) (.string r29) w68 fun w69 => stP (a39.add 29) (.string r30) w69 fun w70 => stP (a39.add 30) (.string r31) w70 fun w71 => stP (a39.add 31) (.string r32) w71 fun w72 => stP (a39.add 32) (.string r33) w72 fun w73 => stP (a39.add 33) (.string r34) w73 fun w74 => stP (a39.add 34) (.string r35) w74 fun w75 => stP (a39.add 35) (.string r36) w75 fun w76 => stP (a39.add 36) (.string r37) w76 fun w77 => arrP 37 op_0 (ldStr (a39.add (Int.toNat op_0 * 1)) w77 fun s78 => K s78 w77)))

def c_preluderef03_Spell (op_0 : Int) (w : World) (K : ByteArray → World → Prop) : Prop := Calls Tryd.prog 72 #[.int .i64 op_0] w (onRet (fun v w' => ∃ (y0 : ByteArray), v = .string y0 ∧ K y0 w'))

theorem sim_preluderef03_Spell {op_0 : Int} {w : World} {K : ByteArray → World → Prop} (h : sh_preluderef03_Spell c_preluderef03_names op_0 w K) : c_preluderef03_Spell op_0 w K := by
  have e : sh_preluderef03_Spell c_preluderef03_names op_0 w K = shF Tryd.prog 72 ⟨[], [], []⟩ [.int .i64 op_0] w (fun v w' => decV .str v fun y0 => K y0 w') := by kernel_rfl
  exact Calls.mono (calls_of _ e h) (onRet_mono (fun _ _ h => decV_spec h))

-- 68 prelude/preluderef03.is; callees ['preluderef03_Spell']
def sh_preluderef03_is (c_preluderef03_Spell : Int → World → (ByteArray → World → Prop) → Prop) (op_0 : Int) (a_1 : ByteArray) (b_2 : ByteArray) (c_3 : ByteArray) (d_4 : ByteArray) (w : World) (K : Bool → World → Prop) : Prop :=
  c_preluderef03_Spell op_0 w fun r1 w2 => iteB (!((r1).toList == (ByteArray.mk #[]).toList))
  (iteB ((r1).toList == (a_1).toList)
  (K true w2)
  (iteB ((r1).toList == (b_2).toList)
  (K true w2)
  (iteB ((r1).toList == (c_3).toList)
  (K true w2)
  (K ((r1).toList == (d_4).toList) w2))))
  (K false w2)

def c_preluderef03_is (op_0 : Int) (a_1 : ByteArray) (b_2 : ByteArray) (c_3 : ByteArray) (d_4 : ByteArray) (w : World) (K : Bool → World → Prop) : Prop := Calls Tryd.prog 68 #[.int .i64 op_0, .string a_1, .string b_2, .string c_3, .string d_4] w (onRet (fun v w' => ∃ (y0 : Bool), v = .bool y0 ∧ K y0 w'))

theorem sim_preluderef03_is {op_0 : Int} {a_1 : ByteArray} {b_2 : ByteArray} {c_3 : ByteArray} {d_4 : ByteArray} {w : World} {K : Bool → World → Prop} (h : sh_preluderef03_is c_preluderef03_Spell op_0 a_1 b_2 c_3 d_4 w K) : c_preluderef03_is op_0 a_1 b_2 c_3 d_4 w K := by
  have e : sh_preluderef03_is c_preluderef03_Spell op_0 a_1 b_2 c_3 d_4 w K = shF Tryd.prog 68 ⟨[], [], []⟩ [.int .i64 op_0, .string a_1, .string b_2, .string c_3, .string d_4] w (fun v w' => decV .b v fun y0 => K y0 w') := by kernel_rfl
  exact Calls.mono (calls_of _ e h) (onRet_mono (fun _ _ h => decV_spec h))

-- 69 prelude/preluderef03.argument; callees ['preluderef03_Spell']
def sh_preluderef03_argument (c_preluderef03_Spell : Int → World → (ByteArray → World → Prop) → Prop) (p_0_0 : Int) (p_0_1 : Int) (p_0_2 : Int) (p_0_3 : Int) (p_0_4 : Slc) (x_1_0 : Int) (x_1_1 : Int) (w : World) (K : Bool → World → Prop) : Prop :=
  newP #[.int .i64 p_0_0, .int .i64 p_0_1, .int .i64 p_0_2, .int .i64 p_0_3, .slice p_0_4.a p_0_4.l p_0_4.c] 41 w fun a1 w2 => newP #[.int .i64 x_1_0, .int .i64 x_1_1] 80 w2 fun a3 w4 => ldI .i64 a3 w4 fun n5 => c_preluderef03_Spell n5 w4 fun r6 w7 => iteB ((r6).toList == (ByteArray.mk #[112, 117, 115, 104]).toList)
  (K true w7)
  (iteB ((r6).toList == (ByteArray.mk #[106, 117, 109, 112]).toList)
  (K true w7)
  (iteB ((r6).toList == (ByteArray.mk #[122, 101, 114, 111]).toList)
  (K true w7)
  (iteB ((r6).toList == (ByteArray.mk #[108, 111, 97, 100]).toList)
  (ldI .i64 (a1.add 3) w7 fun n8 => ldI .i64 (a3.add 1) w7 fun n9 => iteB (decide ((n9 : Int) ≥ 0))
  (ldI .i64 (a3.add 1) w7 fun n10 => K (decide ((n10 : Int) < n8)) w7)
  (K false w7))
  (iteB ((r6).toList == (ByteArray.mk #[115, 97, 118, 101]).toList)
  (ldI .i64 (a1.add 3) w7 fun n11 => ldI .i64 (a3.add 1) w7 fun n12 => iteB (decide ((n12 : Int) ≥ 0))
  (ldI .i64 (a3.add 1) w7 fun n13 => K (decide ((n13 : Int) < n11)) w7)
  (K false w7))
  (iteB ((r6).toList == (ByteArray.mk #[97, 114, 103]).toList)
  (ldI .i64 a1 w7 fun n14 => ldI .i64 (a3.add 1) w7 fun n15 => iteB (decide ((n15 : Int) ≥ 0))
  (ldI .i64 (a3.add 1) w7 fun n16 => K (decide ((n16 : Int) < n14)) w7)
  (K false w7))
  (iteB ((r6).toList == (ByteArray.mk #[103, 101, 116]).toList)
  (ldI .i64 (a1.add 1) w7 fun n17 => ldI .i64 (a3.add 1) w7 fun n18 => iteB (decide ((n18 : Int) ≥ 0))
  (ldI .i64 (a3.add 1) w7 fun n19 => K (decide ((n19 : Int) < n17)) w7)
  (K false w7))
  (iteB ((r6).toList == (ByteArray.mk #[104, 97, 115]).toList)
  (ldI .i64 (a1.add 1) w7 fun n20 => ldI .i64 (a3.add 1) w7 fun n21 => iteB (decide ((n21 : Int) ≥ 0))
  (ldI .i64 (a3.add 1) w7 fun n22 => K (decide ((n22 : Int) < n20)) w7)
  (K false w7))
  (iteB ((r6).toList == (ByteArray.mk #[112, 117, 116]).toList)
  (ldI .i64 (a1.add 2) w7 fun n23 => ldI .i64 (a3.add 1) w7 fun n24 => iteB (decide ((n24 : Int) ≥ 0))
  (ldI .i64 (a3.add 1) w7 fun n25 => K (decide ((n25 : Int) < n23)) w7)
  (K false w7))
  (iteB ((r6).toList == (ByteArray.mk #[100, 101, 108]).toList)
  (ldI .i64 (a1.add 2) w7 fun n26 => ldI .i64 (a3.add 1) w7 fun n27 => iteB (decide ((n27 : Int) ≥ 0))
  (ldI .i64 (a3.add 1) w7 fun n28 => K (decide ((n28 : Int) < n26)) w7)
  (K false w7))
  (ldI .i64 (a3.add 1) w7 fun n29 => K ((n29 : Int) == 0) w7))))))))))

def c_preluderef03_argument (p_0_0 : Int) (p_0_1 : Int) (p_0_2 : Int) (p_0_3 : Int) (p_0_4 : Slc) (x_1_0 : Int) (x_1_1 : Int) (w : World) (K : Bool → World → Prop) : Prop := Calls Tryd.prog 69 #[.agg #[.int .i64 p_0_0, .int .i64 p_0_1, .int .i64 p_0_2, .int .i64 p_0_3, .slice p_0_4.a p_0_4.l p_0_4.c], .agg #[.int .i64 x_1_0, .int .i64 x_1_1]] w (onRet (fun v w' => ∃ (y0 : Bool), v = .bool y0 ∧ K y0 w'))

theorem sim_preluderef03_argument {p_0_0 : Int} {p_0_1 : Int} {p_0_2 : Int} {p_0_3 : Int} {p_0_4 : Slc} {x_1_0 : Int} {x_1_1 : Int} {w : World} {K : Bool → World → Prop} (h : sh_preluderef03_argument c_preluderef03_Spell p_0_0 p_0_1 p_0_2 p_0_3 p_0_4 x_1_0 x_1_1 w K) : c_preluderef03_argument p_0_0 p_0_1 p_0_2 p_0_3 p_0_4 x_1_0 x_1_1 w K := by
  have e : sh_preluderef03_argument c_preluderef03_Spell p_0_0 p_0_1 p_0_2 p_0_3 p_0_4 x_1_0 x_1_1 w K = shF Tryd.prog 69 ⟨[], [], []⟩ [.agg #[.int .i64 p_0_0, .int .i64 p_0_1, .int .i64 p_0_2, .int .i64 p_0_3, .slice p_0_4.a p_0_4.l p_0_4.c], .agg #[.int .i64 x_1_0, .int .i64 x_1_1]] w (fun v w' => decV .b v fun y0 => K y0 w') := by kernel_rfl
  exact Calls.mono (calls_of _ e h) (onRet_mono (fun _ _ h => decV_spec h))

-- 70 prelude/preluderef03.Takes; callees ['preluderef03_Spell']
def sh_preluderef03_Takes (c_preluderef03_Spell : Int → World → (ByteArray → World → Prop) → Prop) (op_0 : Int) (w : World) (K : Int → Int → World → Prop) : Prop :=
  c_preluderef03_Spell op_0 w fun r1 w2 => iteB ((r1).toList == (ByteArray.mk #[115, 116, 111, 112]).toList)
  (K 0 0 w2)
  (iteB ((r1).toList == (ByteArray.mk #[100, 101, 108]).toList)
  (K 0 0 w2)
  (iteB ((r1).toList == (ByteArray.mk #[106, 117, 109, 112]).toList)
  (K 0 0 w2)
  (iteB ((r1).toList == (ByteArray.mk #[112, 117, 115, 104]).toList)
  (K 0 1 w2)
  (iteB ((r1).toList == (ByteArray.mk #[108, 111, 97, 100]).toList)
  (K 0 1 w2)
  (iteB ((r1).toList == (ByteArray.mk #[97, 114, 103]).toList)
  (K 0 1 w2)
  (iteB ((r1).toList == (ByteArray.mk #[103, 101, 116]).toList)
  (K 0 1 w2)
  (iteB ((r1).toList == (ByteArray.mk #[104, 97, 115]).toList)
  (K 0 1 w2)
  (iteB ((r1).toList == (ByteArray.mk #[112, 111, 112]).toList)
  (K 1 0 w2)
  (iteB ((r1).toList == (ByteArray.mk #[115, 97, 118, 101]).toList)
  (K 1 0 w2)
  (iteB ((r1).toList == (ByteArray.mk #[122, 101, 114, 111]).toList)
  (K 1 0 w2)
  (iteB ((r1).toList == (ByteArray.mk #[112, 117, 116]).toList)
  (K 1 0 w2)
  (iteB ((r1).toList == (ByteArray.mk #[111, 117, 116]).toList)
  (K 1 0 w2)
  (iteB ((r1).toList == (ByteArray.mk #[97, 98, 111, 114, 116]).toList)
  (K 1 0 w2)
  (iteB ((r1).toList == (ByteArray.mk #[103, 101, 116, 120]).toList)
  (K 1 1 w2)
  (iteB ((r1).toList == (ByteArray.mk #[110, 101, 103]).toList)
  (K 1 1 w2)
  (iteB ((r1).toList == (ByteArray.mk #[110, 111, 116]).toList)
  (K 1 1 w2)
  (iteB ((r1).toList == (ByteArray.mk #[100, 117, 112]).toList)
  (K 1 2 w2)
  (iteB ((r1).toList == (ByteArray.mk #[112, 117, 116, 120]).toList)
  (K 2 0 w2)
  (K 2 1 w2)))))))))))))))))))

def c_preluderef03_Takes (op_0 : Int) (w : World) (K : Int → Int → World → Prop) : Prop := Calls Tryd.prog 70 #[.int .i64 op_0] w (onRet (fun v w' => ∃ (y0 : Int), ∃ (y1 : Int), v = .tuple #[.int .i64 y0, .int .i64 y1] ∧ K y0 y1 w'))

theorem sim_preluderef03_Takes {op_0 : Int} {w : World} {K : Int → Int → World → Prop} (h : sh_preluderef03_Takes c_preluderef03_Spell op_0 w K) : c_preluderef03_Takes op_0 w K := by
  have e : sh_preluderef03_Takes c_preluderef03_Spell op_0 w K = shF Tryd.prog 70 ⟨[], [], []⟩ [.int .i64 op_0] w (fun v w' => decT [(false, [(.int .i64)]), (false, [(.int .i64)])] v fun s => (fun (y0 : Int) (y1 : Int) => K y0 y1 w') s.1 s.2.1) := by kernel_rfl
  exact Calls.mono (calls_of _ e h) (onRet_mono (fun _ _ h => by obtain ⟨s, h1, h2⟩ := decT_spec h; exact ⟨s.1, s.2.1, h1, h2⟩))

-- 71 prelude/preluderef03.Next; callees ['preluderef03_Spell']
def sh_preluderef03_Next (c_preluderef03_Spell : Int → World → (ByteArray → World → Prop) → Prop) (p_0_0 : Int) (p_0_1 : Int) (p_0_2 : Int) (p_0_3 : Int) (p_0_4 : Slc) (at_1 : Int) (w : World) (K : Slc → World → Prop) : Prop :=
  newP #[.int .i64 p_0_0, .int .i64 p_0_1, .int .i64 p_0_2, .int .i64 p_0_3, .slice p_0_4.a p_0_4.l p_0_4.c] 41 w fun a1 w2 => ldS (a1.add 4) w2 fun s3 => idxP s3.a s3.l at_1 2 fun a4 => ldI .i64 a4 w2 fun n5 => ldI .i64 (a4.add 1) w2 fun n6 => newP #[.int .i64 0, .int .i64 0] 80 w2 fun a7 w8 => stP a7 (.int .i64 n5) w8 fun w9 => stP (a7.add 1) (.int .i64 n6) w9 fun w10 => ldI .i64 a7 w10 fun n11 => c_preluderef03_Spell n11 w10 fun r12 w13 => iteB ((r12).toList == (ByteArray.mk #[115, 116, 111, 112]).toList)
  (K ⟨none, 0, 0⟩ w13)
  (iteB ((r12).toList == (ByteArray.mk #[97, 98, 111, 114, 116]).toList)
  (K ⟨none, 0, 0⟩ w13)
  (iteB ((r12).toList == (ByteArray.mk #[106, 117, 109, 112]).toList)
  (ldI .i64 (a7.add 1) w13 fun n14 => newP #[.int .i64 n14] 3 w13 fun a15 w16 => K ⟨(some a15), 1, 1⟩ w16)
  (iteB ((r12).toList == (ByteArray.mk #[122, 101, 114, 111]).toList)
  (ldI .i64 (a7.add 1) w13 fun n17 => newP #[.int .i64 (IntKind.i64.wrap (at_1 + 1)), .int .i64 n17] 3 w13 fun a18 w19 => K ⟨(some a18), 2, 2⟩ w19)
  (newP #[.int .i64 (IntKind.i64.wrap (at_1 + 1))] 3 w13 fun a20 w21 => K ⟨(some a20), 1, 1⟩ w21))))

def c_preluderef03_Next (p_0_0 : Int) (p_0_1 : Int) (p_0_2 : Int) (p_0_3 : Int) (p_0_4 : Slc) (at_1 : Int) (w : World) (K : Slc → World → Prop) : Prop := Calls Tryd.prog 71 #[.agg #[.int .i64 p_0_0, .int .i64 p_0_1, .int .i64 p_0_2, .int .i64 p_0_3, .slice p_0_4.a p_0_4.l p_0_4.c], .int .i64 at_1] w (onRet (fun v w' => ∃ (y0 : Slc), v = .slice y0.a y0.l y0.c ∧ K y0 w'))

theorem sim_preluderef03_Next {p_0_0 : Int} {p_0_1 : Int} {p_0_2 : Int} {p_0_3 : Int} {p_0_4 : Slc} {at_1 : Int} {w : World} {K : Slc → World → Prop} (h : sh_preluderef03_Next c_preluderef03_Spell p_0_0 p_0_1 p_0_2 p_0_3 p_0_4 at_1 w K) : c_preluderef03_Next p_0_0 p_0_1 p_0_2 p_0_3 p_0_4 at_1 w K := by
  have e : sh_preluderef03_Next c_preluderef03_Spell p_0_0 p_0_1 p_0_2 p_0_3 p_0_4 at_1 w K = shF Tryd.prog 71 ⟨[], [], []⟩ [.agg #[.int .i64 p_0_0, .int .i64 p_0_1, .int .i64 p_0_2, .int .i64 p_0_3, .slice p_0_4.a p_0_4.l p_0_4.c], .int .i64 at_1] w (fun v w' => decV .sl v fun y0 => K y0 w') := by kernel_rfl
  exact Calls.mono (calls_of _ e h) (onRet_mono (fun _ _ h => decV_spec h))

-- 60 prelude/preluderef03.Depths; callees ['preluderef03_limits', 'preluderef03_is', 'preluderef03_argument', 'preluderef03_Takes', 'preluderef03_Next']
def sh_preluderef03_Depths (c_preluderef03_limits : Int → Int → Int → Int → Slc → World → (Bool → World → Prop) → Prop) (c_preluderef03_is : Int → ByteArray → ByteArray → ByteArray → ByteArray → World → (Bool → World → Prop) → Prop) (c_preluderef03_argument : Int → Int → Int → Int → Slc → Int → Int → World → (Bool → World → Prop) → Prop) (c_preluderef03_Takes : Int → World → (Int → Int → World → Prop) → Prop) (c_preluderef03_Next : Int → Int → Int → Int → Slc → Int → World → (Slc → World → Prop) → Prop) (x_0_0 : Int) (x_0_1 : Int) (x_0_2 : Int) (x_0_3 : Int) (x_0_4 : Slc) (w : World) (K : Slc → Int → World → Prop) : Prop :=
  newP #[.int .i64 x_0_0, .int .i64 x_0_1, .int .i64 x_0_2, .int .i64 x_0_3, .slice x_0_4.a x_0_4.l x_0_4.c] 41 w fun a1 w2 => ldI .i64 a1 w2 fun n3 => ldI .i64 (a1.add 1) w2 fun n4 => ldI .i64 (a1.add 2) w2 fun n5 => ldI .i64 (a1.add 3) w2 fun n6 => ldS (a1.add 4) w2 fun s7 => c_preluderef03_limits n3 n4 n5 n6 s7 w2 fun r8 w9 => iteB (!r8)
  (K ⟨none, 0, 0⟩ 30 w9)
  (loopP (σ := Int × Unit) (fun st11 next10 w12 => (fun (x13 : Int) => ldS (a1.add 4) w12 fun s14 => iteB (decide ((x13 : Int) < (s14.l : Int)))
  (ldS (a1.add 4) w12 fun s15 => idxP s15.a s15.l x13 2 fun a16 => ldI .i64 a16 w12 fun n17 => ldI .i64 (a16.add 1) w12 fun n18 => newP #[.int .i64 0, .int .i64 0] 80 w12 fun a19 w20 => stP a19 (.int .i64 n17) w20 fun w21 => stP (a19.add 1) (.int .i64 n18) w21 fun w22 => ldI .i64 a19 w22 fun n23 => iteB (decide ((n23 : Int) < 0))
  (K ⟨none, 0, 0⟩ 31 w22)
  (ldI .i64 a19 w22 fun n24 => iteB (decide ((n24 : Int) ≥ 37))
  (K ⟨none, 0, 0⟩ 31 w22)
  (ldI .i64 a19 w22 fun n25 => c_preluderef03_is n25 (ByteArray.mk #[106, 117, 109, 112]) (ByteArray.mk #[122, 101, 114, 111]) (ByteArray.mk #[]) (ByteArray.mk #[]) w22 fun r26 w27 => iteB r26
  (ldI .i64 (a19.add 1) w27 fun n28 => iteB (decide ((n28 : Int) ≤ x13))
  (K ⟨none, 0, 0⟩ 33 w27)
  (ldI .i64 (a19.add 1) w27 fun n29 => ldS (a1.add 4) w27 fun s30 => iteB (decide ((n29 : Int) > (s30.l : Int)))
  (K ⟨none, 0, 0⟩ 33 w27)
  (ldI .i64 a1 w27 fun n31 => ldI .i64 (a1.add 1) w27 fun n32 => ldI .i64 (a1.add 2) w27 fun n33 => ldI .i64 (a1.add 3) w27 fun n34 => ldS (a1.add 4) w27 fun s35 => ldI .i64 a19 w27 fun n36 => ldI .i64 (a19.add 1) w27 fun n37 => c_preluderef03_argument n31 n32 n33 n34 s35 n36 n37 w27 fun r38 w39 => iteB (!r38)
  (K ⟨none, 0, 0⟩ 32 w39)
  (next10 ((IntKind.i64.wrap (x13 + 1)), ()) w39))))
  (ldI .i64 a1 w27 fun n40 => ldI .i64 (a1.add 1) w27 fun n41 => ldI .i64 (a1.add 2) w27 fun n42 => ldI .i64 (a1.add 3) w27 fun n43 => ldS (a1.add 4) w27 fun s44 => ldI .i64 a19 w27 fun n45 => ldI .i64 (a19.add 1) w27 fun n46 => c_preluderef03_argument n40 n41 n42 n43 s44 n45 n46 w27 fun r47 w48 => iteB (!r47)
  (K ⟨none, 0, 0⟩ 32 w48)
  (next10 ((IntKind.i64.wrap (x13 + 1)), ()) w48)))))
  (newP #[.int .i64 0] 3 w12 fun a49 w50 => loopP (σ := Slc × Int × Unit) (fun st52 next51 w53 => (fun (x54 : Slc) (x55 : Int) => ldS (a1.add 4) w53 fun s56 => iteB (decide ((x55 : Int) < (s56.l : Int)))
  (newP #[.int .i64 (-1)] 3 w53 fun a57 w58 => apP Tryd.prog #[90, 90] 90 [.slice x54.a x54.l x54.c, .slice (some a57) 1 1] w58 fun s60 w59 => next51 (s60, (IntKind.i64.wrap (x55 + 1)), ()) w59)
  (loopP (σ := Int × Unit) (fun st62 next61 w63 => (fun (x64 : Int) => ldS (a1.add 4) w63 fun s65 => iteB (decide ((x64 : Int) < (s65.l : Int)))
  (idxP x54.a x54.l x64 1 fun a66 => ldI .i64 a66 w63 fun n67 => iteB (decide ((n67 : Int) < 0))
  (next61 ((IntKind.i64.wrap (x64 + 1)), ()) w63)
  (ldS (a1.add 4) w63 fun s68 => idxP s68.a s68.l x64 2 fun a69 => ldI .i64 a69 w63 fun n70 => c_preluderef03_Takes n70 w63 fun r71 r72 w73 => idxP x54.a x54.l x64 1 fun a74 => ldI .i64 a74 w73 fun n75 => iteB (decide (((IntKind.i64.wrap (n75 - r71)) : Int) < 0))
  (K ⟨none, 0, 0⟩ 34 w73)
  (iteB (decide (((IntKind.i64.wrap ((IntKind.i64.wrap (n75 - r71)) + r72)) : Int) > 32))
  (K ⟨none, 0, 0⟩ 34 w73)
  (ldI .i64 a1 w73 fun n76 => ldI .i64 (a1.add 1) w73 fun n77 => ldI .i64 (a1.add 2) w73 fun n78 => ldI .i64 (a1.add 3) w73 fun n79 => ldS (a1.add 4) w73 fun s80 => c_preluderef03_Next n76 n77 n78 n79 s80 x64 w73 fun r81 w82 => loopP (σ := Int × Unit) (fun st84 next83 w85 => (fun (x86 : Int) => iteB (decide ((x86 : Int) < (r81.l : Int)))
  (idxP r81.a r81.l x86 1 fun a87 => ldI .i64 a87 w85 fun n88 => idxP x54.a x54.l n88 1 fun a89 => ldI .i64 a89 w85 fun n90 => iteB (decide ((n90 : Int) ≥ 0))
  (idxP r81.a r81.l x86 1 fun a91 => ldI .i64 a91 w85 fun n92 => idxP x54.a x54.l n92 1 fun a93 => ldI .i64 a93 w85 fun n94 => iteB ((n94 : Int) != (IntKind.i64.wrap ((IntKind.i64.wrap (n75 - r71)) + r72)))
  (K ⟨none, 0, 0⟩ 34 w85)
  (idxP r81.a r81.l x86 1 fun a95 => ldI .i64 a95 w85 fun n96 => idxP x54.a x54.l n96 1 fun a97 => stP a97 (.int .i64 (IntKind.i64.wrap ((IntKind.i64.wrap (n75 - r71)) + r72))) w85 fun w98 => next83 ((IntKind.i64.wrap (x86 + 1)), ()) w98))
  (idxP r81.a r81.l x86 1 fun a99 => ldI .i64 a99 w85 fun n100 => idxP x54.a x54.l n100 1 fun a101 => stP a101 (.int .i64 (IntKind.i64.wrap ((IntKind.i64.wrap (n75 - r71)) + r72))) w85 fun w102 => next83 ((IntKind.i64.wrap (x86 + 1)), ()) w102))
  (next61 ((IntKind.i64.wrap (x64 + 1)), ()) w85)) st84.1) (0, ()) w82))))
  (K x54 0 w63)) st62.1) (0, ()) w53)) st52.1 st52.2.1) (⟨(some a49), 1, 1⟩, 0, ()) w50)) st11.1) (0, ()) w9)

def c_preluderef03_Depths (x_0_0 : Int) (x_0_1 : Int) (x_0_2 : Int) (x_0_3 : Int) (x_0_4 : Slc) (w : World) (K : Slc → Int → World → Prop) : Prop := Calls Tryd.prog 60 #[.agg #[.int .i64 x_0_0, .int .i64 x_0_1, .int .i64 x_0_2, .int .i64 x_0_3, .slice x_0_4.a x_0_4.l x_0_4.c]] w (onRet (fun v w' => ∃ (y0 : Slc), ∃ (y1 : Int), v = .tuple #[.slice y0.a y0.l y0.c, .int .i64 y1] ∧ K y0 y1 w'))

theorem sim_preluderef03_Depths {x_0_0 : Int} {x_0_1 : Int} {x_0_2 : Int} {x_0_3 : Int} {x_0_4 : Slc} {w : World} {K : Slc → Int → World → Prop} (h : sh_preluderef03_Depths c_preluderef03_limits c_preluderef03_is c_preluderef03_argument c_preluderef03_Takes c_preluderef03_Next x_0_0 x_0_1 x_0_2 x_0_3 x_0_4 w K) : c_preluderef03_Depths x_0_0 x_0_1 x_0_2 x_0_3 x_0_4 w K := by
  have e : sh_preluderef03_Depths c_preluderef03_limits c_preluderef03_is c_preluderef03_argument c_preluderef03_Takes c_preluderef03_Next x_0_0 x_0_1 x_0_2 x_0_3 x_0_4 w K = shF Tryd.prog 60 ⟨[], [(4, [(4, (.int .i64))], [1]), (15, [(6, .sl), (7, (.int .i64))], [1]), (19, [(8, (.int .i64))], [1, 6]), (29, [(13, (.int .i64))], [1, 6, 8, 11, 12])], []⟩ [.agg #[.int .i64 x_0_0, .int .i64 x_0_1, .int .i64 x_0_2, .int .i64 x_0_3, .slice x_0_4.a x_0_4.l x_0_4.c]] w (fun v w' => decT [(false, [.sl]), (false, [(.int .i64)])] v fun s => (fun (y0 : Slc) (y1 : Int) => K y0 y1 w') s.1 s.2.1) := by kernel_rfl
  exact Calls.mono (calls_of _ e h) (onRet_mono (fun _ _ h => by obtain ⟨s, h1, h2⟩ := decT_spec h; exact ⟨s.1, s.2.1, h1, h2⟩))

-- 50 prelude/preluderef03.Verify; callees ['preluderef03_Depths']
def sh_preluderef03_Verify (c_preluderef03_Depths : Int → Int → Int → Int → Slc → World → (Slc → Int → World → Prop) → Prop) (p_0_0 : Int) (p_0_1 : Int) (p_0_2 : Int) (p_0_3 : Int) (p_0_4 : Slc) (w : World) (K : Int → World → Prop) : Prop :=
  newP #[.int .i64 p_0_0, .int .i64 p_0_1, .int .i64 p_0_2, .int .i64 p_0_3, .slice p_0_4.a p_0_4.l p_0_4.c] 41 w fun a1 w2 => ldI .i64 a1 w2 fun n3 => ldI .i64 (a1.add 1) w2 fun n4 => ldI .i64 (a1.add 2) w2 fun n5 => ldI .i64 (a1.add 3) w2 fun n6 => ldS (a1.add 4) w2 fun s7 => c_preluderef03_Depths n3 n4 n5 n6 s7 w2 fun r8 r9 w10 => K r9 w10

def c_preluderef03_Verify (p_0_0 : Int) (p_0_1 : Int) (p_0_2 : Int) (p_0_3 : Int) (p_0_4 : Slc) (w : World) (K : Int → World → Prop) : Prop := Calls Tryd.prog 50 #[.agg #[.int .i64 p_0_0, .int .i64 p_0_1, .int .i64 p_0_2, .int .i64 p_0_3, .slice p_0_4.a p_0_4.l p_0_4.c]] w (onRet (fun v w' => ∃ (y0 : Int), v = .int .i64 y0 ∧ K y0 w'))

theorem sim_preluderef03_Verify {p_0_0 : Int} {p_0_1 : Int} {p_0_2 : Int} {p_0_3 : Int} {p_0_4 : Slc} {w : World} {K : Int → World → Prop} (h : sh_preluderef03_Verify c_preluderef03_Depths p_0_0 p_0_1 p_0_2 p_0_3 p_0_4 w K) : c_preluderef03_Verify p_0_0 p_0_1 p_0_2 p_0_3 p_0_4 w K := by
  have e : sh_preluderef03_Verify c_preluderef03_Depths p_0_0 p_0_1 p_0_2 p_0_3 p_0_4 w K = shF Tryd.prog 50 ⟨[], [], []⟩ [.agg #[.int .i64 p_0_0, .int .i64 p_0_1, .int .i64 p_0_2, .int .i64 p_0_3, .slice p_0_4.a p_0_4.l p_0_4.c]] w (fun v w' => decV (.int .i64) v fun y0 => K y0 w') := by kernel_rfl
  exact Calls.mono (calls_of _ e h) (onRet_mono (fun _ _ h => decV_spec h))

-- 24 prelude/preluderef03.Check; callees ['preluderef03_Name', 'preluderef03_Verify']
def sh_preluderef03_Check (c_preluderef03_Name : ByteArray → World → (Bool → World → Prop) → Prop) (c_preluderef03_Verify : Int → Int → Int → Int → Slc → World → (Int → World → Prop) → Prop) (lib_0 : Slc) (w : World) (K : Int → Int → World → Prop) : Prop :=
  iteB (decide (((lib_0.l : Int) : Int) > 64))
  (K 0 36 w)
  (loopP (σ := Int × Unit) (fun st2 next1 w3 => (fun (i_4 : Int) => iteB (decide ((i_4 : Int) < (lib_0.l : Int)))
  (idxP lib_0.a lib_0.l i_4 6 fun a5 => ldStr a5 w3 fun s6 => c_preluderef03_Name s6 w3 fun r7 w8 => iteB (!r7)
  (K i_4 35 w8)
  (loopP (σ := Int × Unit) (fun st10 next9 w11 => (fun (k_12 : Int) => iteB (decide ((k_12 : Int) < i_4))
  (idxP lib_0.a lib_0.l k_12 6 fun a13 => ldStr a13 w11.drew fun s14 => idxP lib_0.a lib_0.l i_4 6 fun a15 => ldStr a15 w11.drew fun s16 => iteB ((s14).toList == (s16).toList)
  (K i_4 35 w11.drew)
  (next9 ((IntKind.i64.wrap (k_12 + 1)), ()) w11.drew))
  (idxP lib_0.a lib_0.l i_4 6 fun a17 => ldI .i64 (a17.add 1) w11 fun n18 => ldI .i64 ((a17.add 1).add 1) w11 fun n19 => ldI .i64 ((a17.add 1).add 2) w11 fun n20 => ldI .i64 ((a17.add 1).add 3) w11 fun n21 => ldS ((a17.add 1).add 4) w11 fun s22 => c_preluderef03_Verify n18 n19 n20 n21 s22 w11 fun r23 w24 => iteB ((r23 : Int) != 0)
  (K i_4 r23 w24)
  (next1 ((IntKind.i64.wrap (i_4 + 1)), ()) w24))) st10.1) (0, ()) w8))
  (K 0 0 w3)) st2.1) (0, ()) w)

def c_preluderef03_Check (lib_0 : Slc) (w : World) (K : Int → Int → World → Prop) : Prop := Calls Tryd.prog 24 #[.slice lib_0.a lib_0.l lib_0.c] w (onRet (fun v w' => ∃ (y0 : Int), ∃ (y1 : Int), v = .tuple #[.int .i64 y0, .int .i64 y1] ∧ K y0 y1 w'))

theorem sim_preluderef03_Check {lib_0 : Slc} {w : World} {K : Int → Int → World → Prop} (h : sh_preluderef03_Check c_preluderef03_Name c_preluderef03_Verify lib_0 w K) : c_preluderef03_Check lib_0 w K := by
  have e : sh_preluderef03_Check c_preluderef03_Name c_preluderef03_Verify lib_0 w K = shF Tryd.prog 24 ⟨[(11, .of [0, 1, 2, 3, 4, 5, 6, 7, 8, 9, 10])], [(4, [(4, (.int .i64))], [0]), (9, [(5, (.int .i64))], [0, 4])], []⟩ [.slice lib_0.a lib_0.l lib_0.c] w (fun v w' => decT [(false, [(.int .i64)]), (false, [(.int .i64)])] v fun s => (fun (y0 : Int) (y1 : Int) => K y0 y1 w') s.1 s.2.1) := by kernel_rfl
  exact Calls.mono (calls_of _ e h) (onRet_mono (fun _ _ h => by obtain ⟨s, h1, h2⟩ := decT_spec h; exact ⟨s.1, s.2.1, h1, h2⟩))

-- 25 prelude/preluderef01.Uint; callees []
def sh_preluderef01_Uint (n_0 : Int) (w : World) (K : Slc → World → Prop) : Prop :=
  loopP (σ := Int × Slc × Unit) (fun st2 next1 w3 => (fun (n_4 : Int) (b_5 : Slc) => iteB (decide ((n_4 : Int) ≥ 128))
  (dzP 128 (newP #[.int .u8 (IntKind.u8.wrap ((IntKind.u8.wrap (Int.tmod n_4 128)) + 128))] 5 w3 fun a6 w7 => apP Tryd.prog #[23, 23] 23 [.slice b_5.a b_5.l b_5.c, .slice (some a6) 1 1] w7 fun s9 w8 => dzP 128 (next1 ((IntKind.u64.wrap (Int.tdiv n_4 128)), s9, ()) w8)))
  (newP #[.int .u8 (IntKind.u8.wrap n_4)] 5 w3 fun a10 w11 => apP Tryd.prog #[23, 23] 23 [.slice b_5.a b_5.l b_5.c, .slice (some a10) 1 1] w11 fun s13 w12 => K s13 w12)) st2.1 st2.2.1) (n_0, ⟨none, 0, 0⟩, ()) w

def c_preluderef01_Uint (n_0 : Int) (w : World) (K : Slc → World → Prop) : Prop := Calls Tryd.prog 25 #[.int .u64 n_0] w (onRet (fun v w' => ∃ (y0 : Slc), v = .slice y0.a y0.l y0.c ∧ K y0 w'))

theorem sim_preluderef01_Uint {n_0 : Int} {w : World} {K : Slc → World → Prop} (h : sh_preluderef01_Uint n_0 w K) : c_preluderef01_Uint n_0 w K := by
  have e : sh_preluderef01_Uint n_0 w K = shF Tryd.prog 25 ⟨[], [(2, [(0, (.int .u64)), (3, .sl)], [])], []⟩ [.int .u64 n_0] w (fun v w' => decV .sl v fun y0 => K y0 w') := by kernel_rfl
  exact Calls.mono (calls_of _ e h) (onRet_mono (fun _ _ h => decV_spec h))

-- 61 prelude/preluderef01.Fold; callees []
def sh_preluderef01_Fold (n_0 : Int) (w : World) (K : Int → World → Prop) : Prop :=
  iteB (decide ((n_0 : Int) ≥ 0))
  (K (IntKind.u64.wrap (2 * (IntKind.u64.wrap n_0))) w)
  (K (IntKind.u64.wrap ((IntKind.u64.wrap (2 * (IntKind.u64.wrap (IntKind.i64.wrap ((-1) - n_0))))) + 1)) w)

def c_preluderef01_Fold (n_0 : Int) (w : World) (K : Int → World → Prop) : Prop := Calls Tryd.prog 61 #[.int .i64 n_0] w (onRet (fun v w' => ∃ (y0 : Int), v = .int .u64 y0 ∧ K y0 w'))

theorem sim_preluderef01_Fold {n_0 : Int} {w : World} {K : Int → World → Prop} (h : sh_preluderef01_Fold n_0 w K) : c_preluderef01_Fold n_0 w K := by
  have e : sh_preluderef01_Fold n_0 w K = shF Tryd.prog 61 ⟨[], [], []⟩ [.int .i64 n_0] w (fun v w' => decV (.int .u64) v fun y0 => K y0 w') := by kernel_rfl
  exact Calls.mono (calls_of _ e h) (onRet_mono (fun _ _ h => decV_spec h))

-- 52 prelude/preluderef01.Int; callees ['preluderef01_Fold', 'preluderef01_Uint']
def sh_preluderef01_Int (c_preluderef01_Fold : Int → World → (Int → World → Prop) → Prop) (c_preluderef01_Uint : Int → World → (Slc → World → Prop) → Prop) (n_0 : Int) (w : World) (K : Slc → World → Prop) : Prop :=
  c_preluderef01_Fold n_0 w fun r1 w2 => c_preluderef01_Uint r1 w2 fun r3 w4 => K r3 w4

def c_preluderef01_Int (n_0 : Int) (w : World) (K : Slc → World → Prop) : Prop := Calls Tryd.prog 52 #[.int .i64 n_0] w (onRet (fun v w' => ∃ (y0 : Slc), v = .slice y0.a y0.l y0.c ∧ K y0 w'))

theorem sim_preluderef01_Int {n_0 : Int} {w : World} {K : Slc → World → Prop} (h : sh_preluderef01_Int c_preluderef01_Fold c_preluderef01_Uint n_0 w K) : c_preluderef01_Int n_0 w K := by
  have e : sh_preluderef01_Int c_preluderef01_Fold c_preluderef01_Uint n_0 w K = shF Tryd.prog 52 ⟨[], [], []⟩ [.int .i64 n_0] w (fun v w' => decV .sl v fun y0 => K y0 w') := by kernel_rfl
  exact Calls.mono (calls_of _ e h) (onRet_mono (fun _ _ h => decV_spec h))

-- 26 prelude/preluderef03.Written; callees ['preluderef03_limits', 'preluderef01_Uint', 'preluderef01_Int']
def sh_preluderef03_Written (c_preluderef03_limits : Int → Int → Int → Int → Slc → World → (Bool → World → Prop) → Prop) (c_preluderef01_Uint : Int → World → (Slc → World → Prop) → Prop) (c_preluderef01_Int : Int → World → (Slc → World → Prop) → Prop) (x_0_0 : Int) (x_0_1 : Int) (x_0_2 : Int) (x_0_3 : Int) (x_0_4 : Slc) (w : World) (K : Slc → Int → World → Prop) : Prop :=
  newP #[.int .i64 x_0_0, .int .i64 x_0_1, .int .i64 x_0_2, .int .i64 x_0_3, .slice x_0_4.a x_0_4.l x_0_4.c] 41 w fun a1 w2 => ldI .i64 a1 w2 fun n3 => ldI .i64 (a1.add 1) w2 fun n4 => ldI .i64 (a1.add 2) w2 fun n5 => ldI .i64 (a1.add 3) w2 fun n6 => ldS (a1.add 4) w2 fun s7 => c_preluderef03_limits n3 n4 n5 n6 s7 w2 fun r8 w9 => iteB (!r8)
  (K ⟨none, 0, 0⟩ 30 w9)
  (ldI .i64 a1 w9 fun n10 => ldI .i64 (a1.add 1) w9 fun n11 => ldI .i64 (a1.add 2) w9 fun n12 => ldI .i64 (a1.add 3) w9 fun n13 => ldS (a1.add 4) w9 fun s14 => newP #[.int .i64 0, .int .i64 0, .int .i64 0, .int .i64 0, .int .i64 0] 97 w9 fun a15 w16 => stP a15 (.int .i64 n10) w16 fun w17 => stP (a15.add 1) (.int .i64 n11) w17 fun w18 => stP (a15.add 2) (.int .i64 n12) w18 fun w19 => stP (a15.add 3) (.int .i64 n13) w19 fun w20 => stP (a15.add 4) (.int .i64 (s14.l : Int)) w20 fun w21 => loopP (σ := Slc × Int × Unit) (fun st23 next22 w24 => (fun (x25 : Slc) (x26 : Int) => iteB (decide ((x26 : Int) < 5))
  (arrP 5 x26 (ldI .i64 (a15.add (Int.toNat x26 * 1)) w24 fun n27 => c_preluderef01_Uint (IntKind.u64.wrap n27) w24 fun r28 w29 => apP Tryd.prog #[23, 23] 23 [.slice x25.a x25.l x25.c, .slice r28.a r28.l r28.c] w29 fun s31 w30 => next22 (s31, (IntKind.i64.wrap (x26 + 1)), ()) w30))
  (loopP (σ := Slc × Int × Unit) (fun st33 next32 w34 => (fun (x35 : Slc) (x36 : Int) => ldS (a1.add 4) w34 fun s37 => iteB (decide ((x36 : Int) < (s37.l : Int)))
  (ldS (a1.add 4) w34 fun s38 => idxP s38.a s38.l x36 2 fun a39 => ldI .i64 a39 w34 fun n40 => ldI .i64 (a39.add 1) w34 fun n41 => newP #[.int .i64 0, .int .i64 0] 80 w34 fun a42 w43 => stP a42 (.int .i64 n40) w43 fun w44 => stP (a42.add 1) (.int .i64 n41) w44 fun w45 => ldI .i64 a42 w45 fun n46 => iteB (decide ((n46 : Int) < 0))
  (K ⟨none, 0, 0⟩ 31 w45)
  (ldI .i64 a42 w45 fun n47 => iteB (decide ((n47 : Int) ≥ 37))
  (K ⟨none, 0, 0⟩ 31 w45)
  (ldI .i64 (a42.add 1) w45 fun n48 => iteB ((n48 : Int) == 0)
  (ldI .i64 a42 w45 fun n49 => newP #[.int .u8 (IntKind.u8.wrap n49)] 5 w45 fun a50 w51 => apP Tryd.prog #[23, 23] 23 [.slice x35.a x35.l x35.c, .slice (some a50) 1 1] w51 fun s53 w52 => next32 (s53, (IntKind.i64.wrap (x36 + 1)), ()) w52)
  (ldI .i64 a42 w45 fun n54 => newP #[.int .u8 (IntKind.u8.wrap (IntKind.i64.wrap (n54 + 64)))] 5 w45 fun a55 w56 => apP Tryd.prog #[23, 23] 23 [.slice x35.a x35.l x35.c, .slice (some a55) 1 1] w56 fun s58 w57 => ldI .i64 (a42.add 1) w57 fun n59 => c_preluderef01_Int n59 w57 fun r60 w61 => apP Tryd.prog #[23, 23] 23 [.slice s58.a s58.l s58.c, .slice r60.a r60.l r60.c] w61 fun s63 w62 => next32 (s63, (IntKind.i64.wrap (x36 + 1)), ()) w62))))
  (K x35 0 w34)) st33.1 st33.2.1) (x25, 0, ()) w24)) st23.1 st23.2.1) (⟨none, 0, 0⟩, 0, ()) w21)

def c_preluderef03_Written (x_0_0 : Int) (x_0_1 : Int) (x_0_2 : Int) (x_0_3 : Int) (x_0_4 : Slc) (w : World) (K : Slc → Int → World → Prop) : Prop := Calls Tryd.prog 26 #[.agg #[.int .i64 x_0_0, .int .i64 x_0_1, .int .i64 x_0_2, .int .i64 x_0_3, .slice x_0_4.a x_0_4.l x_0_4.c]] w (onRet (fun v w' => ∃ (y0 : Slc), ∃ (y1 : Int), v = .tuple #[.slice y0.a y0.l y0.c, .int .i64 y1] ∧ K y0 y1 w'))

theorem sim_preluderef03_Written {x_0_0 : Int} {x_0_1 : Int} {x_0_2 : Int} {x_0_3 : Int} {x_0_4 : Slc} {w : World} {K : Slc → Int → World → Prop} (h : sh_preluderef03_Written c_preluderef03_limits c_preluderef01_Uint c_preluderef01_Int x_0_0 x_0_1 x_0_2 x_0_3 x_0_4 w K) : c_preluderef03_Written x_0_0 x_0_1 x_0_2 x_0_3 x_0_4 w K := by
  have e : sh_preluderef03_Written c_preluderef03_limits c_preluderef01_Uint c_preluderef01_Int x_0_0 x_0_1 x_0_2 x_0_3 x_0_4 w K = shF Tryd.prog 26 ⟨[], [(6, [(4, .sl), (6, (.int .i64))], [1, 5]), (10, [(4, .sl), (7, (.int .i64))], [1])], []⟩ [.agg #[.int .i64 x_0_0, .int .i64 x_0_1, .int .i64 x_0_2, .int .i64 x_0_3, .slice x_0_4.a x_0_4.l x_0_4.c]] w (fun v w' => decT [(false, [.sl]), (false, [(.int .i64)])] v fun s => (fun (y0 : Slc) (y1 : Int) => K y0 y1 w') s.1 s.2.1) := by kernel_rfl
  exact Calls.mono (calls_of _ e h) (onRet_mono (fun _ _ h => by obtain ⟨s, h1, h2⟩ := decT_spec h; exact ⟨s.1, s.2.1, h1, h2⟩))

-- 8 prelude/preluderef03.Encode; callees ['preluderef03_Check', 'preluderef01_Uint', 'preluderef03_Written']
def sh_preluderef03_Encode (c_preluderef03_Check : Slc → World → (Int → Int → World → Prop) → Prop) (c_preluderef01_Uint : Int → World → (Slc → World → Prop) → Prop) (c_preluderef03_Written : Int → Int → Int → Int → Slc → World → (Slc → Int → World → Prop) → Prop) (lib_0 : Slc) (w : World) (K : Slc → Int → World → Prop) : Prop :=
  c_preluderef03_Check lib_0 w fun r1 r2 w3 => iteB ((r2 : Int) != 0)
  (K ⟨none, 0, 0⟩ r2 w3)
  (newP #[.int .u8 80, .int .u8 82, .int .u8 76, .int .u8 49] 5 w3 fun a4 w5 => c_preluderef01_Uint (IntKind.u64.wrap (lib_0.l : Int)) w5 fun r6 w7 => apP Tryd.prog #[23, 23] 23 [.slice (some a4) 4 4, .slice r6.a r6.l r6.c] w7 fun s9 w8 => loopP (σ := Slc × Int × Unit) (fun st11 next10 w12 => (fun (b_13 : Slc) (i_14 : Int) => iteB (decide ((i_14 : Int) < (lib_0.l : Int)))
  (idxP lib_0.a lib_0.l i_14 6 fun a15 => ldStr a15 w12 fun s16 => c_preluderef01_Uint (IntKind.u64.wrap (s16.size : Int)) w12 fun r17 w18 => apP Tryd.prog #[23, 23] 23 [.slice b_13.a b_13.l b_13.c, .slice r17.a r17.l r17.c] w18 fun s20 w19 => idxP lib_0.a lib_0.l i_14 6 fun a21 => ldStr a21 w19 fun s22 => apP Tryd.prog #[23, 9] 23 [.slice s20.a s20.l s20.c, .string s22] w19 fun s24 w23 => idxP lib_0.a lib_0.l i_14 6 fun a25 => ldI .i64 (a25.add 1) w23 fun n26 => ldI .i64 ((a25.add 1).add 1) w23 fun n27 => ldI .i64 ((a25.add 1).add 2) w23 fun n28 => ldI .i64 ((a25.add 1).add 3) w23 fun n29 => ldS ((a25.add 1).add 4) w23 fun s30 => c_preluderef03_Written n26 n27 n28 n29 s30 w23 fun r31 r32 w33 => apP Tryd.prog #[23, 23] 23 [.slice s24.a s24.l s24.c, .slice r31.a r31.l r31.c] w33 fun s35 w34 => next10 (s35, (IntKind.i64.wrap (i_14 + 1)), ()) w34)
  (K b_13 0 w12)) st11.1 st11.2.1) (s9, 0, ()) w8)

def c_preluderef03_Encode (lib_0 : Slc) (w : World) (K : Slc → Int → World → Prop) : Prop := Calls Tryd.prog 8 #[.slice lib_0.a lib_0.l lib_0.c] w (onRet (fun v w' => ∃ (y0 : Slc), ∃ (y1 : Int), v = .tuple #[.slice y0.a y0.l y0.c, .int .i64 y1] ∧ K y0 y1 w'))

theorem sim_preluderef03_Encode {lib_0 : Slc} {w : World} {K : Slc → Int → World → Prop} (h : sh_preluderef03_Encode c_preluderef03_Check c_preluderef01_Uint c_preluderef03_Written lib_0 w K) : c_preluderef03_Encode lib_0 w K := by
  have e : sh_preluderef03_Encode c_preluderef03_Check c_preluderef01_Uint c_preluderef03_Written lib_0 w K = shF Tryd.prog 8 ⟨[], [(7, [(6, .sl), (7, (.int .i64))], [0])], []⟩ [.slice lib_0.a lib_0.l lib_0.c] w (fun v w' => decT [(false, [.sl]), (false, [(.int .i64)])] v fun s => (fun (y0 : Slc) (y1 : Int) => K y0 y1 w') s.1 s.2.1) := by kernel_rfl
  exact Calls.mono (calls_of _ e h) (onRet_mono (fun _ _ h => by obtain ⟨s, h1, h2⟩ := decT_spec h; exact ⟨s.1, s.2.1, h1, h2⟩))

-- 27 prelude/preluderef01.Sum; callees []
def sh_preluderef01_Sum (b_0 : Slc) (w : World) (K : Int → World → Prop) : Prop :=
  loopP (σ := Int × Int × Unit) (fun st2 next1 w3 => (fun (rest_4 : Int) (i_5 : Int) => iteB (decide ((i_5 : Int) < (b_0.l : Int)))
  (loopP (σ := Int × Int × Unit) (fun st7 next6 w8 => (fun (rest_9 : Int) (k_10 : Int) => iteB (decide ((k_10 : Int) < 8))
  (idxP b_0.a b_0.l i_5 1 fun a11 => ldI .u8 a11 w8 fun n12 => shP k_10 (shP 1 (iteB (((bAnd .u32 (IntKind.u32.wrap (Int.fdiv n12 (2 ^ (min (Int.toNat k_10) (IntKind.bits .u8))))) 1) : Int) != (bAnd .u32 rest_9 1))
  (next6 ((bXor .u32 (Int.fdiv rest_9 (2 ^ (min (Int.toNat 1) (IntKind.bits .u32)))) 3988292384), (IntKind.i64.wrap (k_10 + 1)), ()) w8)
  (next6 ((Int.fdiv rest_9 (2 ^ (min (Int.toNat 1) (IntKind.bits .u32)))), (IntKind.i64.wrap (k_10 + 1)), ()) w8))))
  (next1 (rest_9, (IntKind.i64.wrap (i_5 + 1)), ()) w8)) st7.1 st7.2.1) (rest_4, 0, ()) w3)
  (K (bXor .u32 (IntKind.max .u32) rest_4) w3)) st2.1 st2.2.1) (4294967295, 0, ()) w

def c_preluderef01_Sum (b_0 : Slc) (w : World) (K : Int → World → Prop) : Prop := Calls Tryd.prog 27 #[.slice b_0.a b_0.l b_0.c] w (onRet (fun v w' => ∃ (y0 : Int), v = .int .u32 y0 ∧ K y0 w'))

theorem sim_preluderef01_Sum {b_0 : Slc} {w : World} {K : Int → World → Prop} (h : sh_preluderef01_Sum b_0 w K) : c_preluderef01_Sum b_0 w K := by
  have e : sh_preluderef01_Sum b_0 w K = shF Tryd.prog 27 ⟨[], [(3, [(3, (.int .u32)), (4, (.int .i64))], [0]), (6, [(3, (.int .u32)), (5, (.int .i64))], [0, 4])], []⟩ [.slice b_0.a b_0.l b_0.c] w (fun v w' => decV (.int .u32) v fun y0 => K y0 w') := by kernel_rfl
  exact Calls.mono (calls_of _ e h) (onRet_mono (fun _ _ h => decV_spec h))

-- 9 prelude/preluderef03.Digest; callees ['preluderef03_Encode', 'preluderef01_Sum']
def sh_preluderef03_Digest (c_preluderef03_Encode : Slc → World → (Slc → Int → World → Prop) → Prop) (c_preluderef01_Sum : Slc → World → (Int → World → Prop) → Prop) (lib_0 : Slc) (w : World) (K : Int → Int → World → Prop) : Prop :=
  c_preluderef03_Encode lib_0 w fun r1 r2 w3 => iteB ((r2 : Int) != 0)
  (K 0 r2 w3)
  (c_preluderef01_Sum r1 w3 fun r4 w5 => K r4 0 w5)

def c_preluderef03_Digest (lib_0 : Slc) (w : World) (K : Int → Int → World → Prop) : Prop := Calls Tryd.prog 9 #[.slice lib_0.a lib_0.l lib_0.c] w (onRet (fun v w' => ∃ (y0 : Int), ∃ (y1 : Int), v = .tuple #[.int .u32 y0, .int .i64 y1] ∧ K y0 y1 w'))

theorem sim_preluderef03_Digest {lib_0 : Slc} {w : World} {K : Int → Int → World → Prop} (h : sh_preluderef03_Digest c_preluderef03_Encode c_preluderef01_Sum lib_0 w K) : c_preluderef03_Digest lib_0 w K := by
  have e : sh_preluderef03_Digest c_preluderef03_Encode c_preluderef01_Sum lib_0 w K = shF Tryd.prog 9 ⟨[], [], []⟩ [.slice lib_0.a lib_0.l lib_0.c] w (fun v w' => decT [(false, [(.int .u32)]), (false, [(.int .i64)])] v fun s => (fun (y0 : Int) (y1 : Int) => K y0 y1 w') s.1 s.2.1) := by kernel_rfl
  exact Calls.mono (calls_of _ e h) (onRet_mono (fun _ _ h => by obtain ⟨s, h1, h2⟩ := decT_spec h; exact ⟨s.1, s.2.1, h1, h2⟩))

-- 10 prelude/preludelaw03.sameBytes; callees []
def sh_preludelaw03_sameBytes (a_0 : Slc) (b_1 : Slc) (w : World) (K : Bool → World → Prop) : Prop :=
  iteB (((a_0.l : Int) : Int) != (b_1.l : Int))
  (K false w)
  (loopP (σ := Int × Unit) (fun st2 next1 w3 => (fun (i_4 : Int) => iteB (decide ((i_4 : Int) < (a_0.l : Int)))
  (idxP a_0.a a_0.l i_4 1 fun a5 => ldI .u8 a5 w3.drew fun n6 => idxP b_1.a b_1.l i_4 1 fun a7 => ldI .u8 a7 w3.drew fun n8 => iteB ((n6 : Int) != n8)
  (K false w3.drew)
  (next1 ((IntKind.i64.wrap (i_4 + 1)), ()) w3.drew))
  (K true w3)) st2.1) (0, ()) w)

def c_preludelaw03_sameBytes (a_0 : Slc) (b_1 : Slc) (w : World) (K : Bool → World → Prop) : Prop := Calls Tryd.prog 10 #[.slice a_0.a a_0.l a_0.c, .slice b_1.a b_1.l b_1.c] w (onRet (fun v w' => ∃ (y0 : Bool), v = .bool y0 ∧ K y0 w'))

theorem sim_preludelaw03_sameBytes {a_0 : Slc} {b_1 : Slc} {w : World} {K : Bool → World → Prop} (h : sh_preludelaw03_sameBytes a_0 b_1 w K) : c_preludelaw03_sameBytes a_0 b_1 w K := by
  have e : sh_preludelaw03_sameBytes a_0 b_1 w K = shF Tryd.prog 10 ⟨[(6, .of [0, 1, 2, 3, 4, 5, 6, 7, 8])], [(4, [(5, (.int .i64))], [0, 1])], []⟩ [.slice a_0.a a_0.l a_0.c, .slice b_1.a b_1.l b_1.c] w (fun v w' => decV .b v fun y0 => K y0 w') := by kernel_rfl
  exact Calls.mono (calls_of _ e h) (onRet_mono (fun _ _ h => decV_spec h))

-- 28 prelude/preludelaw03.sameProgram; callees []
def sh_preludelaw03_sameProgram (a_0_0 : Int) (a_0_1 : Int) (a_0_2 : Int) (a_0_3 : Int) (a_0_4 : Slc) (b_1_0 : Int) (b_1_1 : Int) (b_1_2 : Int) (b_1_3 : Int) (b_1_4 : Slc) (w : World) (K : Bool → World → Prop) : Prop :=
  newP #[.int .i64 a_0_0, .int .i64 a_0_1, .int .i64 a_0_2, .int .i64 a_0_3, .slice a_0_4.a a_0_4.l a_0_4.c] 41 w fun a1 w2 => newP #[.int .i64 b_1_0, .int .i64 b_1_1, .int .i64 b_1_2, .int .i64 b_1_3, .slice b_1_4.a b_1_4.l b_1_4.c] 41 w2 fun a3 w4 => ldI .i64 a1 w4 fun n5 => ldI .i64 a3 w4 fun n6 => iteB ((n5 : Int) != n6)
  (K false w4)
  (ldI .i64 (a1.add 1) w4 fun n7 => ldI .i64 (a3.add 1) w4 fun n8 => iteB ((n7 : Int) != n8)
  (K false w4)
  (ldI .i64 (a1.add 2) w4 fun n9 => ldI .i64 (a3.add 2) w4 fun n10 => iteB ((n9 : Int) != n10)
  (K false w4)
  (ldI .i64 (a1.add 3) w4 fun n11 => ldI .i64 (a3.add 3) w4 fun n12 => iteB ((n11 : Int) != n12)
  (K false w4)
  (ldS (a1.add 4) w4 fun s13 => ldS (a3.add 4) w4 fun s14 => iteB (((s13.l : Int) : Int) != (s14.l : Int))
  (K false w4)
  (loopP (σ := Int × Unit) (fun st16 next15 w17 => (fun (i_18 : Int) => ldS (a1.add 4) w17 fun s19 => iteB (decide ((i_18 : Int) < (s19.l : Int)))
  (ldS (a1.add 4) w17.drew fun s20 => idxP s20.a s20.l i_18 2 fun a21 => ldI .i64 a21 w17.drew fun n22 => ldI .i64 (a21.add 1) w17.drew fun n23 => ldS (a3.add 4) w17.drew fun s24 => idxP s24.a s24.l i_18 2 fun a25 => ldI .i64 a25 w17.drew fun n26 => ldI .i64 (a25.add 1) w17.drew fun n27 => (∃ (r28 : Bool), ∃ w29, (do eqGuard .neq 80 (.tmp 52) (.tmp 57) (.agg #[.int .i64 n22, .int .i64 n23]) (.agg #[.int .i64 n26, .int .i64 n27]); binOp .neq 80 (.agg #[.int .i64 n22, .int .i64 n23]) (.agg #[.int .i64 n26, .int .i64 n27])).run Tryd.prog w17.drew = .ok (.bool r28) w29 ∧ (iteB r28
  (K false w29)
  (next15 ((IntKind.i64.wrap (i_18 + 1)), ()) w29))))
  (K true w17)) st16.1) (0, ()) w4)))))

def c_preludelaw03_sameProgram (a_0_0 : Int) (a_0_1 : Int) (a_0_2 : Int) (a_0_3 : Int) (a_0_4 : Slc) (b_1_0 : Int) (b_1_1 : Int) (b_1_2 : Int) (b_1_3 : Int) (b_1_4 : Slc) (w : World) (K : Bool → World → Prop) : Prop := Calls Tryd.prog 28 #[.agg #[.int .i64 a_0_0, .int .i64 a_0_1, .int .i64 a_0_2, .int .i64 a_0_3, .slice a_0_4.a a_0_4.l a_0_4.c], .agg #[.int .i64 b_1_0, .int .i64 b_1_1, .int .i64 b_1_2, .int .i64 b_1_3, .slice b_1_4.a b_1_4.l b_1_4.c]] w (onRet (fun v w' => ∃ (y0 : Bool), v = .bool y0 ∧ K y0 w'))

theorem sim_preludelaw03_sameProgram {a_0_0 : Int} {a_0_1 : Int} {a_0_2 : Int} {a_0_3 : Int} {a_0_4 : Slc} {b_1_0 : Int} {b_1_1 : Int} {b_1_2 : Int} {b_1_3 : Int} {b_1_4 : Slc} {w : World} {K : Bool → World → Prop} (h : sh_preludelaw03_sameProgram a_0_0 a_0_1 a_0_2 a_0_3 a_0_4 b_1_0 b_1_1 b_1_2 b_1_3 b_1_4 w K) : c_preludelaw03_sameProgram a_0_0 a_0_1 a_0_2 a_0_3 a_0_4 b_1_0 b_1_1 b_1_2 b_1_3 b_1_4 w K := by
  have e : sh_preludelaw03_sameProgram a_0_0 a_0_1 a_0_2 a_0_3 a_0_4 b_1_0 b_1_1 b_1_2 b_1_3 b_1_4 w K = shF Tryd.prog 28 ⟨[(6, .of [0, 1, 2, 3, 4, 5, 6, 7, 8, 9, 10])], [(4, [(5, (.int .i64))], [2, 3])], []⟩ [.agg #[.int .i64 a_0_0, .int .i64 a_0_1, .int .i64 a_0_2, .int .i64 a_0_3, .slice a_0_4.a a_0_4.l a_0_4.c], .agg #[.int .i64 b_1_0, .int .i64 b_1_1, .int .i64 b_1_2, .int .i64 b_1_3, .slice b_1_4.a b_1_4.l b_1_4.c]] w (fun v w' => decV .b v fun y0 => K y0 w') := by kernel_rfl
  exact Calls.mono (calls_of _ e h) (onRet_mono (fun _ _ h => decV_spec h))

-- 11 prelude/preludelaw03.sameLibrary; callees ['preludelaw03_sameProgram']
def sh_preludelaw03_sameLibrary (c_preludelaw03_sameProgram : Int → Int → Int → Int → Slc → Int → Int → Int → Int → Slc → World → (Bool → World → Prop) → Prop) (a_0 : Slc) (b_1 : Slc) (w : World) (K : Bool → World → Prop) : Prop :=
  iteB (((a_0.l : Int) : Int) != (b_1.l : Int))
  (K false w)
  (loopP (σ := Int × Unit) (fun st2 next1 w3 => (fun (i_4 : Int) => iteB (decide ((i_4 : Int) < (a_0.l : Int)))
  (idxP a_0.a a_0.l i_4 6 fun a5 => ldStr a5 w3.drew fun s6 => idxP b_1.a b_1.l i_4 6 fun a7 => ldStr a7 w3.drew fun s8 => iteB (!((s6).toList == (s8).toList))
  (K false w3.drew)
  (idxP a_0.a a_0.l i_4 6 fun a9 => ldI .i64 (a9.add 1) w3.drew fun n10 => ldI .i64 ((a9.add 1).add 1) w3.drew fun n11 => ldI .i64 ((a9.add 1).add 2) w3.drew fun n12 => ldI .i64 ((a9.add 1).add 3) w3.drew fun n13 => ldS ((a9.add 1).add 4) w3.drew fun s14 => idxP b_1.a b_1.l i_4 6 fun a15 => ldI .i64 (a15.add 1) w3.drew fun n16 => ldI .i64 ((a15.add 1).add 1) w3.drew fun n17 => ldI .i64 ((a15.add 1).add 2) w3.drew fun n18 => ldI .i64 ((a15.add 1).add 3) w3.drew fun n19 => ldS ((a15.add 1).add 4) w3.drew fun s20 => c_preludelaw03_sameProgram n10 n11 n12 n13 s14 n16 n17 n18 n19 s20 w3.drew fun r21 w22 => iteB (!r21)
  (K false w22)
  (next1 ((IntKind.i64.wrap (i_4 + 1)), ()) w22)))
  (K true w3)) st2.1) (0, ()) w)

def c_preludelaw03_sameLibrary (a_0 : Slc) (b_1 : Slc) (w : World) (K : Bool → World → Prop) : Prop := Calls Tryd.prog 11 #[.slice a_0.a a_0.l a_0.c, .slice b_1.a b_1.l b_1.c] w (onRet (fun v w' => ∃ (y0 : Bool), v = .bool y0 ∧ K y0 w'))

theorem sim_preludelaw03_sameLibrary {a_0 : Slc} {b_1 : Slc} {w : World} {K : Bool → World → Prop} (h : sh_preludelaw03_sameLibrary c_preludelaw03_sameProgram a_0 b_1 w K) : c_preludelaw03_sameLibrary a_0 b_1 w K := by
  have e : sh_preludelaw03_sameLibrary c_preludelaw03_sameProgram a_0 b_1 w K = shF Tryd.prog 11 ⟨[(6, .of [0, 1, 2, 3, 4, 5, 6, 7, 8, 9, 10, 11, 12, 13, 14, 15, 16, 17, 18, 19, 20, 21, 22, 23, 24])], [(4, [(5, (.int .i64))], [0, 1])], []⟩ [.slice a_0.a a_0.l a_0.c, .slice b_1.a b_1.l b_1.c] w (fun v w' => decV .b v fun y0 => K y0 w') := by kernel_rfl
  exact Calls.mono (calls_of _ e h) (onRet_mono (fun _ _ h => decV_spec h))

-- 29 prelude/codec.Read; callees ['slices_Clone_byte_byte']
def sh_codec_Read (c_slices_Clone_byte_byte : Slc → World → (Slc → World → Prop) → Prop) (b_0 : Slc) (w : World) (K : Option Addr → World → Prop) : Prop :=
  c_slices_Clone_byte_byte b_0 w fun r1 w2 => newP #[.slice r1.a r1.l r1.c, .int .i64 0, .int .i64 0] 100 w2 fun a3 w4 => K (some a3) w4

def c_codec_Read (b_0 : Slc) (w : World) (K : Option Addr → World → Prop) : Prop := Calls Tryd.prog 29 #[.slice b_0.a b_0.l b_0.c] w (onRet (fun v w' => ∃ (y0 : Option Addr), v = .pointer y0 ∧ K y0 w'))

theorem sim_codec_Read {b_0 : Slc} {w : World} {K : Option Addr → World → Prop} (h : sh_codec_Read c_slices_Clone_byte_byte b_0 w K) : c_codec_Read b_0 w K := by
  have e : sh_codec_Read c_slices_Clone_byte_byte b_0 w K = shF Tryd.prog 29 ⟨[], [], []⟩ [.slice b_0.a b_0.l b_0.c] w (fun v w' => decV .ptr v fun y0 => K y0 w') := by kernel_rfl
  exact Calls.mono (calls_of _ e h) (onRet_mono (fun _ _ h => decV_spec h))

-- 30 (*prelude/codec.Reader).Raw; callees ['slices_Clone_byte_byte']
def sh_codec_Reader_Raw (c_slices_Clone_byte_byte : Slc → World → (Slc → World → Prop) → Prop) (r_0 : Option Addr) (n_1 : Int) (w : World) (K : Slc → World → Prop) : Prop :=
  nnP r_0 fun a1 => ldI .i64 (a1.add 2) w fun n2 => iteB ((n2 : Int) != 0)
  (K ⟨none, 0, 0⟩ w)
  (iteB (decide ((n_1 : Int) < 0))
  (nnP r_0 fun a3 => stP (a3.add 2) (.int .i64 11) w fun w4 => K ⟨none, 0, 0⟩ w4)
  (nnP r_0 fun a5 => ldS a5 w.drew fun s6 => nnP r_0 fun a7 => ldI .i64 (a7.add 1) w.drew fun n8 => iteB (decide ((n_1 : Int) > (IntKind.i64.wrap ((s6.l : Int) - n8))))
  (nnP r_0 fun a9 => stP (a9.add 2) (.int .i64 10) w.drew fun w10 => K ⟨none, 0, 0⟩ w10)
  (nnP r_0 fun a11 => ldI .i64 (a11.add 1) w.drew fun n12 => nnP r_0 fun a13 => stP (a13.add 1) (.int .i64 (IntKind.i64.wrap (n12 + n_1))) w.drew fun w14 => nnP r_0 fun a15 => ldS a15 w14.drew fun s16 => nnP r_0 fun a17 => ldI .i64 (a17.add 1) w14.drew fun n18 => nnP r_0 fun a19 => ldI .i64 (a19.add 1) w14.drew fun n20 => slP s16.a s16.l s16.c (some (IntKind.i64.wrap (n18 - n_1))) (some n20) 1 fun p21 l22 c23 => c_slices_Clone_byte_byte ⟨p21, l22, c23⟩ w14.drew fun r24 w25 => K r24 w25)))

def c_codec_Reader_Raw (r_0 : Option Addr) (n_1 : Int) (w : World) (K : Slc → World → Prop) : Prop := Calls Tryd.prog 30 #[.pointer r_0, .int .i64 n_1] w (onRet (fun v w' => ∃ (y0 : Slc), v = .slice y0.a y0.l y0.c ∧ K y0 w'))

theorem sim_codec_Reader_Raw {r_0 : Option Addr} {n_1 : Int} {w : World} {K : Slc → World → Prop} (h : sh_codec_Reader_Raw c_slices_Clone_byte_byte r_0 n_1 w K) : c_codec_Reader_Raw r_0 n_1 w K := by
  have e : sh_codec_Reader_Raw c_slices_Clone_byte_byte r_0 n_1 w K = shF Tryd.prog 30 ⟨[(6, .of [0, 1, 2, 3, 4, 5, 6, 7, 8, 9, 10, 11, 12]), (10, .of [0, 1, 2, 3, 4, 5, 6, 7, 8, 9, 10, 11, 12, 13, 14, 15, 16])], [], []⟩ [.pointer r_0, .int .i64 n_1] w (fun v w' => decV .sl v fun y0 => K y0 w') := by kernel_rfl
  exact Calls.mono (calls_of _ e h) (onRet_mono (fun _ _ h => decV_spec h))

-- 31 (*prelude/codec.Reader).Err; callees []
def sh_codec_Reader_Err (r_0 : Option Addr) (w : World) (K : Int → World → Prop) : Prop :=
  nnP r_0 fun a1 => ldI .i64 (a1.add 2) w fun n2 => K n2 w

def c_codec_Reader_Err (r_0 : Option Addr) (w : World) (K : Int → World → Prop) : Prop := Calls Tryd.prog 31 #[.pointer r_0] w (onRet (fun v w' => ∃ (y0 : Int), v = .int .i64 y0 ∧ K y0 w'))

theorem sim_codec_Reader_Err {r_0 : Option Addr} {w : World} {K : Int → World → Prop} (h : sh_codec_Reader_Err r_0 w K) : c_codec_Reader_Err r_0 w K := by
  have e : sh_codec_Reader_Err r_0 w K = shF Tryd.prog 31 ⟨[], [], []⟩ [.pointer r_0] w (fun v w' => decV (.int .i64) v fun y0 => K y0 w') := by kernel_rfl
  exact Calls.mono (calls_of _ e h) (onRet_mono (fun _ _ h => decV_spec h))

-- 32 (*prelude/codec.Reader).Fail; callees []
def sh_codec_Reader_Fail (r_0 : Option Addr) (e_1 : Int) (w : World) (K : World → Prop) : Prop :=
  nnP r_0 fun a1 => ldI .i64 (a1.add 2) w fun n2 => iteB ((n2 : Int) == 0)
  (nnP r_0 fun a3 => stP (a3.add 2) (.int .i64 e_1) w fun w4 => K w4)
  (K w)

def c_codec_Reader_Fail (r_0 : Option Addr) (e_1 : Int) (w : World) (K : World → Prop) : Prop := Calls Tryd.prog 32 #[.pointer r_0, .int .i64 e_1] w (onRet (fun v w' => v = .tuple #[] ∧ K w'))

theorem sim_codec_Reader_Fail {r_0 : Option Addr} {e_1 : Int} {w : World} {K : World → Prop} (h : sh_codec_Reader_Fail r_0 e_1 w K) : c_codec_Reader_Fail r_0 e_1 w K := by
  have e : sh_codec_Reader_Fail r_0 e_1 w K = shF Tryd.prog 32 ⟨[], [], []⟩ [.pointer r_0, .int .i64 e_1] w (fun v w' => decU v (K w')) := by kernel_rfl
  exact Calls.mono (calls_of _ e h) (onRet_mono (fun _ _ h => decU_spec h))

-- 53 (*prelude/codec.Reader).uint; callees []
def sh_codec_Reader_uint (r_0 : Option Addr) (at_1 : Int) (w : World) (K : Int → Int → Int → World → Prop) : Prop :=
  loopP (σ := Int × Int × Unit) (fun st2 next1 w3 => (fun (n_4 : Int) (i_5 : Int) => nnP r_0 fun a6 => ldS a6 w3 fun s7 => iteB (decide (((IntKind.i64.wrap (at_1 + i_5)) : Int) ≥ (s7.l : Int)))
  (K 0 at_1 10 w3)
  (nnP r_0 fun a8 => ldS a8 w3 fun s9 => idxP s9.a s9.l (IntKind.i64.wrap (at_1 + i_5)) 1 fun a10 => ldI .u8 a10 w3 fun n11 => iteB ((i_5 : Int) == 9)
  (iteB (decide ((n11 : Int) > 1))
  (K 0 at_1 11 w3)
  (iteB (decide ((i_5 : Int) > 0))
  (iteB ((n11 : Int) == 0)
  (K 0 at_1 11 w3)
  (shP (IntKind.i64.wrap (7 * i_5)) (iteB (decide ((n11 : Int) < 128))
  (K (bOr .u64 n_4 (IntKind.u64.wrap ((IntKind.u64.wrap (bAnd .u8 n11 127)) * 2 ^ (min (Int.toNat (IntKind.i64.wrap (7 * i_5))) (IntKind.bits .u64))))) (IntKind.i64.wrap ((IntKind.i64.wrap (at_1 + i_5)) + 1)) 0 w3)
  (next1 ((bOr .u64 n_4 (IntKind.u64.wrap ((IntKind.u64.wrap (bAnd .u8 n11 127)) * 2 ^ (min (Int.toNat (IntKind.i64.wrap (7 * i_5))) (IntKind.bits .u64))))), (IntKind.i64.wrap (i_5 + 1)), ()) w3))))
  (shP (IntKind.i64.wrap (7 * i_5)) (iteB (decide ((n11 : Int) < 128))
  (K (bOr .u64 n_4 (IntKind.u64.wrap ((IntKind.u64.wrap (bAnd .u8 n11 127)) * 2 ^ (min (Int.toNat (IntKind.i64.wrap (7 * i_5))) (IntKind.bits .u64))))) (IntKind.i64.wrap ((IntKind.i64.wrap (at_1 + i_5)) + 1)) 0 w3)
  (next1 ((bOr .u64 n_4 (IntKind.u64.wrap ((IntKind.u64.wrap (bAnd .u8 n11 127)) * 2 ^ (min (Int.toNat (IntKind.i64.wrap (7 * i_5))) (IntKind.bits .u64))))), (IntKind.i64.wrap (i_5 + 1)), ()) w3)))))
  (iteB (decide ((i_5 : Int) > 0))
  (iteB ((n11 : Int) == 0)
  (K 0 at_1 11 w3)
  (shP (IntKind.i64.wrap (7 * i_5)) (iteB (decide ((n11 : Int) < 128))
  (K (bOr .u64 n_4 (IntKind.u64.wrap ((IntKind.u64.wrap (bAnd .u8 n11 127)) * 2 ^ (min (Int.toNat (IntKind.i64.wrap (7 * i_5))) (IntKind.bits .u64))))) (IntKind.i64.wrap ((IntKind.i64.wrap (at_1 + i_5)) + 1)) 0 w3)
  (next1 ((bOr .u64 n_4 (IntKind.u64.wrap ((IntKind.u64.wrap (bAnd .u8 n11 127)) * 2 ^ (min (Int.toNat (IntKind.i64.wrap (7 * i_5))) (IntKind.bits .u64))))), (IntKind.i64.wrap (i_5 + 1)), ()) w3))))
  (shP (IntKind.i64.wrap (7 * i_5)) (iteB (decide ((n11 : Int) < 128))
  (K (bOr .u64 n_4 (IntKind.u64.wrap ((IntKind.u64.wrap (bAnd .u8 n11 127)) * 2 ^ (min (Int.toNat (IntKind.i64.wrap (7 * i_5))) (IntKind.bits .u64))))) (IntKind.i64.wrap ((IntKind.i64.wrap (at_1 + i_5)) + 1)) 0 w3)
  (next1 ((bOr .u64 n_4 (IntKind.u64.wrap ((IntKind.u64.wrap (bAnd .u8 n11 127)) * 2 ^ (min (Int.toNat (IntKind.i64.wrap (7 * i_5))) (IntKind.bits .u64))))), (IntKind.i64.wrap (i_5 + 1)), ()) w3)))))) st2.1 st2.2.1) (0, 0, ()) w

def c_codec_Reader_uint (r_0 : Option Addr) (at_1 : Int) (w : World) (K : Int → Int → Int → World → Prop) : Prop := Calls Tryd.prog 53 #[.pointer r_0, .int .i64 at_1] w (onRet (fun v w' => ∃ (y0 : Int), ∃ (y1 : Int), ∃ (y2 : Int), v = .tuple #[.int .u64 y0, .int .i64 y1, .int .i64 y2] ∧ K y0 y1 y2 w'))

theorem sim_codec_Reader_uint {r_0 : Option Addr} {at_1 : Int} {w : World} {K : Int → Int → Int → World → Prop} (h : sh_codec_Reader_uint r_0 at_1 w K) : c_codec_Reader_uint r_0 at_1 w K := by
  have e : sh_codec_Reader_uint r_0 at_1 w K = shF Tryd.prog 53 ⟨[], [(4, [(7, (.int .u64)), (8, (.int .i64))], [0, 1])], []⟩ [.pointer r_0, .int .i64 at_1] w (fun v w' => decT [(false, [(.int .u64)]), (false, [(.int .i64)]), (false, [(.int .i64)])] v fun s => (fun (y0 : Int) (y1 : Int) (y2 : Int) => K y0 y1 y2 w') s.1 s.2.1 s.2.2.1) := by kernel_rfl
  exact Calls.mono (calls_of _ e h) (onRet_mono (fun _ _ h => by obtain ⟨s, h1, h2⟩ := decT_spec h; exact ⟨s.1, s.2.1, s.2.2.1, h1, h2⟩))

-- 33 (*prelude/codec.Reader).Upto; callees ['codec_Reader_uint']
def sh_codec_Reader_Upto (c_codec_Reader_uint : Option Addr → Int → World → (Int → Int → Int → World → Prop) → Prop) (r_0 : Option Addr) (most_1 : Int) (w : World) (K : Int → World → Prop) : Prop :=
  nnP r_0 fun a1 => ldI .i64 (a1.add 2) w fun n2 => iteB ((n2 : Int) != 0)
  (K 0 w)
  (nnP r_0 fun a3 => ldI .i64 (a3.add 1) w fun n4 => c_codec_Reader_uint r_0 n4 w fun r5 r6 r7 w8 => iteB ((r7 : Int) == 0)
  (iteB (decide ((r5 : Int) > most_1))
  (iteB ((12 : Int) != 0)
  (nnP r_0 fun a9 => stP (a9.add 2) (.int .i64 12) w8 fun w10 => K 0 w10)
  (nnP r_0 fun a11 => stP (a11.add 1) (.int .i64 r6) w8 fun w12 => K r5 w12))
  (iteB ((r7 : Int) != 0)
  (nnP r_0 fun a13 => stP (a13.add 2) (.int .i64 r7) w8 fun w14 => K 0 w14)
  (nnP r_0 fun a15 => stP (a15.add 1) (.int .i64 r6) w8 fun w16 => K r5 w16)))
  (iteB ((r7 : Int) != 0)
  (nnP r_0 fun a17 => stP (a17.add 2) (.int .i64 r7) w8 fun w18 => K 0 w18)
  (nnP r_0 fun a19 => stP (a19.add 1) (.int .i64 r6) w8 fun w20 => K r5 w20)))

def c_codec_Reader_Upto (r_0 : Option Addr) (most_1 : Int) (w : World) (K : Int → World → Prop) : Prop := Calls Tryd.prog 33 #[.pointer r_0, .int .u64 most_1] w (onRet (fun v w' => ∃ (y0 : Int), v = .int .u64 y0 ∧ K y0 w'))

theorem sim_codec_Reader_Upto {r_0 : Option Addr} {most_1 : Int} {w : World} {K : Int → World → Prop} (h : sh_codec_Reader_Upto c_codec_Reader_uint r_0 most_1 w K) : c_codec_Reader_Upto r_0 most_1 w K := by
  have e : sh_codec_Reader_Upto c_codec_Reader_uint r_0 most_1 w K = shF Tryd.prog 33 ⟨[], [], []⟩ [.pointer r_0, .int .u64 most_1] w (fun v w' => decV (.int .u64) v fun y0 => K y0 w') := by kernel_rfl
  exact Calls.mono (calls_of _ e h) (onRet_mono (fun _ _ h => decV_spec h))

-- 34 (*prelude/codec.Reader).Bytes; callees ['codec_Reader_uint', 'slices_Clone_byte_byte']
def sh_codec_Reader_Bytes (c_codec_Reader_uint : Option Addr → Int → World → (Int → Int → Int → World → Prop) → Prop) (c_slices_Clone_byte_byte : Slc → World → (Slc → World → Prop) → Prop) (x_0 : Option Addr) (x_1 : Int) (w : World) (K : Slc → World → Prop) : Prop :=
  nnP x_0 fun a1 => ldI .i64 (a1.add 2) w fun n2 => iteB ((n2 : Int) != 0)
  (K ⟨none, 0, 0⟩ w)
  (nnP x_0 fun a3 => ldI .i64 (a3.add 1) w fun n4 => c_codec_Reader_uint x_0 n4 w fun r5 r6 r7 w8 => iteB ((r7 : Int) != 0)
  (iteB ((r7 : Int) != 0)
  (nnP x_0 fun a9 => stP (a9.add 2) (.int .i64 r7) w8 fun w10 => K ⟨none, 0, 0⟩ w10)
  (nnP x_0 fun a11 => stP (a11.add 1) (.int .i64 (IntKind.i64.wrap (r6 + (IntKind.i64.wrap r5)))) w8 fun w12 => nnP x_0 fun a13 => ldS a13 w12.drew fun s14 => nnP x_0 fun a15 => ldI .i64 (a15.add 1) w12.drew fun n16 => slP s14.a s14.l s14.c (some r6) (some n16) 1 fun p17 l18 c19 => c_slices_Clone_byte_byte ⟨p17, l18, c19⟩ w12.drew fun r20 w21 => K r20 w21))
  (iteB (decide ((x_1 : Int) < 0))
  (iteB ((12 : Int) != 0)
  (nnP x_0 fun a22 => stP (a22.add 2) (.int .i64 12) w8 fun w23 => K ⟨none, 0, 0⟩ w23)
  (nnP x_0 fun a24 => stP (a24.add 1) (.int .i64 (IntKind.i64.wrap (r6 + (IntKind.i64.wrap r5)))) w8 fun w25 => nnP x_0 fun a26 => ldS a26 w25.drew fun s27 => nnP x_0 fun a28 => ldI .i64 (a28.add 1) w25.drew fun n29 => slP s27.a s27.l s27.c (some r6) (some n29) 1 fun p30 l31 c32 => c_slices_Clone_byte_byte ⟨p30, l31, c32⟩ w25.drew fun r33 w34 => K r33 w34))
  (iteB (decide ((r5 : Int) > (IntKind.u64.wrap x_1)))
  (iteB ((12 : Int) != 0)
  (nnP x_0 fun a35 => stP (a35.add 2) (.int .i64 12) w8 fun w36 => K ⟨none, 0, 0⟩ w36)
  (nnP x_0 fun a37 => stP (a37.add 1) (.int .i64 (IntKind.i64.wrap (r6 + (IntKind.i64.wrap r5)))) w8 fun w38 => nnP x_0 fun a39 => ldS a39 w38.drew fun s40 => nnP x_0 fun a41 => ldI .i64 (a41.add 1) w38.drew fun n42 => slP s40.a s40.l s40.c (some r6) (some n42) 1 fun p43 l44 c45 => c_slices_Clone_byte_byte ⟨p43, l44, c45⟩ w38.drew fun r46 w47 => K r46 w47))
  (nnP x_0 fun a48 => ldS a48 w8 fun s49 => iteB (decide ((r5 : Int) > (IntKind.u64.wrap (IntKind.i64.wrap ((s49.l : Int) - r6)))))
  (iteB ((10 : Int) != 0)
  (nnP x_0 fun a50 => stP (a50.add 2) (.int .i64 10) w8 fun w51 => K ⟨none, 0, 0⟩ w51)
  (nnP x_0 fun a52 => stP (a52.add 1) (.int .i64 (IntKind.i64.wrap (r6 + (IntKind.i64.wrap r5)))) w8 fun w53 => nnP x_0 fun a54 => ldS a54 w53.drew fun s55 => nnP x_0 fun a56 => ldI .i64 (a56.add 1) w53.drew fun n57 => slP s55.a s55.l s55.c (some r6) (some n57) 1 fun p58 l59 c60 => c_slices_Clone_byte_byte ⟨p58, l59, c60⟩ w53.drew fun r61 w62 => K r61 w62))
  (iteB ((r7 : Int) != 0)
  (nnP x_0 fun a63 => stP (a63.add 2) (.int .i64 r7) w8 fun w64 => K ⟨none, 0, 0⟩ w64)
  (nnP x_0 fun a65 => stP (a65.add 1) (.int .i64 (IntKind.i64.wrap (r6 + (IntKind.i64.wrap r5)))) w8 fun w66 => nnP x_0 fun a67 => ldS a67 w66.drew fun s68 => nnP x_0 fun a69 => ldI .i64 (a69.add 1) w66.drew fun n70 => slP s68.a s68.l s68.c (some r6) (some n70) 1 fun p71 l72 c73 => c_slices_Clone_byte_byte ⟨p71, l72, c73⟩ w66.drew fun r74 w75 => K r74 w75))))))

def c_codec_Reader_Bytes (x_0 : Option Addr) (x_1 : Int) (w : World) (K : Slc → World → Prop) : Prop := Calls Tryd.prog 34 #[.pointer x_0, .int .i64 x_1] w (onRet (fun v w' => ∃ (y0 : Slc), v = .slice y0.a y0.l y0.c ∧ K y0 w'))

theorem sim_codec_Reader_Bytes {x_0 : Option Addr} {x_1 : Int} {w : World} {K : Slc → World → Prop} (h : sh_codec_Reader_Bytes c_codec_Reader_uint c_slices_Clone_byte_byte x_0 x_1 w K) : c_codec_Reader_Bytes x_0 x_1 w K := by
  have e : sh_codec_Reader_Bytes c_codec_Reader_uint c_slices_Clone_byte_byte x_0 x_1 w K = shF Tryd.prog 34 ⟨[(13, .of [0, 1, 2, 3, 4, 5, 6, 7, 8, 9, 10, 11])], [], []⟩ [.pointer x_0, .int .i64 x_1] w (fun v w' => decV .sl v fun y0 => K y0 w') := by kernel_rfl
  exact Calls.mono (calls_of _ e h) (onRet_mono (fun _ _ h => decV_spec h))

-- 54 (*prelude/codec.Reader).Byte; callees ['codec_Reader_Raw']
def sh_codec_Reader_Byte (c_codec_Reader_Raw : Option Addr → Int → World → (Slc → World → Prop) → Prop) (r_0 : Option Addr) (w : World) (K : Int → World → Prop) : Prop :=
  c_codec_Reader_Raw r_0 1 w fun r1 w2 => iteB (((r1.l : Int) : Int) == 0)
  (K 0 w2)
  (idxP r1.a r1.l 0 1 fun a3 => ldI .u8 a3 w2 fun n4 => K n4 w2)

def c_codec_Reader_Byte (r_0 : Option Addr) (w : World) (K : Int → World → Prop) : Prop := Calls Tryd.prog 54 #[.pointer r_0] w (onRet (fun v w' => ∃ (y0 : Int), v = .int .u8 y0 ∧ K y0 w'))

theorem sim_codec_Reader_Byte {r_0 : Option Addr} {w : World} {K : Int → World → Prop} (h : sh_codec_Reader_Byte c_codec_Reader_Raw r_0 w K) : c_codec_Reader_Byte r_0 w K := by
  have e : sh_codec_Reader_Byte c_codec_Reader_Raw r_0 w K = shF Tryd.prog 54 ⟨[], [], []⟩ [.pointer r_0] w (fun v w' => decV (.int .u8) v fun y0 => K y0 w') := by kernel_rfl
  exact Calls.mono (calls_of _ e h) (onRet_mono (fun _ _ h => decV_spec h))

-- 62 (*prelude/codec.Reader).Uint; callees ['codec_Reader_Upto']
def sh_codec_Reader_Uint (c_codec_Reader_Upto : Option Addr → Int → World → (Int → World → Prop) → Prop) (r_0 : Option Addr) (w : World) (K : Int → World → Prop) : Prop :=
  c_codec_Reader_Upto r_0 18446744073709551615 w fun r1 w2 => K r1 w2

def c_codec_Reader_Uint (r_0 : Option Addr) (w : World) (K : Int → World → Prop) : Prop := Calls Tryd.prog 62 #[.pointer r_0] w (onRet (fun v w' => ∃ (y0 : Int), v = .int .u64 y0 ∧ K y0 w'))

theorem sim_codec_Reader_Uint {r_0 : Option Addr} {w : World} {K : Int → World → Prop} (h : sh_codec_Reader_Uint c_codec_Reader_Upto r_0 w K) : c_codec_Reader_Uint r_0 w K := by
  have e : sh_codec_Reader_Uint c_codec_Reader_Upto r_0 w K = shF Tryd.prog 62 ⟨[], [], []⟩ [.pointer r_0] w (fun v w' => decV (.int .u64) v fun y0 => K y0 w') := by kernel_rfl
  exact Calls.mono (calls_of _ e h) (onRet_mono (fun _ _ h => decV_spec h))

-- 55 (*prelude/codec.Reader).Int; callees ['codec_Reader_Uint']
def sh_codec_Reader_Int (c_codec_Reader_Uint : Option Addr → World → (Int → World → Prop) → Prop) (r_0 : Option Addr) (w : World) (K : Int → World → Prop) : Prop :=
  c_codec_Reader_Uint r_0 w fun r1 w2 => shP 1 (K (bXor .i64 (IntKind.i64.wrap (Int.fdiv r1 (2 ^ (min (Int.toNat 1) (IntKind.bits .u64))))) (IntKind.i64.wrap (0 - (IntKind.i64.wrap (bAnd .u64 r1 1))))) w2)

def c_codec_Reader_Int (r_0 : Option Addr) (w : World) (K : Int → World → Prop) : Prop := Calls Tryd.prog 55 #[.pointer r_0] w (onRet (fun v w' => ∃ (y0 : Int), v = .int .i64 y0 ∧ K y0 w'))

theorem sim_codec_Reader_Int {r_0 : Option Addr} {w : World} {K : Int → World → Prop} (h : sh_codec_Reader_Int c_codec_Reader_Uint r_0 w K) : c_codec_Reader_Int r_0 w K := by
  have e : sh_codec_Reader_Int c_codec_Reader_Uint r_0 w K = shF Tryd.prog 55 ⟨[], [], []⟩ [.pointer r_0] w (fun v w' => decV (.int .i64) v fun y0 => K y0 w') := by kernel_rfl
  exact Calls.mono (calls_of _ e h) (onRet_mono (fun _ _ h => decV_spec h))

-- 35 prelude/lang.Get; callees ['codec_Reader_Upto', 'codec_Reader_Err', 'codec_Reader_Byte', 'codec_Reader_Fail', 'codec_Reader_Int']
def sh_lang_Get (c_codec_Reader_Upto : Option Addr → Int → World → (Int → World → Prop) → Prop) (c_codec_Reader_Err : Option Addr → World → (Int → World → Prop) → Prop) (c_codec_Reader_Byte : Option Addr → World → (Int → World → Prop) → Prop) (c_codec_Reader_Fail : Option Addr → Int → World → (World → Prop) → Prop) (c_codec_Reader_Int : Option Addr → World → (Int → World → Prop) → Prop) (x_0 : Option Addr) (w : World) (K : Int → Int → Int → Int → Slc → World → Prop) : Prop :=
  newP #[.int .i64 0, .int .i64 0, .int .i64 0, .int .i64 0, .slice none 0 0] 41 w fun a1 w2 => newP #[.int .i64 0, .int .i64 0, .int .i64 0, .int .i64 0, .slice none 0 0] 41 w2 fun a3 w4 => c_codec_Reader_Upto x_0 16 w4 fun r5 w6 => stP a3 (.int .i64 (IntKind.i64.wrap r5)) w6 fun w7 => c_codec_Reader_Upto x_0 16 w7 fun r8 w9 => stP (a3.add 1) (.int .i64 (IntKind.i64.wrap r8)) w9 fun w10 => c_codec_Reader_Upto x_0 16 w10 fun r11 w12 => stP (a3.add 2) (.int .i64 (IntKind.i64.wrap r11)) w12 fun w13 => c_codec_Reader_Upto x_0 16 w13 fun r14 w15 => stP (a3.add 3) (.int .i64 (IntKind.i64.wrap r14)) w15 fun w16 => c_codec_Reader_Upto x_0 256 w16 fun r17 w18 => joinP (σ := Unit) (fun J19 => loopP (σ := Int × Unit) (fun st22 next21 w23 => (fun (x24 : Int) => iteB (decide ((x24 : Int) < (IntKind.i64.wrap r17)))
  (c_codec_Reader_Err x_0 w23 fun r25 w26 => iteB ((r25 : Int) == 0)
  (c_codec_Reader_Byte x_0 w26 fun r27 w28 => newP #[.int .i64 0, .int .i64 0] 80 w28 fun a29 w30 => stP a29 (.int .i64 (IntKind.i64.wrap (bAnd .u8 r27 63))) w30 fun w31 => stP (a29.add 1) (.int .i64 0) w31 fun w32 => joinP (σ := Unit) (fun J33 => c_codec_Reader_Err x_0 w32 fun r35 w36 => iteB ((r35 : Int) == 0)
  (iteB (decide ((r27 : Int) ≥ 128))
  (c_codec_Reader_Fail x_0 31 w36 fun w37 => J33 (()) w37)
  (ldI .i64 a29 w36 fun n38 => iteB (decide ((n38 : Int) ≥ 37))
  (c_codec_Reader_Fail x_0 31 w36 fun w39 => J33 (()) w39)
  (J33 (()) w36)))
  (J33 (()) w36))
  (fun st34 w40 => joinP (σ := Unit) (fun J41 => iteB (decide ((r27 : Int) ≥ 64))
  (c_codec_Reader_Int x_0 w40 fun r43 w44 => stP (a29.add 1) (.int .i64 r43) w44 fun w45 => c_codec_Reader_Err x_0 w45 fun r46 w47 => iteB ((r46 : Int) == 0)
  (ldI .i64 (a29.add 1) w47 fun n48 => iteB ((n48 : Int) == 0)
  (c_codec_Reader_Fail x_0 11 w47 fun w49 => J41 (()) w49)
  (J41 (()) w47))
  (J41 (()) w47))
  (J41 (()) w40))
  (fun st42 w50 => ldS (a3.add 4) w50 fun s51 => ldI .i64 a29 w50 fun n52 => ldI .i64 (a29.add 1) w50 fun n53 => newP #[.int .i64 n52, .int .i64 n53] 80 w50 fun a54 w55 => apP Tryd.prog #[39, 39] 39 [.slice s51.a s51.l s51.c, .slice (some a54) 1 1] w55 fun s57 w56 => stP (a3.add 4) (.slice s57.a s57.l s57.c) w56 fun w58 => next21 ((IntKind.i64.wrap (x24 + 1)), ()) w58)))
  (J19 (()) w26))
  (J19 (()) w23)) st22.1) (0, ()) w18)
  (fun st20 w59 => c_codec_Reader_Err x_0 w59 fun r60 w61 => iteB ((r60 : Int) != 0)
  (stP a1 (.int .i64 0) w61 fun w62 => stP (a1.add 1) (.int .i64 0) w62 fun w63 => stP (a1.add 2) (.int .i64 0) w63 fun w64 => stP (a1.add 3) (.int .i64 0) w64 fun w65 => stP (a1.add 4) (.slice none 0 0) w65 fun w66 => ldI .i64 a1 w66 fun n67 => ldI .i64 (a1.add 1) w66 fun n68 => ldI .i64 (a1.add 2) w66 fun n69 => ldI .i64 (a1.add 3) w66 fun n70 => ldS (a1.add 4) w66 fun s71 => K n67 n68 n69 n70 s71 w66)
  (ldI .i64 a3 w61 fun n72 => ldI .i64 (a3.add 1) w61 fun n73 => ldI .i64 (a3.add 2) w61 fun n74 => ldI .i64 (a3.add 3) w61 fun n75 => ldS (a3.add 4) w61 fun s76 => stP a1 (.int .i64 n72) w61 fun w77 => stP (a1.add 1) (.int .i64 n73) w77 fun w78 => stP (a1.add 2) (.int .i64 n74) w78 fun w79 => stP (a1.add 3) (.int .i64 n75) w79 fun w80 => stP (a1.add 4) (.slice s76.a s76.l s76.c) w80 fun w81 => ldI .i64 a1 w81 fun n82 => ldI .i64 (a1.add 1) w81 fun n83 => ldI .i64 (a1.add 2) w81 fun n84 => ldI .i64 (a1.add 3) w81 fun n85 => ldS (a1.add 4) w81 fun s86 => K n82 n83 n84 n85 s86 w81))

def c_lang_Get (x_0 : Option Addr) (w : World) (K : Int → Int → Int → Int → Slc → World → Prop) : Prop := Calls Tryd.prog 35 #[.pointer x_0] w (onRet (fun v w' => ∃ (y0 : Int), ∃ (y1 : Int), ∃ (y2 : Int), ∃ (y3 : Int), ∃ (y4 : Slc), v = .agg #[.int .i64 y0, .int .i64 y1, .int .i64 y2, .int .i64 y3, .slice y4.a y4.l y4.c] ∧ K y0 y1 y2 y3 y4 w'))

theorem sim_lang_Get {x_0 : Option Addr} {w : World} {K : Int → Int → Int → Int → Slc → World → Prop} (h : sh_lang_Get c_codec_Reader_Upto c_codec_Reader_Err c_codec_Reader_Byte c_codec_Reader_Fail c_codec_Reader_Int x_0 w K) : c_lang_Get x_0 w K := by
  have e : sh_lang_Get c_codec_Reader_Upto c_codec_Reader_Err c_codec_Reader_Byte c_codec_Reader_Fail c_codec_Reader_Int x_0 w K = shF Tryd.prog 35 ⟨[], [(8, [(5, (.int .i64))], [0, 2, 3, 4])], [(19, [], [0, 2, 3]), (14, [], [0, 2, 3, 4, 5, 6, 7]), (18, [], [0, 2, 3, 4, 5, 7])]⟩ [.pointer x_0] w (fun v w' => decA [(.int .i64), (.int .i64), (.int .i64), (.int .i64), .sl] v fun s => (fun (y0 : Int) (y1 : Int) (y2 : Int) (y3 : Int) (y4 : Slc) => K y0 y1 y2 y3 y4 w') s.1 s.2.1 s.2.2.1 s.2.2.2.1 s.2.2.2.2.1) := by kernel_rfl
  exact Calls.mono (calls_of _ e h) (onRet_mono (fun _ _ h => by obtain ⟨s, h1, h2⟩ := decA_spec h; exact ⟨s.1, s.2.1, s.2.2.1, s.2.2.2.1, s.2.2.2.2.1, h1, h2⟩))

-- 36 (*prelude/codec.Reader).End; callees []
def sh_codec_Reader_End (r_0 : Option Addr) (w : World) (K : Int → World → Prop) : Prop :=
  nnP r_0 fun a1 => ldI .i64 (a1.add 2) w.drew fun n2 => iteB ((n2 : Int) == 0)
  (nnP r_0 fun a3 => ldI .i64 (a3.add 1) w.drew fun n4 => nnP r_0 fun a5 => ldS a5 w.drew fun s6 => iteB (decide ((n4 : Int) < (s6.l : Int)))
  (K 11 w.drew)
  (nnP r_0 fun a7 => ldI .i64 (a7.add 2) w.drew fun n8 => K n8 w.drew))
  (nnP r_0 fun a9 => ldI .i64 (a9.add 2) w.drew fun n10 => K n10 w.drew)

def c_codec_Reader_End (r_0 : Option Addr) (w : World) (K : Int → World → Prop) : Prop := Calls Tryd.prog 36 #[.pointer r_0] w (onRet (fun v w' => ∃ (y0 : Int), v = .int .i64 y0 ∧ K y0 w'))

theorem sim_codec_Reader_End {r_0 : Option Addr} {w : World} {K : Int → World → Prop} (h : sh_codec_Reader_End r_0 w K) : c_codec_Reader_End r_0 w K := by
  have e : sh_codec_Reader_End r_0 w K = shF Tryd.prog 36 ⟨[(1, .of [0, 1, 2, 3, 4, 5, 6, 7, 8, 9, 10, 11, 12, 13, 14, 15, 16])], [], []⟩ [.pointer r_0] w (fun v w' => decV (.int .i64) v fun y0 => K y0 w') := by kernel_rfl
  exact Calls.mono (calls_of _ e h) (onRet_mono (fun _ _ h => decV_spec h))

-- 12 prelude/lang.Decode; callees ['codec_Read', 'codec_Reader_Raw', 'codec_Reader_Err', 'codec_Reader_Fail', 'codec_Reader_Upto', 'codec_Reader_Bytes', 'lang_Get', 'codec_Reader_End', 'lang_Check']
def sh_lang_Decode (c_codec_Read : Slc → World → (Option Addr → World → Prop) → Prop) (c_codec_Reader_Raw : Option Addr → Int → World → (Slc → World → Prop) → Prop) (c_codec_Reader_Err : Option Addr → World → (Int → World → Prop) → Prop) (c_codec_Reader_Fail : Option Addr → Int → World → (World → Prop) → Prop) (c_codec_Reader_Upto : Option Addr → Int → World → (Int → World → Prop) → Prop) (c_codec_Reader_Bytes : Option Addr → Int → World → (Slc → World → Prop) → Prop) (c_lang_Get : Option Addr → World → (Int → Int → Int → Int → Slc → World → Prop) → Prop) (c_codec_Reader_End : Option Addr → World → (Int → World → Prop) → Prop) (c_lang_Check : Slc → World → (Int → Int → World → Prop) → Prop) (x_0 : Slc) (w : World) (K : Slc → Int → Int → World → Prop) : Prop :=
  c_codec_Read x_0 w fun r1 w2 => c_codec_Reader_Raw r1 4 w2 fun r3 w4 => joinP (σ := Unit) (fun J5 => c_codec_Reader_Err r1 w4 fun r7 w8 => iteB ((r7 : Int) == 0)
  ((∃ (r9 : ByteArray), ∃ w10, (convert 23 9 (.slice r3.a r3.l r3.c)).run Tryd.prog w8 = .ok (.string r9) w10 ∧ (iteB (!((r9).toList == (ByteArray.mk #[80, 82, 76, 49]).toList))
  (c_codec_Reader_Fail r1 11 w10 fun w11 => J5 (()) w11)
  (J5 (()) w10))))
  (J5 (()) w8))
  (fun st6 w12 => c_codec_Reader_Upto r1 64 w12 fun r13 w14 => joinP (σ := Slc × Unit) (fun J15 => loopP (σ := Slc × Int × Unit) (fun st18 next17 w19 => (fun (x20 : Slc) (x21 : Int) => iteB (decide ((x21 : Int) < (IntKind.i64.wrap r13)))
  (c_codec_Reader_Err r1 w19 fun r22 w23 => iteB ((r22 : Int) == 0)
  (c_codec_Reader_Bytes r1 31 w23 fun r24 w25 => (∃ (r26 : ByteArray), ∃ w27, (convert 23 9 (.slice r24.a r24.l r24.c)).run Tryd.prog w25 = .ok (.string r26) w27 ∧ (c_lang_Get r1 w27 fun r28 r29 r30 r31 r32 w33 => newP #[.string r26, .int .i64 r28, .int .i64 r29, .int .i64 r30, .int .i64 r31, .slice r32.a r32.l r32.c] 43 w33 fun a34 w35 => apP Tryd.prog #[22, 22] 22 [.slice x20.a x20.l x20.c, .slice (some a34) 1 1] w35 fun s37 w36 => next17 (s37, (IntKind.i64.wrap (x21 + 1)), ()) w36)))
  (J15 (x20, ()) w23))
  (J15 (x20, ()) w19)) st18.1 st18.2.1) (⟨none, 0, 0⟩, 0, ()) w14)
  (fun st16 w39 => (fun (s38 : Slc) => c_codec_Reader_End r1 w39 fun r40 w41 => iteB ((r40 : Int) != 0)
  (K ⟨none, 0, 0⟩ 0 r40 w41)
  (c_lang_Check s38 w41 fun r42 r43 w44 => iteB ((r43 : Int) != 0)
  (K ⟨none, 0, 0⟩ r42 r43 w44)
  (K s38 0 0 w44))) st16.1))

def c_lang_Decode (x_0 : Slc) (w : World) (K : Slc → Int → Int → World → Prop) : Prop := Calls Tryd.prog 12 #[.slice x_0.a x_0.l x_0.c] w (onRet (fun v w' => ∃ (y0 : Slc), ∃ (y1 : Int), ∃ (y2 : Int), v = .tuple #[.slice y0.a y0.l y0.c, .int .i64 y1, .int .i64 y2] ∧ K y0 y1 y2 w'))

theorem sim_lang_Decode {x_0 : Slc} {w : World} {K : Slc → Int → Int → World → Prop} (h : sh_lang_Decode c_codec_Read c_codec_Reader_Raw c_codec_Reader_Err c_codec_Reader_Fail c_codec_Reader_Upto c_codec_Reader_Bytes c_lang_Get c_codec_Reader_End c_lang_Check x_0 w K) : c_lang_Decode x_0 w K := by
  have e : sh_lang_Decode c_codec_Read c_codec_Reader_Raw c_codec_Reader_Err c_codec_Reader_Fail c_codec_Reader_Upto c_codec_Reader_Bytes c_lang_Get c_codec_Reader_End c_lang_Check x_0 w K = shF Tryd.prog 12 ⟨[], [(8, [(8, .sl), (9, (.int .i64))], [5, 7])], [(5, [], [5]), (12, [(8, .sl)], [5])]⟩ [.slice x_0.a x_0.l x_0.c] w (fun v w' => decT [(false, [.sl]), (false, [(.int .i64)]), (false, [(.int .i64)])] v fun s => (fun (y0 : Slc) (y1 : Int) (y2 : Int) => K y0 y1 y2 w') s.1 s.2.1 s.2.2.1) := by kernel_rfl
  exact Calls.mono (calls_of _ e h) (onRet_mono (fun _ _ h => by obtain ⟨s, h1, h2⟩ := decT_spec h; exact ⟨s.1, s.2.1, s.2.2.1, h1, h2⟩))

-- 37 (*prelude/preluderef01.Reader).Raw; callees []
def sh_preluderef01_Reader_Raw (r_0 : Option Addr) (n_1 : Int) (w : World) (K : Slc → World → Prop) : Prop :=
  nnP r_0 fun a1 => ldI .i64 (a1.add 2) w fun n2 => iteB ((n2 : Int) != 0)
  (K ⟨none, 0, 0⟩ w)
  (iteB (decide ((n_1 : Int) < 0))
  (nnP r_0 fun a3 => stP (a3.add 2) (.int .i64 11) w fun w4 => K ⟨none, 0, 0⟩ w4)
  (nnP r_0 fun a5 => ldS a5 w.drew fun s6 => nnP r_0 fun a7 => ldI .i64 (a7.add 1) w.drew fun n8 => iteB (decide ((n_1 : Int) > (IntKind.i64.wrap ((s6.l : Int) - n8))))
  (nnP r_0 fun a9 => stP (a9.add 2) (.int .i64 10) w.drew fun w10 => K ⟨none, 0, 0⟩ w10)
  (loopP (σ := Slc × Int × Unit) (fun st12 next11 w13 => (fun (l_14 : Slc) (i_15 : Int) => iteB (decide ((i_15 : Int) < n_1))
  (nnP r_0 fun a16 => ldS a16 w13.drew fun s17 => nnP r_0 fun a18 => ldI .i64 (a18.add 1) w13.drew fun n19 => idxP s17.a s17.l (IntKind.i64.wrap (n19 + i_15)) 1 fun a20 => ldI .u8 a20 w13.drew fun n21 => newP #[.int .u8 n21] 5 w13.drew fun a22 w23 => apP Tryd.prog #[23, 23] 23 [.slice l_14.a l_14.l l_14.c, .slice (some a22) 1 1] w23 fun s25 w24 => next11 (s25, (IntKind.i64.wrap (i_15 + 1)), ()) w24)
  (nnP r_0 fun a26 => ldI .i64 (a26.add 1) w13 fun n27 => nnP r_0 fun a28 => stP (a28.add 1) (.int .i64 (IntKind.i64.wrap (n27 + n_1))) w13 fun w29 => K l_14 w29)) st12.1 st12.2.1) (⟨none, 0, 0⟩, 0, ()) w.drew)))

def c_preluderef01_Reader_Raw (r_0 : Option Addr) (n_1 : Int) (w : World) (K : Slc → World → Prop) : Prop := Calls Tryd.prog 37 #[.pointer r_0, .int .i64 n_1] w (onRet (fun v w' => ∃ (y0 : Slc), v = .slice y0.a y0.l y0.c ∧ K y0 w'))

theorem sim_preluderef01_Reader_Raw {r_0 : Option Addr} {n_1 : Int} {w : World} {K : Slc → World → Prop} (h : sh_preluderef01_Reader_Raw r_0 n_1 w K) : c_preluderef01_Reader_Raw r_0 n_1 w K := by
  have e : sh_preluderef01_Reader_Raw r_0 n_1 w K = shF Tryd.prog 37 ⟨[(6, .of [0, 1, 2, 3, 4, 5, 6, 7, 8, 9, 10, 11]), (13, .of [0, 1, 2, 3, 4, 5, 6, 7, 8, 9, 10, 11, 12, 13, 14, 15])], [(11, [(5, .sl), (6, (.int .i64))], [0, 1])], []⟩ [.pointer r_0, .int .i64 n_1] w (fun v w' => decV .sl v fun y0 => K y0 w') := by kernel_rfl
  exact Calls.mono (calls_of _ e h) (onRet_mono (fun _ _ h => decV_spec h))

-- 63 prelude/preluderef01.number; callees []
def sh_preluderef01_number (b_0 : Slc) (w : World) (K : Int → Int → Int → World → Prop) : Prop :=
  loopP (σ := Int × Int × Unit) (fun st2 next1 w3 => (fun (n_4 : Int) (k_5 : Int) => iteB (decide ((k_5 : Int) < 10))
  (iteB ((k_5 : Int) == (b_0.l : Int))
  (K 0 0 10 w3)
  (iteB ((k_5 : Int) == 9)
  (idxP b_0.a b_0.l k_5 1 fun a6 => ldI .u8 a6 w3 fun n7 => iteB (decide ((n7 : Int) > 1))
  (K 0 0 11 w3)
  (iteB (decide ((k_5 : Int) > 0))
  (idxP b_0.a b_0.l k_5 1 fun a8 => ldI .u8 a8 w3 fun n9 => iteB ((n9 : Int) == 0)
  (K 0 0 11 w3)
  (idxP b_0.a b_0.l k_5 1 fun a10 => ldI .u8 a10 w3 fun n11 => dzP 128 (shP (IntKind.i64.wrap (7 * k_5)) (idxP b_0.a b_0.l k_5 1 fun a12 => ldI .u8 a12 w3 fun n13 => iteB (decide ((n13 : Int) < 128))
  (K (IntKind.u64.wrap (n_4 + (IntKind.u64.wrap ((IntKind.u64.wrap (Int.tmod n11 128)) * 2 ^ (min (Int.toNat (IntKind.i64.wrap (7 * k_5))) (IntKind.bits .u64)))))) (IntKind.i64.wrap (k_5 + 1)) 0 w3)
  (next1 ((IntKind.u64.wrap (n_4 + (IntKind.u64.wrap ((IntKind.u64.wrap (Int.tmod n11 128)) * 2 ^ (min (Int.toNat (IntKind.i64.wrap (7 * k_5))) (IntKind.bits .u64)))))), (IntKind.i64.wrap (k_5 + 1)), ()) w3)))))
  (idxP b_0.a b_0.l k_5 1 fun a14 => ldI .u8 a14 w3 fun n15 => dzP 128 (shP (IntKind.i64.wrap (7 * k_5)) (idxP b_0.a b_0.l k_5 1 fun a16 => ldI .u8 a16 w3 fun n17 => iteB (decide ((n17 : Int) < 128))
  (K (IntKind.u64.wrap (n_4 + (IntKind.u64.wrap ((IntKind.u64.wrap (Int.tmod n15 128)) * 2 ^ (min (Int.toNat (IntKind.i64.wrap (7 * k_5))) (IntKind.bits .u64)))))) (IntKind.i64.wrap (k_5 + 1)) 0 w3)
  (next1 ((IntKind.u64.wrap (n_4 + (IntKind.u64.wrap ((IntKind.u64.wrap (Int.tmod n15 128)) * 2 ^ (min (Int.toNat (IntKind.i64.wrap (7 * k_5))) (IntKind.bits .u64)))))), (IntKind.i64.wrap (k_5 + 1)), ()) w3))))))
  (iteB (decide ((k_5 : Int) > 0))
  (idxP b_0.a b_0.l k_5 1 fun a18 => ldI .u8 a18 w3 fun n19 => iteB ((n19 : Int) == 0)
  (K 0 0 11 w3)
  (idxP b_0.a b_0.l k_5 1 fun a20 => ldI .u8 a20 w3 fun n21 => dzP 128 (shP (IntKind.i64.wrap (7 * k_5)) (idxP b_0.a b_0.l k_5 1 fun a22 => ldI .u8 a22 w3 fun n23 => iteB (decide ((n23 : Int) < 128))
  (K (IntKind.u64.wrap (n_4 + (IntKind.u64.wrap ((IntKind.u64.wrap (Int.tmod n21 128)) * 2 ^ (min (Int.toNat (IntKind.i64.wrap (7 * k_5))) (IntKind.bits .u64)))))) (IntKind.i64.wrap (k_5 + 1)) 0 w3)
  (next1 ((IntKind.u64.wrap (n_4 + (IntKind.u64.wrap ((IntKind.u64.wrap (Int.tmod n21 128)) * 2 ^ (min (Int.toNat (IntKind.i64.wrap (7 * k_5))) (IntKind.bits .u64)))))), (IntKind.i64.wrap (k_5 + 1)), ()) w3)))))
  (idxP b_0.a b_0.l k_5 1 fun a24 => ldI .u8 a24 w3 fun n25 => dzP 128 (shP (IntKind.i64.wrap (7 * k_5)) (idxP b_0.a b_0.l k_5 1 fun a26 => ldI .u8 a26 w3 fun n27 => iteB (decide ((n27 : Int) < 128))
  (K (IntKind.u64.wrap (n_4 + (IntKind.u64.wrap ((IntKind.u64.wrap (Int.tmod n25 128)) * 2 ^ (min (Int.toNat (IntKind.i64.wrap (7 * k_5))) (IntKind.bits .u64)))))) (IntKind.i64.wrap (k_5 + 1)) 0 w3)
  (next1 ((IntKind.u64.wrap (n_4 + (IntKind.u64.wrap ((IntKind.u64.wrap (Int.tmod n25 128)) * 2 ^ (min (Int.toNat (IntKind.i64.wrap (7 * k_5))) (IntKind.bits .u64)))))), (IntKind.i64.wrap (k_5 + 1)), ()) w3)))))))
  (K 0 0 11 w3)) st2.1 st2.2.1) (0, 0, ()) w

def c_preluderef01_number (b_0 : Slc) (w : World) (K : Int → Int → Int → World → Prop) : Prop := Calls Tryd.prog 63 #[.slice b_0.a b_0.l b_0.c] w (onRet (fun v w' => ∃ (y0 : Int), ∃ (y1 : Int), ∃ (y2 : Int), v = .tuple #[.int .u64 y0, .int .i64 y1, .int .i64 y2] ∧ K y0 y1 y2 w'))

theorem sim_preluderef01_number {b_0 : Slc} {w : World} {K : Int → Int → Int → World → Prop} (h : sh_preluderef01_number b_0 w K) : c_preluderef01_number b_0 w K := by
  have e : sh_preluderef01_number b_0 w K = shF Tryd.prog 63 ⟨[], [(3, [(5, (.int .u64)), (6, (.int .i64))], [0])], []⟩ [.slice b_0.a b_0.l b_0.c] w (fun v w' => decT [(false, [(.int .u64)]), (false, [(.int .i64)]), (false, [(.int .i64)])] v fun s => (fun (y0 : Int) (y1 : Int) (y2 : Int) => K y0 y1 y2 w') s.1 s.2.1 s.2.2.1) := by kernel_rfl
  exact Calls.mono (calls_of _ e h) (onRet_mono (fun _ _ h => by obtain ⟨s, h1, h2⟩ := decT_spec h; exact ⟨s.1, s.2.1, s.2.2.1, h1, h2⟩))

-- 56 (*prelude/preluderef01.Reader).Uint; callees ['preluderef01_number']
def sh_preluderef01_Reader_Uint (c_preluderef01_number : Slc → World → (Int → Int → Int → World → Prop) → Prop) (r_0 : Option Addr) (w : World) (K : Int → World → Prop) : Prop :=
  nnP r_0 fun a1 => ldI .i64 (a1.add 2) w fun n2 => iteB ((n2 : Int) != 0)
  (K 0 w)
  (nnP r_0 fun a3 => ldS a3 w.drew fun s4 => nnP r_0 fun a5 => ldI .i64 (a5.add 1) w.drew fun n6 => slP s4.a s4.l s4.c (some n6) none 1 fun p7 l8 c9 => c_preluderef01_number ⟨p7, l8, c9⟩ w.drew fun r10 r11 r12 w13 => nnP r_0 fun a14 => stP (a14.add 2) (.int .i64 r12) w13 fun w15 => nnP r_0 fun a16 => ldI .i64 (a16.add 1) w15 fun n17 => nnP r_0 fun a18 => stP (a18.add 1) (.int .i64 (IntKind.i64.wrap (n17 + r11))) w15 fun w19 => K r10 w19)

def c_preluderef01_Reader_Uint (r_0 : Option Addr) (w : World) (K : Int → World → Prop) : Prop := Calls Tryd.prog 56 #[.pointer r_0] w (onRet (fun v w' => ∃ (y0 : Int), v = .int .u64 y0 ∧ K y0 w'))

theorem sim_preluderef01_Reader_Uint {r_0 : Option Addr} {w : World} {K : Int → World → Prop} (h : sh_preluderef01_Reader_Uint c_preluderef01_number r_0 w K) : c_preluderef01_Reader_Uint r_0 w K := by
  have e : sh_preluderef01_Reader_Uint c_preluderef01_number r_0 w K = shF Tryd.prog 56 ⟨[(3, .of [0, 1, 2, 3, 4, 5, 6, 7, 8, 9, 10, 11, 12, 13, 14, 15, 16])], [], []⟩ [.pointer r_0] w (fun v w' => decV (.int .u64) v fun y0 => K y0 w') := by kernel_rfl
  exact Calls.mono (calls_of _ e h) (onRet_mono (fun _ _ h => decV_spec h))

-- 38 (*prelude/preluderef01.Reader).Upto; callees ['preluderef01_Reader_Uint']
def sh_preluderef01_Reader_Upto (c_preluderef01_Reader_Uint : Option Addr → World → (Int → World → Prop) → Prop) (r_0 : Option Addr) (most_1 : Int) (w : World) (K : Int → World → Prop) : Prop :=
  nnP r_0 fun a1 => ldI .i64 (a1.add 1) w fun n2 => c_preluderef01_Reader_Uint r_0 w fun r3 w4 => nnP r_0 fun a5 => ldI .i64 (a5.add 2) w4 fun n6 => iteB ((n6 : Int) == 0)
  (iteB (decide ((r3 : Int) > most_1))
  (nnP r_0 fun a7 => stP (a7.add 2) (.int .i64 12) w4 fun w8 => nnP r_0 fun a9 => stP (a9.add 1) (.int .i64 n2) w8 fun w10 => K 0 w10)
  (K r3 w4))
  (K r3 w4)

def c_preluderef01_Reader_Upto (r_0 : Option Addr) (most_1 : Int) (w : World) (K : Int → World → Prop) : Prop := Calls Tryd.prog 38 #[.pointer r_0, .int .u64 most_1] w (onRet (fun v w' => ∃ (y0 : Int), v = .int .u64 y0 ∧ K y0 w'))

theorem sim_preluderef01_Reader_Upto {r_0 : Option Addr} {most_1 : Int} {w : World} {K : Int → World → Prop} (h : sh_preluderef01_Reader_Upto c_preluderef01_Reader_Uint r_0 most_1 w K) : c_preluderef01_Reader_Upto r_0 most_1 w K := by
  have e : sh_preluderef01_Reader_Upto c_preluderef01_Reader_Uint r_0 most_1 w K = shF Tryd.prog 38 ⟨[], [], []⟩ [.pointer r_0, .int .u64 most_1] w (fun v w' => decV (.int .u64) v fun y0 => K y0 w') := by kernel_rfl
  exact Calls.mono (calls_of _ e h) (onRet_mono (fun _ _ h => decV_spec h))

-- 39 (*prelude/preluderef01.Reader).Bytes; callees ['preluderef01_Reader_Uint', 'preluderef01_Reader_Raw']
def sh_preluderef01_Reader_Bytes (c_preluderef01_Reader_Uint : Option Addr → World → (Int → World → Prop) → Prop) (c_preluderef01_Reader_Raw : Option Addr → Int → World → (Slc → World → Prop) → Prop) (r_0 : Option Addr) (most_1 : Int) (w : World) (K : Slc → World → Prop) : Prop :=
  nnP r_0 fun a1 => ldI .i64 (a1.add 1) w fun n2 => c_preluderef01_Reader_Uint r_0 w fun r3 w4 => nnP r_0 fun a5 => ldI .i64 (a5.add 2) w4 fun n6 => iteB ((n6 : Int) != 0)
  (K ⟨none, 0, 0⟩ w4)
  (iteB (decide ((most_1 : Int) < 0))
  (nnP r_0 fun a7 => stP (a7.add 2) (.int .i64 12) w4 fun w8 => nnP r_0 fun a9 => ldI .i64 (a9.add 2) w8 fun n10 => iteB ((n10 : Int) != 0)
  (nnP r_0 fun a11 => stP (a11.add 1) (.int .i64 n2) w8 fun w12 => K ⟨none, 0, 0⟩ w12)
  (c_preluderef01_Reader_Raw r_0 (IntKind.i64.wrap r3) w8 fun r13 w14 => K r13 w14))
  (iteB (decide ((r3 : Int) > (IntKind.u64.wrap most_1)))
  (nnP r_0 fun a15 => stP (a15.add 2) (.int .i64 12) w4 fun w16 => nnP r_0 fun a17 => ldI .i64 (a17.add 2) w16 fun n18 => iteB ((n18 : Int) != 0)
  (nnP r_0 fun a19 => stP (a19.add 1) (.int .i64 n2) w16 fun w20 => K ⟨none, 0, 0⟩ w20)
  (c_preluderef01_Reader_Raw r_0 (IntKind.i64.wrap r3) w16 fun r21 w22 => K r21 w22))
  (nnP r_0 fun a23 => ldS a23 w4.drew fun s24 => nnP r_0 fun a25 => ldI .i64 (a25.add 1) w4.drew fun n26 => iteB (decide ((r3 : Int) > (IntKind.u64.wrap (IntKind.i64.wrap ((s24.l : Int) - n26)))))
  (nnP r_0 fun a27 => stP (a27.add 2) (.int .i64 10) w4.drew fun w28 => nnP r_0 fun a29 => ldI .i64 (a29.add 2) w28 fun n30 => iteB ((n30 : Int) != 0)
  (nnP r_0 fun a31 => stP (a31.add 1) (.int .i64 n2) w28 fun w32 => K ⟨none, 0, 0⟩ w32)
  (c_preluderef01_Reader_Raw r_0 (IntKind.i64.wrap r3) w28 fun r33 w34 => K r33 w34))
  (nnP r_0 fun a35 => ldI .i64 (a35.add 2) w4.drew fun n36 => iteB ((n36 : Int) != 0)
  (nnP r_0 fun a37 => stP (a37.add 1) (.int .i64 n2) w4.drew fun w38 => K ⟨none, 0, 0⟩ w38)
  (c_preluderef01_Reader_Raw r_0 (IntKind.i64.wrap r3) w4.drew fun r39 w40 => K r39 w40)))))

def c_preluderef01_Reader_Bytes (r_0 : Option Addr) (most_1 : Int) (w : World) (K : Slc → World → Prop) : Prop := Calls Tryd.prog 39 #[.pointer r_0, .int .i64 most_1] w (onRet (fun v w' => ∃ (y0 : Slc), v = .slice y0.a y0.l y0.c ∧ K y0 w'))

theorem sim_preluderef01_Reader_Bytes {r_0 : Option Addr} {most_1 : Int} {w : World} {K : Slc → World → Prop} (h : sh_preluderef01_Reader_Bytes c_preluderef01_Reader_Uint c_preluderef01_Reader_Raw r_0 most_1 w K) : c_preluderef01_Reader_Bytes r_0 most_1 w K := by
  have e : sh_preluderef01_Reader_Bytes c_preluderef01_Reader_Uint c_preluderef01_Reader_Raw r_0 most_1 w K = shF Tryd.prog 39 ⟨[(7, .of [0, 1, 2, 3, 4, 5, 6, 7, 8, 9, 10, 11, 12])], [], []⟩ [.pointer r_0, .int .i64 most_1] w (fun v w' => decV .sl v fun y0 => K y0 w') := by kernel_rfl
  exact Calls.mono (calls_of _ e h) (onRet_mono (fun _ _ h => decV_spec h))

-- 57 (*prelude/preluderef01.Reader).Byte; callees ['preluderef01_Reader_Raw']
def sh_preluderef01_Reader_Byte (c_preluderef01_Reader_Raw : Option Addr → Int → World → (Slc → World → Prop) → Prop) (r_0 : Option Addr) (w : World) (K : Int → World → Prop) : Prop :=
  c_preluderef01_Reader_Raw r_0 1 w fun r1 w2 => iteB (((r1.l : Int) : Int) == 0)
  (K 0 w2)
  (idxP r1.a r1.l 0 1 fun a3 => ldI .u8 a3 w2 fun n4 => K n4 w2)

def c_preluderef01_Reader_Byte (r_0 : Option Addr) (w : World) (K : Int → World → Prop) : Prop := Calls Tryd.prog 57 #[.pointer r_0] w (onRet (fun v w' => ∃ (y0 : Int), v = .int .u8 y0 ∧ K y0 w'))

theorem sim_preluderef01_Reader_Byte {r_0 : Option Addr} {w : World} {K : Int → World → Prop} (h : sh_preluderef01_Reader_Byte c_preluderef01_Reader_Raw r_0 w K) : c_preluderef01_Reader_Byte r_0 w K := by
  have e : sh_preluderef01_Reader_Byte c_preluderef01_Reader_Raw r_0 w K = shF Tryd.prog 57 ⟨[], [], []⟩ [.pointer r_0] w (fun v w' => decV (.int .u8) v fun y0 => K y0 w') := by kernel_rfl
  exact Calls.mono (calls_of _ e h) (onRet_mono (fun _ _ h => decV_spec h))

-- 64 prelude/preluderef01.Unfold; callees []
def sh_preluderef01_Unfold (n_0 : Int) (w : World) (K : Int → World → Prop) : Prop :=
  dzP 2 (iteB (((Int.tmod n_0 2) : Int) == 0)
  (dzP 2 (K (IntKind.i64.wrap (IntKind.u64.wrap (Int.tdiv n_0 2))) w))
  (dzP 2 (K (IntKind.i64.wrap ((-1) - (IntKind.i64.wrap (IntKind.u64.wrap (Int.tdiv n_0 2))))) w)))

def c_preluderef01_Unfold (n_0 : Int) (w : World) (K : Int → World → Prop) : Prop := Calls Tryd.prog 64 #[.int .u64 n_0] w (onRet (fun v w' => ∃ (y0 : Int), v = .int .i64 y0 ∧ K y0 w'))

theorem sim_preluderef01_Unfold {n_0 : Int} {w : World} {K : Int → World → Prop} (h : sh_preluderef01_Unfold n_0 w K) : c_preluderef01_Unfold n_0 w K := by
  have e : sh_preluderef01_Unfold n_0 w K = shF Tryd.prog 64 ⟨[], [], []⟩ [.int .u64 n_0] w (fun v w' => decV (.int .i64) v fun y0 => K y0 w') := by kernel_rfl
  exact Calls.mono (calls_of _ e h) (onRet_mono (fun _ _ h => decV_spec h))

-- 58 (*prelude/preluderef01.Reader).Int; callees ['preluderef01_Reader_Uint', 'preluderef01_Unfold']
def sh_preluderef01_Reader_Int (c_preluderef01_Reader_Uint : Option Addr → World → (Int → World → Prop) → Prop) (c_preluderef01_Unfold : Int → World → (Int → World → Prop) → Prop) (r_0 : Option Addr) (w : World) (K : Int → World → Prop) : Prop :=
  c_preluderef01_Reader_Uint r_0 w fun r1 w2 => c_preluderef01_Unfold r1 w2 fun r3 w4 => K r3 w4

def c_preluderef01_Reader_Int (r_0 : Option Addr) (w : World) (K : Int → World → Prop) : Prop := Calls Tryd.prog 58 #[.pointer r_0] w (onRet (fun v w' => ∃ (y0 : Int), v = .int .i64 y0 ∧ K y0 w'))

theorem sim_preluderef01_Reader_Int {r_0 : Option Addr} {w : World} {K : Int → World → Prop} (h : sh_preluderef01_Reader_Int c_preluderef01_Reader_Uint c_preluderef01_Unfold r_0 w K) : c_preluderef01_Reader_Int r_0 w K := by
  have e : sh_preluderef01_Reader_Int c_preluderef01_Reader_Uint c_preluderef01_Unfold r_0 w K = shF Tryd.prog 58 ⟨[], [], []⟩ [.pointer r_0] w (fun v w' => decV (.int .i64) v fun y0 => K y0 w') := by kernel_rfl
  exact Calls.mono (calls_of _ e h) (onRet_mono (fun _ _ h => decV_spec h))

-- 40 prelude/preluderef03.Read; callees ['preluderef01_Reader_Upto', 'preluderef01_Reader_Byte', 'preluderef01_Reader_Int']
def sh_preluderef03_Read (c_preluderef01_Reader_Upto : Option Addr → Int → World → (Int → World → Prop) → Prop) (c_preluderef01_Reader_Byte : Option Addr → World → (Int → World → Prop) → Prop) (c_preluderef01_Reader_Int : Option Addr → World → (Int → World → Prop) → Prop) (x_0 : Option Addr) (w : World) (K : Int → Int → Int → Int → Slc → World → Prop) : Prop :=
  newP #[.int .i64 0, .int .i64 0, .int .i64 0, .int .i64 0, .slice none 0 0] 41 w fun a1 w2 => newP #[.int .i64 0, .int .i64 0, .int .i64 0, .int .i64 0, .slice none 0 0] 41 w2 fun a3 w4 => c_preluderef01_Reader_Upto x_0 16 w4 fun r5 w6 => stP a3 (.int .i64 (IntKind.i64.wrap r5)) w6 fun w7 => c_preluderef01_Reader_Upto x_0 16 w7 fun r8 w9 => stP (a3.add 1) (.int .i64 (IntKind.i64.wrap r8)) w9 fun w10 => c_preluderef01_Reader_Upto x_0 16 w10 fun r11 w12 => stP (a3.add 2) (.int .i64 (IntKind.i64.wrap r11)) w12 fun w13 => c_preluderef01_Reader_Upto x_0 16 w13 fun r14 w15 => stP (a3.add 3) (.int .i64 (IntKind.i64.wrap r14)) w15 fun w16 => c_preluderef01_Reader_Upto x_0 256 w16 fun r17 w18 => joinP (σ := Unit) (fun J19 => loopP (σ := Int × Unit) (fun st22 next21 w23 => (fun (x24 : Int) => iteB (decide ((x24 : Int) < (IntKind.i64.wrap r17)))
  (nnP x_0 fun a25 => ldI .i64 (a25.add 2) w23 fun n26 => iteB ((n26 : Int) == 0)
  (c_preluderef01_Reader_Byte x_0 w23 fun r27 w28 => joinP (σ := Unit) (fun J29 => nnP x_0 fun a31 => ldI .i64 (a31.add 2) w28 fun n32 => iteB ((n32 : Int) == 0)
  (iteB (decide (((IntKind.i64.wrap r27) : Int) ≥ 128))
  (nnP x_0 fun a33 => stP (a33.add 2) (.int .i64 31) w28 fun w34 => J29 (()) w34)
  (dzP 64 (iteB (decide (((Int.tmod (IntKind.i64.wrap r27) 64) : Int) ≥ 37))
  (nnP x_0 fun a35 => stP (a35.add 2) (.int .i64 31) w28 fun w36 => J29 (()) w36)
  (J29 (()) w28))))
  (J29 (()) w28))
  (fun st30 w37 => dzP 64 (newP #[.int .i64 0, .int .i64 0] 80 w37 fun a38 w39 => stP a38 (.int .i64 (Int.tmod (IntKind.i64.wrap r27) 64)) w39 fun w40 => stP (a38.add 1) (.int .i64 0) w40 fun w41 => joinP (σ := Unit) (fun J42 => iteB (decide (((IntKind.i64.wrap r27) : Int) ≥ 64))
  (c_preluderef01_Reader_Int x_0 w41 fun r44 w45 => stP (a38.add 1) (.int .i64 r44) w45 fun w46 => nnP x_0 fun a47 => ldI .i64 (a47.add 2) w46 fun n48 => iteB ((n48 : Int) == 0)
  (ldI .i64 (a38.add 1) w46 fun n49 => iteB ((n49 : Int) == 0)
  (nnP x_0 fun a50 => stP (a50.add 2) (.int .i64 11) w46 fun w51 => J42 (()) w51)
  (J42 (()) w46))
  (J42 (()) w46))
  (J42 (()) w41))
  (fun st43 w52 => ldS (a3.add 4) w52 fun s53 => ldI .i64 a38 w52 fun n54 => ldI .i64 (a38.add 1) w52 fun n55 => newP #[.int .i64 n54, .int .i64 n55] 80 w52 fun a56 w57 => apP Tryd.prog #[39, 39] 39 [.slice s53.a s53.l s53.c, .slice (some a56) 1 1] w57 fun s59 w58 => stP (a3.add 4) (.slice s59.a s59.l s59.c) w58 fun w60 => next21 ((IntKind.i64.wrap (x24 + 1)), ()) w60))))
  (J19 (()) w23))
  (J19 (()) w23)) st22.1) (0, ()) w18)
  (fun st20 w61 => nnP x_0 fun a62 => ldI .i64 (a62.add 2) w61 fun n63 => iteB ((n63 : Int) != 0)
  (stP a1 (.int .i64 0) w61 fun w64 => stP (a1.add 1) (.int .i64 0) w64 fun w65 => stP (a1.add 2) (.int .i64 0) w65 fun w66 => stP (a1.add 3) (.int .i64 0) w66 fun w67 => stP (a1.add 4) (.slice none 0 0) w67 fun w68 => ldI .i64 a1 w68 fun n69 => ldI .i64 (a1.add 1) w68 fun n70 => ldI .i64 (a1.add 2) w68 fun n71 => ldI .i64 (a1.add 3) w68 fun n72 => ldS (a1.add 4) w68 fun s73 => K n69 n70 n71 n72 s73 w68)
  (ldI .i64 a3 w61 fun n74 => ldI .i64 (a3.add 1) w61 fun n75 => ldI .i64 (a3.add 2) w61 fun n76 => ldI .i64 (a3.add 3) w61 fun n77 => ldS (a3.add 4) w61 fun s78 => stP a1 (.int .i64 n74) w61 fun w79 => stP (a1.add 1) (.int .i64 n75) w79 fun w80 => stP (a1.add 2) (.int .i64 n76) w80 fun w81 => stP (a1.add 3) (.int .i64 n77) w81 fun w82 => stP (a1.add 4) (.slice s78.a s78.l s78.c) w82 fun w83 => ldI .i64 a1 w83 fun n84 => ldI .i64 (a1.add 1) w83 fun n85 => ldI .i64 (a1.add 2) w83 fun n86 => ldI .i64 (a1.add 3) w83 fun n87 => ldS (a1.add 4) w83 fun s88 => K n84 n85 n86 n87 s88 w83))

def c_preluderef03_Read (x_0 : Option Addr) (w : World) (K : Int → Int → Int → Int → Slc → World → Prop) : Prop := Calls Tryd.prog 40 #[.pointer x_0] w (onRet (fun v w' => ∃ (y0 : Int), ∃ (y1 : Int), ∃ (y2 : Int), ∃ (y3 : Int), ∃ (y4 : Slc), v = .agg #[.int .i64 y0, .int .i64 y1, .int .i64 y2, .int .i64 y3, .slice y4.a y4.l y4.c] ∧ K y0 y1 y2 y3 y4 w'))

theorem sim_preluderef03_Read {x_0 : Option Addr} {w : World} {K : Int → Int → Int → Int → Slc → World → Prop} (h : sh_preluderef03_Read c_preluderef01_Reader_Upto c_preluderef01_Reader_Byte c_preluderef01_Reader_Int x_0 w K) : c_preluderef03_Read x_0 w K := by
  have e : sh_preluderef03_Read c_preluderef01_Reader_Upto c_preluderef01_Reader_Byte c_preluderef01_Reader_Int x_0 w K = shF Tryd.prog 40 ⟨[], [(8, [(5, (.int .i64))], [0, 2, 3, 4])], [(19, [], [0, 2, 3]), (13, [], [0, 2, 3, 4, 5, 6]), (18, [], [0, 2, 3, 4, 5, 7])]⟩ [.pointer x_0] w (fun v w' => decA [(.int .i64), (.int .i64), (.int .i64), (.int .i64), .sl] v fun s => (fun (y0 : Int) (y1 : Int) (y2 : Int) (y3 : Int) (y4 : Slc) => K y0 y1 y2 y3 y4 w') s.1 s.2.1 s.2.2.1 s.2.2.2.1 s.2.2.2.2.1) := by kernel_rfl
  exact Calls.mono (calls_of _ e h) (onRet_mono (fun _ _ h => by obtain ⟨s, h1, h2⟩ := decA_spec h; exact ⟨s.1, s.2.1, s.2.2.1, s.2.2.2.1, s.2.2.2.2.1, h1, h2⟩))

-- 41 (*prelude/preluderef01.Reader).End; callees []
def sh_preluderef01_Reader_End (r_0 : Option Addr) (w : World) (K : Int → World → Prop) : Prop :=
  nnP r_0 fun a1 => ldI .i64 (a1.add 2) w.drew fun n2 => iteB ((n2 : Int) == 0)
  (nnP r_0 fun a3 => ldI .i64 (a3.add 1) w.drew fun n4 => nnP r_0 fun a5 => ldS a5 w.drew fun s6 => iteB (decide ((n4 : Int) < (s6.l : Int)))
  (K 11 w.drew)
  (nnP r_0 fun a7 => ldI .i64 (a7.add 2) w.drew fun n8 => K n8 w.drew))
  (nnP r_0 fun a9 => ldI .i64 (a9.add 2) w.drew fun n10 => K n10 w.drew)

def c_preluderef01_Reader_End (r_0 : Option Addr) (w : World) (K : Int → World → Prop) : Prop := Calls Tryd.prog 41 #[.pointer r_0] w (onRet (fun v w' => ∃ (y0 : Int), v = .int .i64 y0 ∧ K y0 w'))

theorem sim_preluderef01_Reader_End {r_0 : Option Addr} {w : World} {K : Int → World → Prop} (h : sh_preluderef01_Reader_End r_0 w K) : c_preluderef01_Reader_End r_0 w K := by
  have e : sh_preluderef01_Reader_End r_0 w K = shF Tryd.prog 41 ⟨[(1, .of [0, 1, 2, 3, 4, 5, 6, 7, 8, 9, 10, 11, 12, 13, 14, 15, 16])], [], []⟩ [.pointer r_0] w (fun v w' => decV (.int .i64) v fun y0 => K y0 w') := by kernel_rfl
  exact Calls.mono (calls_of _ e h) (onRet_mono (fun _ _ h => decV_spec h))

-- 13 prelude/preluderef03.Decode; callees ['preluderef01_Reader_Raw', 'preluderef01_Reader_Upto', 'preluderef01_Reader_Bytes', 'preluderef03_Read', 'preluderef01_Reader_End', 'preluderef03_Check']
def sh_preluderef03_Decode (c_preluderef01_Reader_Raw : Option Addr → Int → World → (Slc → World → Prop) → Prop) (c_preluderef01_Reader_Upto : Option Addr → Int → World → (Int → World → Prop) → Prop) (c_preluderef01_Reader_Bytes : Option Addr → Int → World → (Slc → World → Prop) → Prop) (c_preluderef03_Read : Option Addr → World → (Int → Int → Int → Int → Slc → World → Prop) → Prop) (c_preluderef01_Reader_End : Option Addr → World → (Int → World → Prop) → Prop) (c_preluderef03_Check : Slc → World → (Int → Int → World → Prop) → Prop) (x_0 : Slc) (w : World) (K : Slc → Int → Int → World → Prop) : Prop :=
  newP #[.slice x_0.a x_0.l x_0.c, .int .i64 0, .int .i64 0] 76 w fun a1 w2 => c_preluderef01_Reader_Raw (some a1) 4 w2 fun r3 w4 => joinP (σ := Unit) (fun J5 => nnP (some a1) fun a7 => ldI .i64 (a7.add 2) w4 fun n8 => iteB ((n8 : Int) == 0)
  ((∃ (r9 : ByteArray), ∃ w10, (convert 23 9 (.slice r3.a r3.l r3.c)).run Tryd.prog w4 = .ok (.string r9) w10 ∧ (iteB (!((r9).toList == (ByteArray.mk #[80, 82, 76, 49]).toList))
  (nnP (some a1) fun a11 => stP (a11.add 2) (.int .i64 11) w10 fun w12 => J5 (()) w12)
  (J5 (()) w10))))
  (J5 (()) w4))
  (fun st6 w13 => c_preluderef01_Reader_Upto (some a1) 64 w13 fun r14 w15 => joinP (σ := Slc × Unit) (fun J16 => loopP (σ := Slc × Int × Unit) (fun st19 next18 w20 => (fun (x21 : Slc) (x22 : Int) => iteB (decide ((x22 : Int) < (IntKind.i64.wrap r14)))
  (nnP (some a1) fun a23 => ldI .i64 (a23.add 2) w20 fun n24 => iteB ((n24 : Int) == 0)
  (c_preluderef01_Reader_Bytes (some a1) 31 w20 fun r25 w26 => c_preluderef03_Read (some a1) w26 fun r27 r28 r29 r30 r31 w32 => newP #[.int .i64 0, .int .i64 0, .int .i64 0, .int .i64 0, .slice none 0 0] 41 w32 fun a33 w34 => stP a33 (.int .i64 r27) w34 fun w35 => stP (a33.add 1) (.int .i64 r28) w35 fun w36 => stP (a33.add 2) (.int .i64 r29) w36 fun w37 => stP (a33.add 3) (.int .i64 r30) w37 fun w38 => stP (a33.add 4) (.slice r31.a r31.l r31.c) w38 fun w39 => (∃ (r40 : ByteArray), ∃ w41, (convert 23 9 (.slice r25.a r25.l r25.c)).run Tryd.prog w39 = .ok (.string r40) w41 ∧ (ldI .i64 a33 w41 fun n42 => ldI .i64 (a33.add 1) w41 fun n43 => ldI .i64 (a33.add 2) w41 fun n44 => ldI .i64 (a33.add 3) w41 fun n45 => ldS (a33.add 4) w41 fun s46 => newP #[.string r40, .int .i64 n42, .int .i64 n43, .int .i64 n44, .int .i64 n45, .slice s46.a s46.l s46.c] 43 w41 fun a47 w48 => apP Tryd.prog #[22, 22] 22 [.slice x21.a x21.l x21.c, .slice (some a47) 1 1] w48 fun s50 w49 => next18 (s50, (IntKind.i64.wrap (x22 + 1)), ()) w49)))
  (J16 (x21, ()) w20))
  (J16 (x21, ()) w20)) st19.1 st19.2.1) (⟨none, 0, 0⟩, 0, ()) w15)
  (fun st17 w52 => (fun (s51 : Slc) => c_preluderef01_Reader_End (some a1) w52 fun r53 w54 => iteB ((r53 : Int) != 0)
  (K ⟨none, 0, 0⟩ 0 r53 w54)
  (c_preluderef03_Check s51 w54 fun r55 r56 w57 => iteB ((r56 : Int) != 0)
  (K ⟨none, 0, 0⟩ r55 r56 w57)
  (K s51 0 0 w57))) st17.1))

def c_preluderef03_Decode (x_0 : Slc) (w : World) (K : Slc → Int → Int → World → Prop) : Prop := Calls Tryd.prog 13 #[.slice x_0.a x_0.l x_0.c] w (onRet (fun v w' => ∃ (y0 : Slc), ∃ (y1 : Int), ∃ (y2 : Int), v = .tuple #[.slice y0.a y0.l y0.c, .int .i64 y1, .int .i64 y2] ∧ K y0 y1 y2 w'))

theorem sim_preluderef03_Decode {x_0 : Slc} {w : World} {K : Slc → Int → Int → World → Prop} (h : sh_preluderef03_Decode c_preluderef01_Reader_Raw c_preluderef01_Reader_Upto c_preluderef01_Reader_Bytes c_preluderef03_Read c_preluderef01_Reader_End c_preluderef03_Check x_0 w K) : c_preluderef03_Decode x_0 w K := by
  have e : sh_preluderef03_Decode c_preluderef01_Reader_Raw c_preluderef01_Reader_Upto c_preluderef01_Reader_Bytes c_preluderef03_Read c_preluderef01_Reader_End c_preluderef03_Check x_0 w K = shF Tryd.prog 13 ⟨[], [(8, [(8, .sl), (9, (.int .i64))], [5, 7])], [(5, [], [5]), (13, [(8, .sl)], [5])]⟩ [.slice x_0.a x_0.l x_0.c] w (fun v w' => decT [(false, [.sl]), (false, [(.int .i64)]), (false, [(.int .i64)])] v fun s => (fun (y0 : Slc) (y1 : Int) (y2 : Int) => K y0 y1 y2 w') s.1 s.2.1 s.2.2.1) := by kernel_rfl
  exact Calls.mono (calls_of _ e h) (onRet_mono (fun _ _ h => by obtain ⟨s, h1, h2⟩ := decT_spec h; exact ⟨s.1, s.2.1, s.2.2.1, h1, h2⟩))

-- 14 prelude/preludelaw03.apart; callees ['preludelaw03_sameLibrary']
def sh_preludelaw03_apart (c_preludelaw03_sameLibrary : Slc → Slc → World → (Bool → World → Prop) → Prop) (x_0 : Slc) (x_1 : Slc) (x_2 : Slc) (w : World) (K : Bool → World → Prop) : Prop :=
  loopP (σ := Int × Unit) (fun st2 next1 w3 => (fun (x4 : Int) => iteB (decide ((x4 : Int) < (x_0.l : Int)))
  (loopP (σ := Int × Unit) (fun st6 next5 w7 => (fun (x8 : Int) => idxP x_0.a x_0.l x4 6 fun a9 => ldS ((a9.add 1).add 4) w7 fun s10 => iteB (decide ((x8 : Int) < (s10.l : Int)))
  (idxP x_0.a x_0.l x4 6 fun a11 => ldS ((a11.add 1).add 4) w7 fun s12 => idxP s12.a s12.l x8 2 fun a13 => stP a13 (.int .i64 (IntKind.i64.wrap ((-1) - x4))) w7 fun w14 => stP (a13.add 1) (.int .i64 x8) w14 fun w15 => next5 ((IntKind.i64.wrap (x8 + 1)), ()) w15)
  (next1 ((IntKind.i64.wrap (x4 + 1)), ()) w7)) st6.1) (0, ()) w3)
  (loopP (σ := Slc × Int × Unit) (fun st17 next16 w18 => (fun (x19 : Slc) (x20 : Int) => iteB (decide ((x20 : Int) < (x_0.l : Int)))
  (idxP x_0.a x_0.l x20 6 fun a21 => ldS ((a21.add 1).add 4) w18 fun s22 => newP #[.slice s22.a s22.l s22.c] 39 w18 fun a23 w24 => apP Tryd.prog #[81, 81] 81 [.slice x19.a x19.l x19.c, .slice (some a23) 1 1] w24 fun s26 w25 => next16 (s26, (IntKind.i64.wrap (x20 + 1)), ()) w25)
  (loopP (σ := Int × Unit) (fun st28 next27 w29 => (fun (x30 : Int) => iteB (decide ((x30 : Int) < 40))
  (loopP (σ := Int × Unit) (fun st32 next31 w33 => (fun (x34 : Int) => iteB (decide ((x34 : Int) < (x_0.l : Int)))
  (idxP x19.a x19.l x34 1 fun a35 => ldS a35 w33 fun s36 => newP #[.int .i64 (IntKind.i64.wrap ((-1000) - x34)), .int .i64 x30] 80 w33 fun a37 w38 => apP Tryd.prog #[39, 39] 39 [.slice s36.a s36.l s36.c, .slice (some a37) 1 1] w38 fun s40 w39 => idxP x19.a x19.l x34 1 fun a41 => stP a41 (.slice s40.a s40.l s40.c) w39 fun w42 => next31 ((IntKind.i64.wrap (x34 + 1)), ()) w42)
  (next27 ((IntKind.i64.wrap (x30 + 1)), ()) w33)) st32.1) (0, ()) w29)
  (loopP (σ := Int × Unit) (fun st44 next43 w45 => (fun (x46 : Int) => iteB (decide ((x46 : Int) < (x_0.l : Int)))
  (idxP x_0.a x_0.l x46 6 fun a47 => ldS ((a47.add 1).add 4) w45 fun s48 => loopP (σ := Int × Unit) (fun st50 next49 w51 => (fun (x52 : Int) => idxP x19.a x19.l x46 1 fun a53 => ldS a53 w51 fun s54 => iteB (decide ((x52 : Int) < (s54.l : Int)))
  (iteB (decide ((x52 : Int) < (s48.l : Int)))
  (idxP s48.a s48.l x52 2 fun a55 => ldI .i64 a55 w51.drew fun n56 => ldI .i64 (a55.add 1) w51.drew fun n57 => (∃ (r58 : Bool), ∃ w59, (do eqGuard .neq 80 (.tmp 112) (.tmp 116) (.agg #[.int .i64 n56, .int .i64 n57]) (.agg #[.int .i64 (IntKind.i64.wrap ((-1) - x46)), .int .i64 x52]); binOp .neq 80 (.agg #[.int .i64 n56, .int .i64 n57]) (.agg #[.int .i64 (IntKind.i64.wrap ((-1) - x46)), .int .i64 x52])).run Tryd.prog w51.drew = .ok (.bool r58) w59 ∧ (iteB r58
  (K false w59)
  (idxP x19.a x19.l x46 1 fun a60 => ldS a60 w59 fun s61 => idxP s61.a s61.l x52 2 fun a62 => ldI .i64 a62 w59 fun n63 => ldI .i64 (a62.add 1) w59 fun n64 => idxP s48.a s48.l x52 2 fun a65 => ldI .i64 a65 w59 fun n66 => ldI .i64 (a65.add 1) w59 fun n67 => (∃ (r68 : Bool), ∃ w69, (do eqGuard .neq 80 (.tmp 125) (.tmp 129) (.agg #[.int .i64 n63, .int .i64 n64]) (.agg #[.int .i64 n66, .int .i64 n67]); binOp .neq 80 (.agg #[.int .i64 n63, .int .i64 n64]) (.agg #[.int .i64 n66, .int .i64 n67])).run Tryd.prog w59 = .ok (.bool r68) w69 ∧ (iteB r68
  (K false w69)
  (iteB (decide ((x52 : Int) ≥ (s48.l : Int)))
  (idxP x19.a x19.l x46 1 fun a70 => ldS a70 w69 fun s71 => idxP s71.a s71.l x52 2 fun a72 => ldI .i64 a72 w69 fun n73 => iteB ((n73 : Int) != (IntKind.i64.wrap ((-1000) - x46)))
  (K false w69)
  (next49 ((IntKind.i64.wrap (x52 + 1)), ()) w69))
  (next49 ((IntKind.i64.wrap (x52 + 1)), ()) w69))))))))
  (iteB (decide ((x52 : Int) ≥ (s48.l : Int)))
  (idxP x19.a x19.l x46 1 fun a74 => ldS a74 w51.drew fun s75 => idxP s75.a s75.l x52 2 fun a76 => ldI .i64 a76 w51.drew fun n77 => iteB ((n77 : Int) != (IntKind.i64.wrap ((-1000) - x46)))
  (K false w51.drew)
  (next49 ((IntKind.i64.wrap (x52 + 1)), ()) w51.drew))
  (next49 ((IntKind.i64.wrap (x52 + 1)), ()) w51.drew)))
  (next43 ((IntKind.i64.wrap (x46 + 1)), ()) w51)) st50.1) (0, ()) w45)
  (c_preludelaw03_sameLibrary x_1 x_2 w45 fun r78 w79 => K r78 w79)) st44.1) (0, ()) w29)) st28.1) (0, ()) w18)) st17.1 st17.2.1) (⟨none, 0, 0⟩, 0, ()) w3)) st2.1) (0, ()) w

def c_preludelaw03_apart (x_0 : Slc) (x_1 : Slc) (x_2 : Slc) (w : World) (K : Bool → World → Prop) : Prop := Calls Tryd.prog 14 #[.slice x_0.a x_0.l x_0.c, .slice x_1.a x_1.l x_1.c, .slice x_2.a x_2.l x_2.c] w (onRet (fun v w' => ∃ (y0 : Bool), v = .bool y0 ∧ K y0 w'))

theorem sim_preludelaw03_apart {x_0 : Slc} {x_1 : Slc} {x_2 : Slc} {w : World} {K : Bool → World → Prop} (h : sh_preludelaw03_apart c_preludelaw03_sameLibrary x_0 x_1 x_2 w K) : c_preludelaw03_apart x_0 x_1 x_2 w K := by
  have e : sh_preludelaw03_apart c_preludelaw03_sameLibrary x_0 x_1 x_2 w K = shF Tryd.prog 14 ⟨[(27, .of [0, 1, 2, 3, 4, 5, 6, 7, 8, 9, 10, 11, 12, 13, 14, 15, 16, 17, 18, 19, 20, 21, 22, 23, 24, 25, 26, 27, 28, 29, 30, 31, 32, 33, 34, 35, 36, 37, 38, 39, 40, 41, 42, 43, 44, 45, 46, 47])], [(2, [(7, (.int .i64))], [0, 1, 2]), (5, [(8, (.int .i64))], [0, 1, 2, 7]), (10, [(9, .sl), (10, (.int .i64))], [0, 1, 2]), (14, [(11, (.int .i64))], [0, 1, 2, 9]), (17, [(12, (.int .i64))], [0, 1, 2, 9, 11]), (21, [(13, (.int .i64))], [0, 1, 2, 9]), (25, [(15, (.int .i64))], [0, 1, 2, 9, 13, 14])], []⟩ [.slice x_0.a x_0.l x_0.c, .slice x_1.a x_1.l x_1.c, .slice x_2.a x_2.l x_2.c] w (fun v w' => decV .b v fun y0 => K y0 w') := by kernel_rfl
  exact Calls.mono (calls_of _ e h) (onRet_mono (fun _ _ h => decV_spec h))

-- 3 prelude/preludelaw03.LangCodes; callees ['preludelaw03_wide', 'preludelaw03_library', 'lang_Encode', 'lang_Digest', 'preluderef03_Encode', 'preluderef03_Digest', 'preludelaw03_sameBytes', 'preludelaw03_sameLibrary', 'lang_Decode', 'preluderef03_Decode', 'preludelaw03_apart']
def sh_preludelaw03_LangCodes (c_preludelaw03_wide : Slc → World → (Bool → World → Prop) → Prop) (c_preludelaw03_library : Slc → World → (Slc → Slc → World → Prop) → Prop) (c_lang_Encode : Slc → World → (Slc → Int → World → Prop) → Prop) (c_lang_Digest : Slc → World → (Int → Int → World → Prop) → Prop) (c_preluderef03_Encode : Slc → World → (Slc → Int → World → Prop) → Prop) (c_preluderef03_Digest : Slc → World → (Int → Int → World → Prop) → Prop) (c_preludelaw03_sameBytes : Slc → Slc → World → (Bool → World → Prop) → Prop) (c_preludelaw03_sameLibrary : Slc → Slc → World → (Bool → World → Prop) → Prop) (c_lang_Decode : Slc → World → (Slc → Int → Int → World → Prop) → Prop) (c_preluderef03_Decode : Slc → World → (Slc → Int → Int → World → Prop) → Prop) (c_preludelaw03_apart : Slc → Slc → Slc → World → (Bool → World → Prop) → Prop) (x_0 : Slc) (x_1 : Slc) (w : World) (K : Bool → World → Prop) : Prop :=
  c_preludelaw03_wide x_0 w fun r1 w2 => iteB r1
  (K true w2)
  (c_preludelaw03_library x_0 w2 fun r3 r4 w5 => c_lang_Encode r3 w5 fun r6 r7 w8 => c_lang_Encode r3 w8 fun r9 r10 w11 => c_lang_Digest r3 w11 fun r12 r13 w14 => c_preluderef03_Encode x_0 w14 fun r15 r16 w17 => c_preluderef03_Digest x_0 w17 fun r18 r19 w20 => iteB ((r7 : Int) != r16)
  (K false w20)
  (c_preludelaw03_sameBytes r6 r15 w20 fun r21 w22 => iteB (!r21)
  (K false w22)
  (c_preludelaw03_sameBytes r9 r15 w22 fun r23 w24 => iteB (!r23)
  (K false w24)
  (iteB ((r12 : Int) != r18)
  (K false w24)
  (iteB ((r13 : Int) != r19)
  (K false w24)
  (c_preludelaw03_sameLibrary r3 x_0 w24 fun r25 w26 => iteB (!r25)
  (K false w26)
  (idxP r4.a r4.l (x_0.l : Int) 6 fun a27 => ldStr a27 w26 fun s28 => iteB (!((s28).toList == (ByteArray.mk #[98, 101, 104, 105, 110, 100]).toList))
  (K false w26)
  (loopP (σ := Int × Unit) (fun st30 next29 w31 => (fun (x32 : Int) => iteB (decide ((x32 : Int) < (r6.l : Int)))
  (idxP r6.a r6.l x32 1 fun a33 => stP a33 (.int .u8 200) w31 fun w34 => next29 ((IntKind.i64.wrap (x32 + 1)), ()) w34)
  (newP #[.int .u8 201] 5 w31 fun a35 w36 => apP Tryd.prog #[23, 23] 23 [.slice r6.a r6.l r6.c, .slice (some a35) 1 1] w36 fun s38 w37 => c_preludelaw03_sameBytes r9 r15 w37 fun r39 w40 => iteB (!r39)
  (K false w40)
  (newP #[] 5 w40 fun a41 w42 => apP Tryd.prog #[23, 23] 23 [.slice (some a41) 0 0, .slice x_1.a x_1.l x_1.c] w42 fun s44 w43 => newP #[.int .u8 99] 5 w43 fun a45 w46 => apP Tryd.prog #[23, 23] 23 [.slice s44.a s44.l s44.c, .slice (some a45) 1 1] w46 fun s48 w47 => slP s48.a s48.l s48.c none (some (x_1.l : Int)) 1 fun p49 l50 c51 => c_lang_Decode ⟨p49, l50, c51⟩ w47 fun r52 r53 r54 w55 => slP s48.a s48.l s48.c none (some (x_1.l : Int)) 1 fun p56 l57 c58 => c_lang_Decode ⟨p56, l57, c58⟩ w55 fun r59 r60 r61 w62 => c_preluderef03_Decode x_1 w62 fun r63 r64 r65 w66 => iteB ((r54 : Int) != r65)
  (K false w66)
  (iteB ((r53 : Int) != r64)
  (K false w66)
  (c_preludelaw03_sameLibrary r52 r63 w66 fun r67 w68 => iteB (!r67)
  (K false w68)
  (c_preludelaw03_sameLibrary r59 r63 w68 fun r69 w70 => iteB (!r69)
  (K false w70)
  (slP s48.a s48.l s48.c none (some (x_1.l : Int)) 1 fun p71 l72 c73 => c_preludelaw03_sameBytes ⟨p71, l72, c73⟩ x_1 w70 fun r74 w75 => iteB (!r74)
  (K false w75)
  (idxP s48.a s48.l (x_1.l : Int) 1 fun a76 => ldI .u8 a76 w75 fun n77 => iteB ((n77 : Int) != 99)
  (K false w75)
  (c_preludelaw03_apart r52 r59 r63 w75 fun r78 w79 => K r78 w79))))))))) st30.1) (0, ()) w26))))))))

def c_preludelaw03_LangCodes (x_0 : Slc) (x_1 : Slc) (w : World) (K : Bool → World → Prop) : Prop := Calls Tryd.prog 3 #[.slice x_0.a x_0.l x_0.c, .slice x_1.a x_1.l x_1.c] w (onRet (fun v w' => ∃ (y0 : Bool), v = .bool y0 ∧ K y0 w'))

theorem sim_preludelaw03_LangCodes {x_0 : Slc} {x_1 : Slc} {w : World} {K : Bool → World → Prop} (h : sh_preludelaw03_LangCodes c_preludelaw03_wide c_preludelaw03_library c_lang_Encode c_lang_Digest c_preluderef03_Encode c_preluderef03_Digest c_preludelaw03_sameBytes c_preludelaw03_sameLibrary c_lang_Decode c_preluderef03_Decode c_preludelaw03_apart x_0 x_1 w K) : c_preludelaw03_LangCodes x_0 x_1 w K := by
  have e : sh_preludelaw03_LangCodes c_preludelaw03_wide c_preludelaw03_library c_lang_Encode c_lang_Digest c_preluderef03_Encode c_preluderef03_Digest c_preludelaw03_sameBytes c_preludelaw03_sameLibrary c_lang_Decode c_preluderef03_Decode c_preludelaw03_apart x_0 x_1 w K = shF Tryd.prog 3 ⟨[], [(12, [(17, (.int .i64))], [1, 7, 9, 13])], []⟩ [.slice x_0.a x_0.l x_0.c, .slice x_1.a x_1.l x_1.c] w (fun v w' => decV .b v fun y0 => K y0 w') := by kernel_rfl
  exact Calls.mono (calls_of _ e h) (onRet_mono (fun _ _ h => decV_spec h))

-- NOT 74 (runtime.boundsError).Error: no body
-- NOT 75 (runtime.boundsError).RuntimeError: no body
-- NOT 76 (runtime.errorString).Error: no body
-- NOT 77 (runtime.errorString).RuntimeError: no body
-- NOT 78 (runtime.plainError).Error: no body
-- NOT 79 (runtime.plainError).RuntimeError: no body
-- NOT 80 (runtime.errorAddressString).Error: no body
-- NOT 81 (runtime.errorAddressString).RuntimeError: no body
-- NOT 82 (*runtime.TypeAssertionError).Error: no body
-- NOT 83 (*runtime.TypeAssertionError).RuntimeError: no body
-- NOT 84 (*runtime.PanicNilError).Error: no body
-- NOT 85 (*runtime.PanicNilError).RuntimeError: no body
-- NOT 86 (*internal/abi.Type).Align: no body
-- NOT 87 (internal/runtime/maps.unhashableTypeError).Error: no body
-- NOT 88 (internal/runtime/maps.unhashableTypeError).RuntimeError: no body
-- NOT 89 (prelude/api.Errno).Error: no body
-- NOT 90 (*prelude/codec.Reader).At: no body
-- NOT 91 (internal/abi.Kind).String: no body
-- NOT 92 var's door: gosem.cut.vars holds initialisers alone; see the manifest's row cutvarsword (look 11, test files too): no body
-- NOT 93 var's door: prelude/codec.halves is laid by its own initialiser, plain data (look 11): no body
-- NOT 94 var's door: the look of gosem.cut.vars went over the folder that the caller named as the repository's root (look 11): no body
-- 95 gosem.cut.vars; callees []
def sh_gosem_cut_vars (w : World) (K : World → Prop) : Prop :=
  stP (Addr.mk 0 0 none) (.int .u32 0) w fun w1 => stP ((Addr.mk 0 0 none).add 1) (.int .u32 498536548) w1 fun w2 => stP ((Addr.mk 0 0 none).add 2) (.int .u32 997073096) w2 fun w3 => stP ((Addr.mk 0 0 none).add 3) (.int .u32 651767980) w3 fun w4 => stP ((Addr.mk 0 0 none).add 4) (.int .u32 1994146192) w4 fun w5 => stP ((Addr.mk 0 0 none).add 5) (.int .u32 1802195444) w5 fun w6 => stP ((Addr.mk 0 0 none).add 6) (.int .u32 1303535960) w6 fun w7 => stP ((Addr.mk 0 0 none).add 7) (.int .u32 1342533948) w7 fun w8 => stP ((Addr.mk 0 0 none).add 8) (.int .u32 3988292384) w8 fun w9 => stP ((Addr.mk 0 0 none).add 9) (.int .u32 4027552580) w9 fun w10 => stP ((Addr.mk 0 0 none).add 10) (.int .u32 3604390888) w10 fun w11 => stP ((Addr.mk 0 0 none).add 11) (.int .u32 3412177804) w11 fun w12 => stP ((Addr.mk 0 0 none).add 12) (.int .u32 2607071920) w12 fun w13 => stP ((Addr.mk 0 0 none).add 13) (.int .u32 2262029012) w13 fun w14 => stP ((Addr.mk 0 0 none).add 14) (.int .u32 2685067896) w14 fun w15 => stP ((Addr.mk 0 0 none).add 15) (.int .u32 3183342108) w15 fun w16 => K w16

def c_gosem_cut_vars (w : World) (K : World → Prop) : Prop := Calls Tryd.prog 95 #[] w (onRet (fun v w' => v = .tuple #[] ∧ K w'))

theorem sim_gosem_cut_vars {w : World} {K : World → Prop} (h : sh_gosem_cut_vars w K) : c_gosem_cut_vars  w K := by
  have e : sh_gosem_cut_vars w K = shF Tryd.prog 95 ⟨[], [], []⟩ [] w (fun v w' => decU v (K w')) := by kernel_rfl
  exact Calls.mono (calls_of _ e h) (onRet_mono (fun _ _ h => decU_spec h))

end Go.Proofs.YtgpdecfcjpblgaaDoor
