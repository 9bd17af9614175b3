import Derived.Test.YtgpdecfcjpblgaaProg
import Derived.Test.YtgpdecfcjpblgaaSh
set_option linter.unusedVariables false
namespace Go.Proofs.Ytgpdecfcjpblgaa
open Go Go.Sh
-- 14 prelude/lang.Spell; callees []
def sh_lang_Spell (op_0 : Int) (w : World) (K : ByteArray → World → Prop) : Prop :=
  newP #[.string ByteArray.empty, .string ByteArray.empty, .string ByteArray.empty, .string ByteArray.empty, .string ByteArray.empty, .string ByteArray.empty, .string ByteArray.empty, .string ByteArray.empty, .string ByteArray.empty, .string ByteArray.empty, .string ByteArray.empty, .string ByteArray.empty, .string ByteArray.empty, .string ByteArray.empty, .string ByteArray.empty, .string ByteArray.empty, .string ByteArray.empty, .string ByteArray.empty, .string ByteArray.empty, .string ByteArray.empty, .string ByteArray.empty, .string ByteArray.empty, .string ByteArray.empty, .string ByteArray.empty, .string ByteArray.empty, .string ByteArray.empty, .string ByteArray.empty, .string ByteArray.empty, .string ByteArray.empty, .string ByteArray.empty, .string ByteArray.empty, .string ByteArray.empty, .string ByteArray.empty, .string ByteArray.empty, .string ByteArray.empty, .string ByteArray.empty, .string ByteArray.empty] 92 w fun a1 w2 => stP a1 (.string (ByteArray.mk #[115, 116, 111, 112])) w2 fun w3 => stP (a1.add 1) (.string (ByteArray.mk #[112, 117, 115, 104])) w3 fun w4 => stP (a1.add 2) (.string (ByteArray.mk #[112, 111, 112])) w4 fun w5 => stP (a1.add 3) (.string (ByteArray.mk #[100, 117, 112])) w5 fun w6 => stP (a1.add 4) (.string (ByteArray.mk #[108, 111, 97, 100])) w6 fun w7 => stP (a1.add 5) (.string (ByteArray.mk #[115, 97, 118, 101])) w7 fun w8 => stP (a1.add 6) (.string (ByteArray.mk #[97, 114, 103])) w8 fun w9 => stP (a1.add 7) (.string (ByteArray.mk #[103, 101, 116])) w9 fun w10 => stP (a1.add 8) (.string (ByteArray.mk #[104, 97, 115])) w10 fun w11 => stP (a1.add 9) (.string (ByteArray.mk #[103, 101, 116, 120])) w11 fun w12 => stP (a1.add 10) (.string (ByteArray.mk #[97, 100, 100])) w12 fun w13 => stP (a1.add 11) (.string (ByteArray.mk #[115, 117, 98])) w13 fun w14 => stP (a1.add 12) (.string (ByteArray.mk #[109, 117, 108])) w14 fun w15 => stP (a1.add 13) (.string (ByteArray.mk #[100, 105, 118])) w15 fun w16 => stP (a1.add 14) (.string (ByteArray.mk #[109, 111, 100])) w16 fun w17 => stP (a1.add 15) (.string (ByteArray.mk #[97, 110, 100])) w17 fun w18 => stP (a1.add 16) (.string (ByteArray.mk #[111, 114])) w18 fun w19 => stP (a1.add 17) (.string (ByteArray.mk #[120, 111, 114])) w19 fun w20 => stP (a1.add 18) (.string (ByteArray.mk #[115, 104, 108])) w20 fun w21 => stP (a1.add 19) (.string (ByteArray.mk #[115, 104, 114])) w21 fun w22 => stP (a1.add 20) (.string (ByteArray.mk #[110, 101, 103])) w22 fun w23 => stP (a1.add 21) (.string (ByteArray.mk #[110, 111, 116])) w23 fun w24 => stP (a1.add 22) (.string (ByteArray.mk #[101, 113])) w24 fun w25 => stP (a1.add 23) (.string (ByteArray.mk #[110, 101])) w25 fun w26 => stP (a1.add 24) (.string (ByteArray.mk #[108, 116])) w26 fun w27 => stP (a1.add 25) (.string (ByteArray.mk #[108, 101])) w27 fun w28 => stP (a1.add 26) (.string (ByteArray.mk #[103, 116])) w28 fun w29 => stP (a1.add 27) (.string (ByteArray.mk #[103, 101])) w29 fun w30 => stP (a1.add 28) (.string (ByteArray.mk #[109, 105, 110])) w30 fun w31 => stP (a1.add 29) (.string (ByteArray.mk #[109, 97, 120])) w31 fun w32 => stP (a1.add 30) (.string (ByteArray.mk #[106, 117, 109, 112])) w32 fun w33 => stP (a1.add 31) (.string (ByteArray.mk #[122, 101, 114, 111])) w33 fun w34 => stP (a1.add 32) (.string (ByteArray.mk #[112, 117, 116])) w34 fun w35 => stP (a1.add 33) (.string (ByteArray.mk #[100, 101, 108])) w35 fun w36 => stP (a1.add 34) (.string (ByteArray.mk #[112, 117, 116, 120])) w36 fun w37 => stP (a1.add 35) (.string (ByteArray.mk #[111, 117, 116])) w37 fun w38 => stP (a1.add 36) (.string (ByteArray.mk #[97, 98, 111, 114, 116])) w38 fun w39 => iteB (decide ((op_0 : Int) < 0))
  (K (ByteArray.mk #[]) w39)
  (iteB (decide ((op_0 : Int) ≥ 37))
  (K (ByteArray.mk #[]) w39)
  (arrP 37 op_0 (ldStr (a1.add (Int.toNat op_0 * 1)) w39 fun s40 => K s40 w39)))

def c_lang_Spell (op_0 : Int) (w : World) (K : ByteArray → World → Prop) : Prop := Calls Try.prog 14 #[.int .i64 op_0] w (onRet (fun v w' => ∃ (y0 : ByteArray), v = .string y0 ∧ K y0 w'))

theorem sim_lang_Spell {op_0 : Int} {w : World} {K : ByteArray → World → Prop} (h : sh_lang_Spell op_0 w K) : c_lang_Spell op_0 w K := by
  have e : sh_lang_Spell op_0 w K = shF Try.prog 14 ⟨[], [], []⟩ [.int .i64 op_0] w (fun v w' => decV .str v fun y0 => K y0 w') := by kernel_rfl
  exact Calls.mono (calls_of _ e h) (onRet_mono (fun _ _ h => decV_spec h))

-- 12 prelude/lang.Op; callees ['lang_Spell']
def sh_lang_Op (c_lang_Spell : Int → World → (ByteArray → World → Prop) → Prop) (name_0 : ByteArray) (w : World) (K : Int → Bool → World → Prop) : Prop :=
  loopP (σ := Int × Unit) (fun st2 next1 w3 => (fun (op_4 : Int) => iteB (decide ((op_4 : Int) < 37))
  (iteB (!((name_0).toList == (ByteArray.mk #[]).toList))
  (c_lang_Spell op_4 w3 fun r5 w6 => iteB ((r5).toList == (name_0).toList)
  (K op_4 true w6)
  (next1 ((IntKind.i64.wrap (op_4 + 1)), ()) w6))
  (K 0 false w3))
  (K 0 false w3)) st2.1) (0, ()) w

def c_lang_Op (name_0 : ByteArray) (w : World) (K : Int → Bool → World → Prop) : Prop := Calls Try.prog 12 #[.string name_0] w (onRet (fun v w' => ∃ (y0 : Int), ∃ (y1 : Bool), v = .tuple #[.int .i64 y0, .bool y1] ∧ K y0 y1 w'))

theorem sim_lang_Op {name_0 : ByteArray} {w : World} {K : Int → Bool → World → Prop} (h : sh_lang_Op c_lang_Spell name_0 w K) : c_lang_Op name_0 w K := by
  have e : sh_lang_Op c_lang_Spell name_0 w K = shF Try.prog 12 ⟨[], [(2, [(4, (.int .i64))], [0])], []⟩ [.string name_0] w (fun v w' => decT [(false, [(.int .i64)]), (false, [.b])] v fun s => (fun (y0 : Int) (y1 : Bool) => K y0 y1 w') s.1 s.2.1) := by kernel_rfl
  exact Calls.mono (calls_of _ e h) (onRet_mono (fun _ _ h => by obtain ⟨s, h1, h2⟩ := decT_spec h; exact ⟨s.1, s.2.1, h1, h2⟩))

-- 52 prelude/preluderef03.names; callees []
def sh_preluderef03_names (w : World) (K : ByteArray → ByteArray → ByteArray → ByteArray → ByteArray → ByteArray → ByteArray → ByteArray → ByteArray → ByteArray → ByteArray → ByteArray → ByteArray → ByteArray → ByteArray → ByteArray → ByteArray → ByteArray → ByteArray → ByteArray → ByteArray → ByteArray → ByteArray → ByteArray → ByteArray → ByteArray → ByteArray → ByteArray → ByteArray → ByteArray → ByteArray → ByteArray → ByteArray → ByteArray → ByteArray → ByteArray → ByteArray → World → Prop) : Prop :=
  newP #[.string ByteArray.empty, .string ByteArray.empty, .string ByteArray.empty, .string ByteArray.empty, .string ByteArray.empty, .string ByteArray.empty, .string ByteArray.empty, .string ByteArray.empty, .string ByteArray.empty, .string ByteArray.empty, .string ByteArray.empty, .string ByteArray.empty, .string ByteArray.empty, .string ByteArray.empty, .string ByteArray.empty, .string ByteArray.empty, .string ByteArray.empty, .string ByteArray.empty, .string ByteArray.empty, .string ByteArray.empty, .string ByteArray.empty, .string ByteArray.empty, .string ByteArray.empty, .string ByteArray.empty, .string ByteArray.empty, .string ByteArray.empty, .string ByteArray.empty, .string ByteArray.empty, .string ByteArray.empty, .string ByteArray.empty, .string ByteArray.empty, .string ByteArray.empty, .string ByteArray.empty, .string ByteArray.empty, .string ByteArray.empty, .string ByteArray.empty, .string ByteArray.empty] 92 w fun a1 w2 => stP a1 (.string (ByteArray.mk #[115, 116, 111, 112])) w2 fun w3 => stP (a1.add 1) (.string (ByteArray.mk #[112, 117, 115, 104])) w3 fun w4 => stP (a1.add 2) (.string (ByteArray.mk #[112, 111, 112])) w4 fun w5 => stP (a1.add 3) (.string (ByteArray.mk #[100, 117, 112])) w5 fun w6 => stP (a1.add 4) (.string (ByteArray.mk #[108, 111, 97, 100])) w6 fun w7 => stP (a1.add 5) (.string (ByteArray.mk #[115, 97, 118, 101])) w7 fun w8 => stP (a1.add 6) (.string (ByteArray.mk #[97, 114, 103])) w8 fun w9 => stP (a1.add 7) (.string (ByteArray.mk #[103, 101, 116])) w9 fun w10 => stP (a1.add 8) (.string (ByteArray.mk #[104, 97, 115])) w10 fun w11 => stP (a1.add 9) (.string (ByteArray.mk #[103, 101, 116, 120])) w11 fun w12 => stP (a1.add 10) (.string (ByteArray.mk #[97, 100, 100])) w12 fun w13 => stP (a1.add 11) (.string (ByteArray.mk #[115, 117, 98])) w13 fun w14 => stP (a1.add 12) (.string (ByteArray.mk #[109, 117, 108])) w14 fun w15 => stP (a1.add 13) (.string (ByteArray.mk #[100, 105, 118])) w15 fun w16 => stP (a1.add 14) (.string (ByteArray.mk #[109, 111, 100])) w16 fun w17 => stP (a1.add 15) (.string (ByteArray.mk #[97, 110, 100])) w17 fun w18 => stP (a1.add 16) (.string (ByteArray.mk #[111, 114])) w18 fun w19 => stP (a1.add 17) (.string (ByteArray.mk #[120, 111, 114])) w19 fun w20 => stP (a1.add 18) (.string (ByteArray.mk #[115, 104, 108])) w20 fun w21 => stP (a1.add 19) (.string (ByteArray.mk #[115, 104, 114])) w21 fun w22 => stP (a1.add 20) (.string (ByteArray.mk #[110, 101, 103])) w22 fun w23 => stP (a1.add 21) (.string (ByteArray.mk #[110, 111, 116])) w23 fun w24 => stP (a1.add 22) (.string (ByteArray.mk #[101, 113])) w24 fun w25 => stP (a1.add 23) (.string (ByteArray.mk #[110, 101])) w25 fun w26 => stP (a1.add 24) (.string (ByteArray.mk #[108, 116])) w26 fun w27 => stP (a1.add 25) (.string (ByteArray.mk #[108, 101])) w27 fun w28 => stP (a1.add 26) (.string (ByteArray.mk #[103, 116])) w28 fun w29 => stP (a1.add 27) (.string (ByteArray.mk #[103, 101])) w29 fun w30 => stP (a1.add 28) (.string (ByteArray.mk #[109, 105, 110])) w30 fun w31 => stP (a1.add 29) (.string (ByteArray.mk #[109, 97, 120])) w31 fun w32 => stP (a1.add 30) (.string (ByteArray.mk #[106, 117, 109, 112])) w32 fun w33 => stP (a1.add 31) (.string (ByteArray.mk #[122, 101, 114, 111])) w33 fun w34 => stP (a1.add 32) (.string (ByteArray.mk #[112, 117, 116])) w34 fun w35 => stP (a1.add 33) (.string (ByteArray.mk #[100, 101, 108])) w35 fun w36 => stP (a1.add 34) (.string (ByteArray.mk #[112, 117, 116, 120])) w36 fun w37 => stP (a1.add 35) (.string (ByteArray.mk #[111, 117, 116])) w37 fun w38 => stP (a1.add 36) (.string (ByteArray.mk #[97, 98, 111, 114, 116])) w38 fun w39 => ldStr a1 w39 fun s40 => ldStr (a1.add 1) w39 fun s41 => ldStr (a1.add 2) w39 fun s42 => ldStr (a1.add 3) w39 fun s43 => ldStr (a1.add 4) w39 fun s44 => ldStr (a1.add 5) w39 fun s45 => ldStr (a1.add 6) w39 fun s46 => ldStr (a1.add 7) w39 fun s47 => ldStr (a1.add 8) w39 fun s48 => ldStr (a1.add 9) w39 fun s49 => ldStr (a1.add 10) w39 fun s50 => ldStr (a1.add 11) w39 fun s51 => ldStr (a1.add 12) w39 fun s52 => ldStr (a1.add 13) w39 fun s53 => ldStr (a1.add 14) w39 fun s54 => ldStr (a1.add 15) w39 fun s55 => ldStr (a1.add 16) w39 fun s56 => ldStr (a1.add 17) w39 fun s57 => ldStr (a1.add 18) w39 fun s58 => ldStr (a1.add 19) w39 fun s59 => ldStr (a1.add 20) w39 fun s60 => ldStr (a1.add 21) w39 fun s61 => ldStr (a1.add 22) w39 fun s62 => ldStr (a1.add 23) w39 fun s63 => ldStr (a1.add 24) w39 fun s64 => ldStr (a1.add 25) w39 fun s65 => ldStr (a1.add 26) w39 fun s66 => ldStr (a1.add 27) w39 fun s67 => ldStr (a1.add 28) w39 fun s68 => ldStr (a1.add 29) w39 fun s69 => ldStr (a1.add 30) w39 fun s70 => ldStr (a1.add 31) w39 fun s71 => ldStr (a1.add 32) w39 fun s72 => ldStr (a1.add 33) w39 fun s73 => ldStr (a1.add 34) w39 fun s74 => ldStr (a1.add 35) w39 fun s75 => ldStr (a1.add 36) w39 fun s76 => K s40 s41 s42 s43 s44 s45 s46 s47 s48 s49 s50 s51 s52 s53 s54 s55 s56 s57 s58 s59 s60 s61 s62 s63 s64 s65 s66 s67 s68 s69 s70 s71 s72 s73 s74 s75 s76 w39

def c_preluderef03_names (w : World) (K : ByteArray → ByteArray → ByteArray → ByteArray → ByteArray → ByteArray → ByteArray → ByteArray → ByteArray → ByteArray → ByteArray → ByteArray → ByteArray → ByteArray → ByteArray → ByteArray → ByteArray → ByteArray → ByteArray → ByteArray → ByteArray → ByteArray → ByteArray → ByteArray → ByteArray → ByteArray → ByteArray → ByteArray → ByteArray → ByteArray → ByteArray → ByteArray → ByteArray → ByteArray → ByteArray → ByteArray → ByteArray → World → Prop) : Prop := Calls Try.prog 52 #[] w (onRet (fun v w' => ∃ (y0 : ByteArray), ∃ (y1 : ByteArray), ∃ (y2 : ByteArray), ∃ (y3 : ByteArray), ∃ (y4 : ByteArray), ∃ (y5 : ByteArray), ∃ (y6 : ByteArray), ∃ (y7 : ByteArray), ∃ (y8 : ByteArray), ∃ (y9 : ByteArray), ∃ (y10 : ByteArray), ∃ (y11 : ByteArray), ∃ (y12 : ByteArray), ∃ (y13 : ByteArray), ∃ (y14 : ByteArray), ∃ (y15 : ByteArray), ∃ (y16 : ByteArray), ∃ (y17 : ByteArray), ∃ (y18 : ByteArray), ∃ (y19 : ByteArray), ∃ (y20 : ByteArray), ∃ (y21 : ByteArray), ∃ (y22 : ByteArray), ∃ (y23 : ByteArray), ∃ (y24 : ByteArray), ∃ (y25 : ByteArray), ∃ (y26 : ByteArray), ∃ (y27 : ByteArray), ∃ (y28 : ByteArray), ∃ (y29 : ByteArray), ∃ (y30 : ByteArray), ∃ (y31 : ByteArray), ∃ (y32 : ByteArray), ∃ (y33 : ByteArray), ∃ (y34 : ByteArray), ∃ (y35 : ByteArray), ∃ (y36 : ByteArray), v = .agg #[.string y0, .string y1, .string y2, .string y3, .string y4, .string y5, .string y6, .string y7, .string y8, .string y9, .string y10, .string y11, .string y12, .string y13, .string y14, .string y15, .string y16, .string y17, .string y18, .string y19, .string y20, .string y21, .string y22, .string y23, .string y24, .string y25, .string y26, .string y27, .string y28, .string y29, .string y30, .string y31, .string y32, .string y33, .string y34, .string y35, .string y36] ∧ K y0 y1 y2 y3 y4 y5 y6 y7 y8 y9 y10 y11 y12 y13 y14 y15 y16 y17 y18 y19 y20 y21 y22 y23 y24 y25 y26 y27 y28 y29 y30 y31 y32 y33 y34 y35 y36 w'))

theorem sim_preluderef03_names {w : World} {K : ByteArray → ByteArray → ByteArray → ByteArray → ByteArray → ByteArray → ByteArray → ByteArray → ByteArray → ByteArray → ByteArray → ByteArray → ByteArray → ByteArray → ByteArray → ByteArray → ByteArray → ByteArray → ByteArray → ByteArray → ByteArray → ByteArray → ByteArray → ByteArray → ByteArray → ByteArray → ByteArray → ByteArray → ByteArray → ByteArray → ByteArray → ByteArray → ByteArray → ByteArray → ByteArray → ByteArray → ByteArray → World → Prop} (h : sh_preluderef03_names w K) : c_preluderef03_names  w K := by
  have e : sh_preluderef03_names w K = shF Try.prog 52 ⟨[], [], []⟩ [] w (fun v w' => decA [.str, .str, .str, .str, .str, .str, .str, .str, .str, .str, .str, .str, .str, .str, .str, .str, .str, .str, .str, .str, .str, .str, .str, .str, .str, .str, .str, .str, .str, .str, .str, .str, .str, .str, .str, .str, .str] v fun s => (fun (y0 : ByteArray) (y1 : ByteArray) (y2 : ByteArray) (y3 : ByteArray) (y4 : ByteArray) (y5 : ByteArray) (y6 : ByteArray) (y7 : ByteArray) (y8 : ByteArray) (y9 : ByteArray) (y10 : ByteArray) (y11 : ByteArray) (y12 : ByteArray) (y13 : ByteArray) (y14 : ByteArray) (y15 : ByteArray) (y16 : ByteArray) (y17 : ByteArray) (y18 : ByteArray) (y19 : ByteArray) (y20 : ByteArray) (y21 : ByteArray) (y22 : ByteArray) (y23 : ByteArray) (y24 : ByteArray) (y25 : ByteArray) (y26 : ByteArray) (y27 : ByteArray) (y28 : ByteArray) (y29 : ByteArray) (y30 : ByteArray) (y31 : ByteArray) (y32 : ByteArray) (y33 : ByteArray) (y34 : ByteArray) (y35 : ByteArray) (y36 : ByteArray) => K y0 y1 y2 y3 y4 y5 y6 y7 y8 y9 y10 y11 y12 y13 y14 y15 y16 y17 y18 y19 y20 y21 y22 y23 y24 y25 y26 y27 y28 y29 y30 y31 y32 y33 y34 y35 y36 w') s.1 s.2.1 s.2.2.1 s.2.2.2.1 s.2.2.2.2.1 s.2.2.2.2.2.1 s.2.2.2.2.2.2.1 s.2.2.2.2.2.2.2.1 s.2.2.2.2.2.2.2.2.1 s.2.2.2.2.2.2.2.2.2.1 s.2.2.2.2.2.2.2.2.2.2.1 s.2.2.2.2.2.2.2.2.2.2.2.1 s.2.2.2.2.2.2.2.2.2.2.2.2.1 s.2.2.2.2.2.2.2.2.2.2.2.2.2.1 s.2.2.2.2.2.2.2.2.2.2.2.2.2.2.1 s.2.2.2.2.2.2.2.2.2.2.2.2.2.2.2.1 s.2.2.2.2.2.2.2.2.2.2.2.2.2.2.2.2.1 s.2.2.2.2.2.2.2.2.2.2.2.2.2.2.2.2.2.1 s.2.2.2.2.2.2.2.2.2.2.2.2.2.2.2.2.2.2.1 s.2.2.2.2.2.2.2.2.2.2.2.2.2.2.2.2.2.2.2.1 s.2.2.2.2.2.2.2.2.2.2.2.2.2.2.2.2.2.2.2.2.1 s.2.2.2.2.2.2.2.2.2.2.2.2.2.2.2.2.2.2.2.2.2.1 s.2.2.2.2.2.2.2.2.2.2.2.2.2.2.2.2.2.2.2.2.2.2.1 s.2.2.2.2.2.2.2.2.2.2.2.2.2.2.2.2.2.2.2.2.2.2.2.1 s.2.2.2.2.2.2.2.2.2.2.2.2.2.2.2.2.2.2.2.2.2.2.2.2.1 s.2.2.2.2.2.2.2.2.2.2.2.2.2.2.2.2.2.2.2.2.2.2.2.2.2.1 s.2.2.2.2.2.2.2.2.2.2.2.2.2.2.2.2.2.2.2.2.2.2.2.2.2.2.1 s.2.2.2.2.2.2.2.2.2.2.2.2.2.2.2.2.2.2.2.2.2.2.2.2.2.2.2.1 s.2.2.2.2.2.2.2.2.2.2.2.2.2.2.2.2.2.2.2.2.2.2.2.2.2.2.2.2.1 s.2.2.2.2.2.2.2.2.2.2.2.2.2.2.2.2.2.2.2.2.2.2.2.2.2.2.2.2.2.1 s.2.2.2.2.2.2.2.2.2.2.2.2.2.2.2.2.2.2.2.2.2.2.2.2.2.2.2.2.2.2.1 s.2.2.2.2.2.2.2.2.2.2.2.2.2.2.2.2.2.2.2.2.2.2.2.2.2.2.2.2.2.2.2.1 s.2.2.2.2.2.2.2.2.2.2.2.2.2.2.2.2.2.2.2.2.2.2.2.2.2.2.2.2.2.2.2.2.1 s.2.2.2.2.2.2.2.2.2.2.2.2.2.2.2.2.2.2.2.2.2.2.2.2.2.2.2.2.2.2.2.2.2.1 s.2.2.2.2.2.2.2.2.2.2.2.2.2.2.2.2.2.2.2.2.2.2.2.2.2.2.2.2.2.2.2.2.2.2.1 s.2.2.2.2.2.2.2.2.2.2.2.2.2.2.2.2.2.2.2.2.2.2.2.2.2.2.2.2.2.2.2.2.2.2.2.1 s.2.2.2.2.2.2.2.2.2.2.2.2.2.2.2.2.2.2.2.2.2.2.2.2.2.2.2.2.2.2.2.2.2.2.2.2.1) := by kernel_rfl
  exact Calls.mono (calls_of _ e h) (onRet_mono (fun _ _ h => by obtain ⟨s, h1, h2⟩ := decA_spec h; exact ⟨s.1, s.2.1, s.2.2.1, s.2.2.2.1, s.2.2.2.2.1, s.2.2.2.2.2.1, s.2.2.2.2.2.2.1, s.2.2.2.2.2.2.2.1, s.2.2.2.2.2.2.2.2.1, s.2.2.2.2.2.2.2.2.2.1, s.2.2.2.2.2.2.2.2.2.2.1, s.2.2.2.2.2.2.2.2.2.2.2.1, s.2.2.2.2.2.2.2.2.2.2.2.2.1, s.2.2.2.2.2.2.2.2.2.2.2.2.2.1, s.2.2.2.2.2.2.2.2.2.2.2.2.2.2.1, s.2.2.2.2.2.2.2.2.2.2.2.2.2.2.2.1, s.2.2.2.2.2.2.2.2.2.2.2.2.2.2.2.2.1, s.2.2.2.2.2.2.2.2.2.2.2.2.2.2.2.2.2.1, s.2.2.2.2.2.2.2.2.2.2.2.2.2.2.2.2.2.2.1, s.2.2.2.2.2.2.2.2.2.2.2.2.2.2.2.2.2.2.2.1, s.2.2.2.2.2.2.2.2.2.2.2.2.2.2.2.2.2.2.2.2.1, s.2.2.2.2.2.2.2.2.2.2.2.2.2.2.2.2.2.2.2.2.2.1, s.2.2.2.2.2.2.2.2.2.2.2.2.2.2.2.2.2.2.2.2.2.2.1, s.2.2.2.2.2.2.2.2.2.2.2.2.2.2.2.2.2.2.2.2.2.2.2.1, s.2.2.2.2.2.2.2.2.2.2.2.2.2.2.2.2.2.2.2.2.2.2.2.2.1, s.2.2.2.2.2.2.2.2.2.2.2.2.2.2.2.2.2.2.2.2.2.2.2.2.2.1, s.2.2.2.2.2.2.2.2.2.2.2.2.2.2.2.2.2.2.2.2.2.2.2.2.2.2.1, s.2.2.2.2.2.2.2.2.2.2.2.2.2.2.2.2.2.2.2.2.2.2.2.2.2.2.2.1, s.2.2.2.2.2.2.2.2.2.2.2.2.2.2.2.2.2.2.2.2.2.2.2.2.2.2.2.2.1, s.2.2.2.2.2.2.2.2.2.2.2.2.2.2.2.2.2.2.2.2.2.2.2.2.2.2.2.2.2.1, s.2.2.2.2.2.2.2.2.2.2.2.2.2.2.2.2.2.2.2.2.2.2.2.2.2.2.2.2.2.2.1, s.2.2.2.2.2.2.2.2.2.2.2.2.2.2.2.2.2.2.2.2.2.2.2.2.2.2.2.2.2.2.2.1, s.2.2.2.2.2.2.2.2.2.2.2.2.2.2.2.2.2.2.2.2.2.2.2.2.2.2.2.2.2.2.2.2.1, s.2.2.2.2.2.2.2.2.2.2.2.2.2.2.2.2.2.2.2.2.2.2.2.2.2.2.2.2.2.2.2.2.2.1, s.2.2.2.2.2.2.2.2.2.2.2.2.2.2.2.2.2.2.2.2.2.2.2.2.2.2.2.2.2.2.2.2.2.2.1, s.2.2.2.2.2.2.2.2.2.2.2.2.2.2.2.2.2.2.2.2.2.2.2.2.2.2.2.2.2.2.2.2.2.2.2.1, s.2.2.2.2.2.2.2.2.2.2.2.2.2.2.2.2.2.2.2.2.2.2.2.2.2.2.2.2.2.2.2.2.2.2.2.2.1, h1, h2⟩))

-- 13 prelude/preluderef03.Op; callees ['preluderef03_names']
def sh_preluderef03_Op (c_preluderef03_names : World → (ByteArray → ByteArray → ByteArray → ByteArray → ByteArray → ByteArray → ByteArray → ByteArray → ByteArray → ByteArray → ByteArray → ByteArray → ByteArray → ByteArray → ByteArray → ByteArray → ByteArray → ByteArray → ByteArray → ByteArray → ByteArray → ByteArray → ByteArray → ByteArray → ByteArray → ByteArray → ByteArray → ByteArray → ByteArray → ByteArray → ByteArray → ByteArray → ByteArray → ByteArray → ByteArray → ByteArray → ByteArray → World → Prop) → Prop) (name_0 : ByteArray) (w : World) (K : Int → Bool → World → Prop) : Prop :=
  c_preluderef03_names  w fun r1 r2 r3 r4 r5 r6 r7 r8 r9 r10 r11 r12 r13 r14 r15 r16 r17 r18 r19 r20 r21 r22 r23 r24 r25 r26 r27 r28 r29 r30 r31 r32 r33 r34 r35 r36 r37 w38 => newP #[.string ByteArray.empty, .string ByteArray.empty, .string ByteArray.empty, .string ByteArray.empty, .string ByteArray.empty, .string ByteArray.empty, .string ByteArray.empty, .string ByteArray.empty, .string ByteArray.empty, .string ByteArray.empty, .string ByteArray.empty, .string ByteArray.empty, .string ByteArray.empty, .string ByteArray.empty, .string ByteArray.empty, .string ByteArray.empty, .string ByteArray.empty, .string ByteArray.empty, .string ByteArray.empty, .string ByteArray.empty, .string ByteArray.empty, .string ByteArray.empty, .string ByteArray.empty, .string ByteArray.empty, .string ByteArray.empty, .string ByteArray.empty, .string ByteArray.empty, .string ByteArray.empty, .string ByteArray.empty, .string ByteArray.empty, .string ByteArray.empty, .string ByteArray.empty, .string ByteArray.empty, .string ByteArray.empty, .string ByteArray.empty, .string ByteArray.empty, .string ByteArray.empty] 92 w38 fun a39 w40 => stP a39 (.string r1) w40 fun w41 => stP (a39.add 1) (.string r2) w41 fun w42 => stP (a39.add 2) (.string r3) w42 fun w43 => stP (a39.add 3) (.string r4) w43 fun w44 => stP (a39.add 4) (.string r5) w44 fun w45 => stP (a39.add 5) (.string r6) w45 fun w46 => stP (a39.add 6) (.string r7) w46 fun w47 => stP (a39.add 7) (.string r8) w47 fun w48 => stP (a39.add 8) (.string r9) w48 fun w49 => stP (a39.add 9) (.string r10) w49 fun w50 => stP (a39.add 10) (.string r11) w50 fun w51 => stP (a39.add 11) (.string r12) w51 fun w52 => stP (a39.add 12) (.string r13) w52 fun w53 => stP (a39.add 13) (.string r14) w53 fun w54 => stP (a39.add 14) (.string r15) w54 fun w55 => stP (a39.add 15) (.string r16) w55 fun w56 => stP (a39.add 16) (.string r17) w56 fun w57 => stP (a39.add 17) (.string r18) w57 fun w58 => stP (a39.add 18) (.string r19) w58 fun w59 => stP (a39.add 19) (.string r20) w59 fun w60 => stP (a39.add 20) (.string r21) w60 fun w61 => stP (a39.add 21) (.string r22) w61 fun w62 => stP (a39.add 22) (.string r23) w62 fun w63 => stP (a39.add 23) (.string r24) w63 fun w64 => stP (a39.add 24) (.string r25) w64 fun w65 => stP (a39.add 25) (.string r26) w65 fun w66 => stP (a39.add 26) (.string r27) w66 fun w67 => stP (a39.add 27) (.string r28) w67 fun w68 => stP (a39.add 28) (.string r29) w68 fun w69 => stP (a39.add 29) (.string r30) w69 fun w70 => stP (a39.add 30) (.string r31) w70 fun w71 => stP (a39.add 31) (.string r32) w71 fun w72 => stP (a39.add 32) (.string r33) w72 fun w73 => stP (a39.add 33) (.string r34) w73 fun w74 => stP (a39.add 34) (.string r35) w74 fun w75 => stP (a39.add 35) (.string r36) w75 fun w76 => stP (a39.add 36) (.string r37) w76 fun w77 => loopP (σ := Int × Unit) (fun st79 next78 w80 => (fun (i_81 : Int) => iteB (decide ((i_81 : Int) < 37))
  (arrP 37 i_81 (ldStr (a39.add (Int.toNat i_81 * 1)) w80 fun s82 => iteB ((s82).toList == (name_0).toList)
  (K i_81 true w80)
  (next78 ((IntKind.i64.wrap (i_81 + 1)), ()) w80)))
  (K 0 false w80)) st79.1) (0, ()) w77

def c_preluderef03_Op (name_0 : ByteArray) (w : World) (K : Int → Bool → World → Prop) : Prop := Calls Try.prog 13 #[.string name_0] w (onRet (fun v w' => ∃ (y0 : Int), ∃ (y1 : Bool), v = .tuple #[.int .i64 y0, .bool y1] ∧ K y0 y1 w'))

theorem sim_preluderef03_Op {name_0 : ByteArray} {w : World} {K : Int → Bool → World → Prop} (h : sh_preluderef03_Op c_preluderef03_names name_0 w K) : c_preluderef03_Op name_0 w K := by
  have e : sh_preluderef03_Op c_preluderef03_names name_0 w K = shF Try.prog 13 ⟨[], [(3, [(5, (.int .i64))], [0, 4])], []⟩ [.string name_0] w (fun v w' => decT [(false, [(.int .i64)]), (false, [.b])] v fun s => (fun (y0 : Int) (y1 : Bool) => K y0 y1 w') s.1 s.2.1) := by kernel_rfl
  exact Calls.mono (calls_of _ e h) (onRet_mono (fun _ _ h => by obtain ⟨s, h1, h2⟩ := decT_spec h; exact ⟨s.1, s.2.1, h1, h2⟩))

-- 15 prelude/preluderef03.Spell; callees ['preluderef03_names']
def sh_preluderef03_Spell (c_preluderef03_names : World → (ByteArray → ByteArray → ByteArray → ByteArray → ByteArray → ByteArray → ByteArray → ByteArray → ByteArray → ByteArray → ByteArray → ByteArray → ByteArray → ByteArray → ByteArray → ByteArray → ByteArray → ByteArray → ByteArray → ByteArray → ByteArray → ByteArray → ByteArray → ByteArray → ByteArray → ByteArray → ByteArray → ByteArray → ByteArray → ByteArray → ByteArray → ByteArray → ByteArray → ByteArray → ByteArray → ByteArray → ByteArray → World → Prop) → Prop) (op_0 : Int) (w : World) (K : ByteArray → World → Prop) : Prop :=
  iteB (decide ((op_0 : Int) < 0))
  (K (ByteArray.mk #[]) w)
  (iteB (decide ((op_0 : Int) ≥ 37))
  (K (ByteArray.mk #[]) w)
  (c_preluderef03_names  w fun r1 r2 r3 r4 r5 r6 r7 r8 r9 r10 r11 r12 r13 r14 r15 r16 r17 r18 r19 r20 r21 r22 r23 r24 r25 r26 r27 r28 r29 r30 r31 r32 r33 r34 r35 r36 r37 w38 => newP #[.string ByteArray.empty, .string ByteArray.empty, .string ByteArray.empty, .string ByteArray.empty, .string ByteArray.empty, .string ByteArray.empty, .string ByteArray.empty, .string ByteArray.empty, .string ByteArray.empty, .string ByteArray.empty, .string ByteArray.empty, .string ByteArray.empty, .string ByteArray.empty, .string ByteArray.empty, .string ByteArray.empty, .string ByteArray.empty, .string ByteArray.empty, .string ByteArray.empty, .string ByteArray.empty, .string ByteArray.empty, .string ByteArray.empty, .string ByteArray.empty, .string ByteArray.empty, .string ByteArray.empty, .string ByteArray.empty, .string ByteArray.empty, .string ByteArray.empty, .string ByteArray.empty, .string ByteArray.empty, .string ByteArray.empty, .string ByteArray.empty, .string ByteArray.empty, .string ByteArray.empty, .string ByteArray.empty, .string ByteArray.empty, .string ByteArray.empty, .string ByteArray.empty] 92 w38 fun a39 w40 => stP a39 (.string r1) w40 fun w41 => stP (a39.add 1) (.string r2) w41 fun w42 => stP (a39.add 2) (.string r3) w42 fun w43 => stP (a39.add 3) (.string r4) w43 fun w44 => stP (a39.add 4) (.string r5) w44 fun w45 => stP (a39.add 5) (.string r6) w45 fun w46 => stP (a39.add 6) (.string r7) w46 fun w47 => stP (a39.add 7) (.string r8) w47 fun w48 => stP (a39.add 8) (.string r9) w48 fun w49 => stP (a39.add 9) (.string r10) w49 fun w50 => stP (a39.add 10) (.string r11) w50 fun w51 => stP (a39.add 11) (.string r12) w51 fun w52 => stP (a39.add 12) (.string r13) w52 fun w53 => stP (a39.add 13) (.string r14) w53 fun w54 => stP (a39.add 14) (.string r15) w54 fun w55 => stP (a39.add 15) (.string r16) w55 fun w56 => stP (a39.add 16) (.string r17) w56 fun w57 => stP (a39.add 17) (.string r18) w57 fun w58 => stP (a39.add 18) (.string r19) w58 fun w59 => stP (a39.add 19) (.string r20) w59 fun w60 => stP (a39.add 20) (.string r21) w60 fun w61 => stP (a39.add 21) (.string r22) w61 fun w62 => stP (a39.add 22) (.string r23) w62 fun w63 => stP (a39.add 23) (.string r24) w63 fun w64 => stP (a39.add 24) (.string r25) w64 fun w65 => stP (a39.add 25) (.string r26) w65 fun w66 => stP (a39.add 26) (.string r27) w66 fun w67 => stP (a39.add 27) (.string r28) w67 fun w68 => stP (a39.add 28) (.string r29) w68 fun w69 => stP (a39.add 29) (.string r30) w69 fun w70 => stP (a39.add 30) (.string r31) w70 fun w71 => stP (a39.add 31) (.string r32) w71 fun w72 => stP (a39.add 32) (.string r33) w72 fun w73 => stP (a39.add 33) (.string r34) w73 fun w74 => stP (a39.add 34) (.string r35) w74 fun w75 => stP (a39.add 35) (.string r36) w75 fun w76 => stP (a39.add 36) (.string r37) w76 fun w77 => arrP 37 op_0 (ldStr (a39.add (Int.toNat op_0 * 1)) w77 fun s78 => K s78 w77)))

def c_preluderef03_Spell (op_0 : Int) (w : World) (K : ByteArray → World → Prop) : Prop := Calls Try.prog 15 #[.int .i64 op_0] w (onRet (fun v w' => ∃ (y0 : ByteArray), v = .string y0 ∧ K y0 w'))

theorem sim_preluderef03_Spell {op_0 : Int} {w : World} {K : ByteArray → World → Prop} (h : sh_preluderef03_Spell c_preluderef03_names op_0 w K) : c_preluderef03_Spell op_0 w K := by
  have e : sh_preluderef03_Spell c_preluderef03_names op_0 w K = shF Try.prog 15 ⟨[], [], []⟩ [.int .i64 op_0] w (fun v w' => decV .str v fun y0 => K y0 w') := by kernel_rfl
  exact Calls.mono (calls_of _ e h) (onRet_mono (fun _ _ h => decV_spec h))

-- 16 prelude/lang.Wants; callees []
def sh_lang_Wants (op_0 : Int) (w : World) (K : Bool → World → Prop) : Prop :=
  iteB ((op_0 : Int) == 1)
  (iteB ((op_0 : Int) == 1)
  (K true w)
  (K false w))
  (iteB ((op_0 : Int) == 4)
  (iteB ((op_0 : Int) == 4)
  (K true w)
  (K false w))
  (iteB ((op_0 : Int) == 5)
  (iteB ((op_0 : Int) == 5)
  (K true w)
  (K false w))
  (iteB ((op_0 : Int) == 6)
  (iteB ((op_0 : Int) == 6)
  (K true w)
  (K false w))
  (iteB ((op_0 : Int) == 7)
  (iteB ((op_0 : Int) == 7)
  (K true w)
  (K false w))
  (iteB ((op_0 : Int) == 8)
  (iteB ((op_0 : Int) == 8)
  (K true w)
  (K false w))
  (iteB ((op_0 : Int) == 30)
  (iteB ((op_0 : Int) == 30)
  (K true w)
  (K false w))
  (iteB ((op_0 : Int) == 31)
  (iteB ((op_0 : Int) == 31)
  (K true w)
  (K false w))
  (iteB ((op_0 : Int) == 32)
  (iteB ((op_0 : Int) == 32)
  (K true w)
  (K false w))
  (iteB ((op_0 : Int) == 33)
  (K true w)
  (K false w))))))))))

def c_lang_Wants (op_0 : Int) (w : World) (K : Bool → World → Prop) : Prop := Calls Try.prog 16 #[.int .i64 op_0] w (onRet (fun v w' => ∃ (y0 : Bool), v = .bool y0 ∧ K y0 w'))

theorem sim_lang_Wants {op_0 : Int} {w : World} {K : Bool → World → Prop} (h : sh_lang_Wants op_0 w K) : c_lang_Wants op_0 w K := by
  have e : sh_lang_Wants op_0 w K = shF Try.prog 16 ⟨[], [], []⟩ [.int .i64 op_0] w (fun v w' => decV .b v fun y0 => K y0 w') := by kernel_rfl
  exact Calls.mono (calls_of _ e h) (onRet_mono (fun _ _ h => decV_spec h))

-- 53 prelude/preluderef03.is; callees ['preluderef03_Spell']
def sh_preluderef03_is (c_preluderef03_Spell : Int → World → (ByteArray → World → Prop) → Prop) (op_0 : Int) (a_1 : ByteArray) (b_2 : ByteArray) (c_3 : ByteArray) (d_4 : ByteArray) (w : World) (K : Bool → World → Prop) : Prop :=
  c_preluderef03_Spell op_0 w fun r1 w2 => iteB (!((r1).toList == (ByteArray.mk #[]).toList))
  (iteB ((r1).toList == (a_1).toList)
  (K true w2)
  (iteB ((r1).toList == (b_2).toList)
  (K true w2)
  (iteB ((r1).toList == (c_3).toList)
  (K true w2)
  (K ((r1).toList == (d_4).toList) w2))))
  (K false w2)

def c_preluderef03_is (op_0 : Int) (a_1 : ByteArray) (b_2 : ByteArray) (c_3 : ByteArray) (d_4 : ByteArray) (w : World) (K : Bool → World → Prop) : Prop := Calls Try.prog 53 #[.int .i64 op_0, .string a_1, .string b_2, .string c_3, .string d_4] w (onRet (fun v w' => ∃ (y0 : Bool), v = .bool y0 ∧ K y0 w'))

theorem sim_preluderef03_is {op_0 : Int} {a_1 : ByteArray} {b_2 : ByteArray} {c_3 : ByteArray} {d_4 : ByteArray} {w : World} {K : Bool → World → Prop} (h : sh_preluderef03_is c_preluderef03_Spell op_0 a_1 b_2 c_3 d_4 w K) : c_preluderef03_is op_0 a_1 b_2 c_3 d_4 w K := by
  have e : sh_preluderef03_is c_preluderef03_Spell op_0 a_1 b_2 c_3 d_4 w K = shF Try.prog 53 ⟨[], [], []⟩ [.int .i64 op_0, .string a_1, .string b_2, .string c_3, .string d_4] w (fun v w' => decV .b v fun y0 => K y0 w') := by kernel_rfl
  exact Calls.mono (calls_of _ e h) (onRet_mono (fun _ _ h => decV_spec h))

-- 17 prelude/preluderef03.Wants; callees ['preluderef03_is']
def sh_preluderef03_Wants (c_preluderef03_is : Int → ByteArray → ByteArray → ByteArray → ByteArray → World → (Bool → World → Prop) → Prop) (op_0 : Int) (w : World) (K : Bool → World → Prop) : Prop :=
  c_preluderef03_is op_0 (ByteArray.mk #[112, 117, 115, 104]) (ByteArray.mk #[108, 111, 97, 100]) (ByteArray.mk #[115, 97, 118, 101]) (ByteArray.mk #[97, 114, 103]) w fun r1 w2 => iteB r1
  (K true w2)
  (c_preluderef03_is op_0 (ByteArray.mk #[103, 101, 116]) (ByteArray.mk #[104, 97, 115]) (ByteArray.mk #[106, 117, 109, 112]) (ByteArray.mk #[122, 101, 114, 111]) w2 fun r3 w4 => iteB r3
  (K true w4)
  (c_preluderef03_is op_0 (ByteArray.mk #[112, 117, 116]) (ByteArray.mk #[100, 101, 108]) (ByteArray.mk #[]) (ByteArray.mk #[]) w4 fun r5 w6 => K r5 w6))

def c_preluderef03_Wants (op_0 : Int) (w : World) (K : Bool → World → Prop) : Prop := Calls Try.prog 17 #[.int .i64 op_0] w (onRet (fun v w' => ∃ (y0 : Bool), v = .bool y0 ∧ K y0 w'))

theorem sim_preluderef03_Wants {op_0 : Int} {w : World} {K : Bool → World → Prop} (h : sh_preluderef03_Wants c_preluderef03_is op_0 w K) : c_preluderef03_Wants op_0 w K := by
  have e : sh_preluderef03_Wants c_preluderef03_is op_0 w K = shF Try.prog 17 ⟨[], [], []⟩ [.int .i64 op_0] w (fun v w' => decV .b v fun y0 => K y0 w') := by kernel_rfl
  exact Calls.mono (calls_of _ e h) (onRet_mono (fun _ _ h => decV_spec h))

-- 3 prelude/preludelaw03.LangNames; callees ['lang_Op', 'preluderef03_Op', 'lang_Spell', 'preluderef03_Spell', 'lang_Wants', 'preluderef03_Wants']
def sh_preludelaw03_LangNames (c_lang_Op : ByteArray → World → (Int → Bool → World → Prop) → Prop) (c_preluderef03_Op : ByteArray → World → (Int → Bool → World → Prop) → Prop) (c_lang_Spell : Int → World → (ByteArray → World → Prop) → Prop) (c_preluderef03_Spell : Int → World → (ByteArray → World → Prop) → Prop) (c_lang_Wants : Int → World → (Bool → World → Prop) → Prop) (c_preluderef03_Wants : Int → World → (Bool → World → Prop) → Prop) (op_0 : Int) (name_1 : ByteArray) (w : World) (K : Bool → World → Prop) : Prop :=
  c_lang_Op name_1 w fun r1 r2 w3 => c_preluderef03_Op name_1 w3 fun r4 r5 w6 => c_lang_Spell op_0 w6 fun r7 w8 => c_preluderef03_Spell op_0 w8 fun r9 w10 => iteB ((r7).toList == (r9).toList)
  (c_lang_Wants op_0 w10 fun r11 w12 => c_preluderef03_Wants op_0 w12 fun r13 w14 => iteB (r11 == r13)
  (iteB ((r1 : Int) == r4)
  (K (r2 == r5) w14)
  (K false w14))
  (K false w14))
  (K false w10)

def c_preludelaw03_LangNames (op_0 : Int) (name_1 : ByteArray) (w : World) (K : Bool → World → Prop) : Prop := Calls Try.prog 3 #[.int .i64 op_0, .string name_1] w (onRet (fun v w' => ∃ (y0 : Bool), v = .bool y0 ∧ K y0 w'))

theorem sim_preludelaw03_LangNames {op_0 : Int} {name_1 : ByteArray} {w : World} {K : Bool → World → Prop} (h : sh_preludelaw03_LangNames c_lang_Op c_preluderef03_Op c_lang_Spell c_preluderef03_Spell c_lang_Wants c_preluderef03_Wants op_0 name_1 w K) : c_preludelaw03_LangNames op_0 name_1 w K := by
  have e : sh_preludelaw03_LangNames c_lang_Op c_preluderef03_Op c_lang_Spell c_preluderef03_Spell c_lang_Wants c_preluderef03_Wants op_0 name_1 w K = shF Try.prog 3 ⟨[], [], []⟩ [.int .i64 op_0, .string name_1] w (fun v w' => decV .b v fun y0 => K y0 w') := by kernel_rfl
  exact Calls.mono (calls_of _ e h) (onRet_mono (fun _ _ h => decV_spec h))

end Go.Proofs.Ytgpdecfcjpblgaa
