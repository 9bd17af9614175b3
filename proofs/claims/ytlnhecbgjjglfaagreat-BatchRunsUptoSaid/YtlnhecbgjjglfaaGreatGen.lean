import Derived.Test.YtlnhecbgjjglfaaGreatProg
import Derived.Test.YtlnhecbgjjglfaaGreatSh
set_option linter.unusedVariables false
namespace Go.Proofs.YtlnhecbgjjglfaaGreat
open Go Go.Sh
-- NOT 0 main.main: no body
-- NOT 1 gosem.cut: no body
-- LACKS 2 gosem.cut.init: ['gosem_cut']
-- 4 prelude/preluderef04.Parts; callees []
def sh_preluderef04_Parts (lib_0 : Slc) (left_1 : Int) (w : World) (K : Int → World → Prop) : Prop :=
  loopP (σ := Int × Int × Unit) (fun st2 next1 w3 => (fun (left_4 : Int) (i_5 : Int) => iteB (decide ((i_5 : Int) < (lib_0.l : Int)))
  (iteB (decide ((left_4 : Int) ≥ 0))
  (idxP lib_0.a lib_0.l i_5 6 fun a6 => ldStr a6 w3.drew fun s7 => idxP lib_0.a lib_0.l i_5 6 fun a8 => ldS ((a8.add 1).add 4) w3.drew fun s9 => next1 ((IntKind.i64.wrap ((IntKind.i64.wrap ((IntKind.i64.wrap (left_4 - 1)) - (s7.size : Int))) - (s9.l : Int))), (IntKind.i64.wrap (i_5 + 1)), ()) w3.drew)
  (K left_4 w3))
  (K left_4 w3)) st2.1 st2.2.1) (left_1, 0, ()) w

def c_preluderef04_Parts (lib_0 : Slc) (left_1 : Int) (w : World) (K : Int → World → Prop) : Prop := Calls Tryz.prog 4 #[.slice lib_0.a lib_0.l lib_0.c, .int .i64 left_1] w (onRet (fun v w' => ∃ (y0 : Int), v = .int .i64 y0 ∧ K y0 w'))

theorem sim_preluderef04_Parts {lib_0 : Slc} {left_1 : Int} {w : World} {K : Int → World → Prop} (h : sh_preluderef04_Parts lib_0 left_1 w K) : c_preluderef04_Parts lib_0 left_1 w K := by
  have e : sh_preluderef04_Parts lib_0 left_1 w K = shF Tryz.prog 4 ⟨[(4, .of [0, 1, 2, 3, 4, 5, 6, 7, 8, 9, 10, 11, 12, 13, 14, 15, 16, 17])], [(2, [(1, (.int .i64)), (5, (.int .i64))], [0])], []⟩ [.slice lib_0.a lib_0.l lib_0.c, .int .i64 left_1] w (fun v w' => decV (.int .i64) v fun y0 => K y0 w') := by kernel_rfl
  exact Calls.mono (calls_of _ e h) (onRet_mono (fun _ _ h => decV_spec h))

-- 17 prelude/preludelaw06.plain; callees []
def sh_preludelaw06_plain (w : World) (K : Slc → Slc → Slc → World → Prop) : Prop :=
  newP #[.int .i64 6, .int .i64 0, .int .i64 32, .int .i64 0] 102 w fun a1 w2 => newP #[.string (ByteArray.mk #[112, 117, 116]), .int .i64 1, .int .i64 0, .int .i64 1, .int .i64 0, .slice (some a1) 2 2] 52 w2 fun a3 w4 => newP #[.int .i64 10] 2 w4 fun a5 w6 => newP #[.int .i64 0, .int .i64 1] 87 w6 fun a7 w8 => newP #[.int .i64 0, .slice (some a5) 1 1, .slice none 0 0, .slice (some a7) 1 1] 46 w8 fun a9 w10 => newP #[.int .u8 1, .int .u8 0, .int .u8 1, .int .u8 20, .int .u8 0, .int .u8 1, .int .u8 0, .int .u8 0, .int .u8 128, .int .u8 0, .int .u8 0, .int .u8 0, .int .u8 0, .int .u8 0, .int .u8 0, .int .u8 1] 5 w10 fun a11 w12 => K ⟨(some a3), 1, 1⟩ ⟨(some a9), 1, 1⟩ ⟨(some a11), 16, 16⟩ w12

def c_preludelaw06_plain (w : World) (K : Slc → Slc → Slc → World → Prop) : Prop := Calls Tryz.prog 17 #[] w (onRet (fun v w' => ∃ (y0 : Slc), ∃ (y1 : Slc), ∃ (y2 : Slc), v = .tuple #[.slice y0.a y0.l y0.c, .slice y1.a y1.l y1.c, .slice y2.a y2.l y2.c] ∧ K y0 y1 y2 w'))

theorem sim_preludelaw06_plain {w : World} {K : Slc → Slc → Slc → World → Prop} (h : sh_preludelaw06_plain w K) : c_preludelaw06_plain  w K := by
  have e : sh_preludelaw06_plain w K = shF Tryz.prog 17 ⟨[], [], []⟩ [] w (fun v w' => decT [(false, [.sl]), (false, [.sl]), (false, [.sl])] v fun s => (fun (y0 : Slc) (y1 : Slc) (y2 : Slc) => K y0 y1 y2 w') s.1 s.2.1 s.2.2.1) := by kernel_rfl
  exact Calls.mono (calls_of _ e h) (onRet_mono (fun _ _ h => by obtain ⟨s, h1, h2⟩ := decT_spec h; exact ⟨s.1, s.2.1, s.2.2.1, h1, h2⟩))

-- 23 prelude/batch.first; callees []
def sh_batch_first (b_0 : Slc) (wrong_1 : Value) (w : World) (K : Int → Int → World → Prop) : Prop :=
  iteB (decide (((b_0.l : Int) : Int) > 64))
  (K 0 60 w)
  (loopP (σ := Int × Unit) (fun st2 next1 w3 => (fun (x4 : Int) => iteB (decide ((x4 : Int) < (b_0.l : Int)))
  (idxP b_0.a b_0.l x4 4 fun a5 => ldI .i64 a5 w3 fun n6 => ldS (a5.add 1) w3 fun s7 => ldS (a5.add 2) w3 fun s8 => ldS (a5.add 3) w3 fun s9 => newP #[.int .i64 0, .slice none 0 0, .slice none 0 0, .slice none 0 0] 46 w3 fun a10 w11 => stP a10 (.int .i64 n6) w11 fun w12 => stP (a10.add 1) (.slice s7.a s7.l s7.c) w12 fun w13 => stP (a10.add 2) (.slice s8.a s8.l s8.c) w13 fun w14 => stP (a10.add 3) (.slice s9.a s9.l s9.c) w14 fun w15 => ldI .i64 a10 w15 fun n16 => ldS (a10.add 1) w15 fun s17 => ldS (a10.add 2) w15 fun s18 => ldS (a10.add 3) w15 fun s19 => cvP Tryz.prog wrong_1 [.agg #[.int .i64 n16, .slice s17.a s17.l s17.c, .slice s18.a s18.l s18.c, .slice s19.a s19.l s19.c]] w15 fun v22 w21 => ∃ (r20 : Int), v22 = .int .i64 r20 ∧ (iteB ((r20 : Int) != 0)
  (K x4 r20 w21)
  (next1 ((IntKind.i64.wrap (x4 + 1)), ()) w21)))
  (K 0 0 w3)) st2.1) (0, ()) w)

def c_batch_first (b_0 : Slc) (wrong_1 : Value) (w : World) (K : Int → Int → World → Prop) : Prop := Calls Tryz.prog 23 #[.slice b_0.a b_0.l b_0.c, wrong_1] w (onRet (fun v w' => ∃ (y0 : Int), ∃ (y1 : Int), v = .tuple #[.int .i64 y0, .int .i64 y1] ∧ K y0 y1 w'))

theorem sim_batch_first {b_0 : Slc} {wrong_1 : Value} {w : World} {K : Int → Int → World → Prop} (h : sh_batch_first b_0 wrong_1 w K) : c_batch_first b_0 wrong_1 w K := by
  have e : sh_batch_first b_0 wrong_1 w K = shF Tryz.prog 23 ⟨[], [(4, [(14, (.int .i64))], [1, 12, 13])], []⟩ [.slice b_0.a b_0.l b_0.c, wrong_1] w (fun v w' => decT [(false, [(.int .i64)]), (false, [(.int .i64)])] v fun s => (fun (y0 : Int) (y1 : Int) => K y0 y1 w') s.1 s.2.1) := by kernel_rfl
  exact Calls.mono (calls_of _ e h) (onRet_mono (fun _ _ h => by obtain ⟨s, h1, h2⟩ := decT_spec h; exact ⟨s.1, s.2.1, h1, h2⟩))

-- 25 prelude/codec.New; callees []
def sh_codec_New (w : World) (K : Option Addr → World → Prop) : Prop :=
  newP #[.slice none 0 0] 119 w fun a1 w2 => K (some a1) w2

def c_codec_New (w : World) (K : Option Addr → World → Prop) : Prop := Calls Tryz.prog 25 #[] w (onRet (fun v w' => ∃ (y0 : Option Addr), v = .pointer y0 ∧ K y0 w'))

theorem sim_codec_New {w : World} {K : Option Addr → World → Prop} (h : sh_codec_New w K) : c_codec_New  w K := by
  have e : sh_codec_New w K = shF Tryz.prog 25 ⟨[], [], []⟩ [] w (fun v w' => decV .ptr v fun y0 => K y0 w') := by kernel_rfl
  exact Calls.mono (calls_of _ e h) (onRet_mono (fun _ _ h => decV_spec h))

-- 26 (*prelude/codec.Writer).Uint; callees []
def sh_codec_Writer_Uint (w_0 : Option Addr) (n_1 : Int) (w : World) (K : World → Prop) : Prop :=
  loopP (σ := Int × Unit) (fun st2 next1 w3 => (fun (n_4 : Int) => iteB (decide ((n_4 : Int) ≥ 128))
  (nnP w_0 fun a5 => ldS a5 w3 fun s6 => newP #[.int .u8 (bOr .u8 (IntKind.u8.wrap n_4) 128)] 5 w3 fun a7 w8 => apP Tryz.prog #[23, 23] 23 [.slice s6.a s6.l s6.c, .slice (some a7) 1 1] w8 fun s10 w9 => nnP w_0 fun a11 => stP a11 (.slice s10.a s10.l s10.c) w9 fun w12 => shP 7 (next1 ((Int.fdiv n_4 (2 ^ (min (Int.toNat 7) (IntKind.bits .u64)))), ()) w12))
  (nnP w_0 fun a13 => ldS a13 w3 fun s14 => newP #[.int .u8 (IntKind.u8.wrap n_4)] 5 w3 fun a15 w16 => apP Tryz.prog #[23, 23] 23 [.slice s14.a s14.l s14.c, .slice (some a15) 1 1] w16 fun s18 w17 => nnP w_0 fun a19 => stP a19 (.slice s18.a s18.l s18.c) w17 fun w20 => K w20)) st2.1) (n_1, ()) w

def c_codec_Writer_Uint (w_0 : Option Addr) (n_1 : Int) (w : World) (K : World → Prop) : Prop := Calls Tryz.prog 26 #[.pointer w_0, .int .u64 n_1] w (onRet (fun v w' => v = .tuple #[] ∧ K w'))

theorem sim_codec_Writer_Uint {w_0 : Option Addr} {n_1 : Int} {w : World} {K : World → Prop} (h : sh_codec_Writer_Uint w_0 n_1 w K) : c_codec_Writer_Uint w_0 n_1 w K := by
  have e : sh_codec_Writer_Uint w_0 n_1 w K = shF Tryz.prog 26 ⟨[], [(0, [(1, (.int .u64))], [0])], []⟩ [.pointer w_0, .int .u64 n_1] w (fun v w' => decU v (K w')) := by kernel_rfl
  exact Calls.mono (calls_of _ e h) (onRet_mono (fun _ _ h => decU_spec h))

-- 27 (*prelude/codec.Writer).Int; callees ['codec_Writer_Uint']
def sh_codec_Writer_Int (c_codec_Writer_Uint : Option Addr → Int → World → (World → Prop) → Prop) (w_0 : Option Addr) (n_1 : Int) (w : World) (K : World → Prop) : Prop :=
  shP 1 (shP 63 (c_codec_Writer_Uint w_0 (bXor .u64 (IntKind.u64.wrap ((IntKind.u64.wrap n_1) * 2 ^ (min (Int.toNat 1) (IntKind.bits .u64)))) (IntKind.u64.wrap (Int.fdiv n_1 (2 ^ (min (Int.toNat 63) (IntKind.bits .i64)))))) w fun w1 => K w1))

def c_codec_Writer_Int (w_0 : Option Addr) (n_1 : Int) (w : World) (K : World → Prop) : Prop := Calls Tryz.prog 27 #[.pointer w_0, .int .i64 n_1] w (onRet (fun v w' => v = .tuple #[] ∧ K w'))

theorem sim_codec_Writer_Int {w_0 : Option Addr} {n_1 : Int} {w : World} {K : World → Prop} (h : sh_codec_Writer_Int c_codec_Writer_Uint w_0 n_1 w K) : c_codec_Writer_Int w_0 n_1 w K := by
  have e : sh_codec_Writer_Int c_codec_Writer_Uint w_0 n_1 w K = shF Tryz.prog 27 ⟨[], [], []⟩ [.pointer w_0, .int .i64 n_1] w (fun v w' => decU v (K w')) := by kernel_rfl
  exact Calls.mono (calls_of _ e h) (onRet_mono (fun _ _ h => decU_spec h))

-- 34 prelude/keys.Check; callees []
def sh_keys_Check (k_0_0 : Int) (k_0_1 : Int) (w : World) (K : Int → World → Prop) : Prop :=
  newP #[.int .i64 k_0_0, .int .i64 k_0_1] 87 w fun a1 w2 => ldI .i64 a1 w2 fun n3 => iteB (decide ((n3 : Int) < 0))
  (K 20 w2)
  (ldI .i64 a1 w2 fun n4 => iteB (decide ((n4 : Int) > 65535))
  (K 20 w2)
  (K 0 w2))

def c_keys_Check (k_0_0 : Int) (k_0_1 : Int) (w : World) (K : Int → World → Prop) : Prop := Calls Tryz.prog 34 #[.agg #[.int .i64 k_0_0, .int .i64 k_0_1]] w (onRet (fun v w' => ∃ (y0 : Int), v = .int .i64 y0 ∧ K y0 w'))

theorem sim_keys_Check {k_0_0 : Int} {k_0_1 : Int} {w : World} {K : Int → World → Prop} (h : sh_keys_Check k_0_0 k_0_1 w K) : c_keys_Check k_0_0 k_0_1 w K := by
  have e : sh_keys_Check k_0_0 k_0_1 w K = shF Tryz.prog 34 ⟨[], [], []⟩ [.agg #[.int .i64 k_0_0, .int .i64 k_0_1]] w (fun v w' => decV (.int .i64) v fun y0 => K y0 w') := by kernel_rfl
  exact Calls.mono (calls_of _ e h) (onRet_mono (fun _ _ h => decV_spec h))

-- 51 prelude/keys.form; callees []
def sh_keys_form (k_0_0 : Int) (k_0_1 : Int) (w : World) (K : Int → Int → Int → Int → Int → Int → Int → Int → Int → Int → World → Prop) : Prop :=
  newP #[.int .i64 k_0_0, .int .i64 k_0_1] 87 w fun a1 w2 => newP #[.int .u8 0, .int .u8 0, .int .u8 0, .int .u8 0, .int .u8 0, .int .u8 0, .int .u8 0, .int .u8 0, .int .u8 0, .int .u8 0] 121 w2 fun a3 w4 => newP #[.int .u8 0, .int .u8 0, .int .u8 0, .int .u8 0, .int .u8 0, .int .u8 0, .int .u8 0, .int .u8 0, .int .u8 0, .int .u8 0] 121 w4 fun a5 w6 => ldI .i64 a1 w6.drew fun n7 => shP 8 (ldI .i64 a1 w6.drew fun n8 => arrP 10 0 (stP (a5.add (Int.toNat 0 * 1)) (.int .u8 (IntKind.u8.wrap (Int.fdiv n7 (2 ^ (min (Int.toNat 8) (IntKind.bits .i64)))))) w6.drew fun w9 => w9.cell? a1 = some (.int .i64 n8) ∧ (arrP 10 1 (stP (a5.add (Int.toNat 1 * 1)) (.int .u8 (IntKind.u8.wrap n8)) w9 fun w10 => ldI .i64 (a1.add 1) w10 fun n11 => loopP (σ := Int × Unit) (fun st13 next12 w14 => (fun (x15 : Int) => iteB (decide ((x15 : Int) < 8))
  (shP (IntKind.i64.wrap (56 - (IntKind.i64.wrap (8 * x15)))) (arrP 10 (IntKind.i64.wrap (2 + x15)) (stP (a5.add (Int.toNat (IntKind.i64.wrap (2 + x15)) * 1)) (.int .u8 (IntKind.u8.wrap (Int.fdiv (bXor .u64 (IntKind.u64.wrap n11) 9223372036854775808) (2 ^ (min (Int.toNat (IntKind.i64.wrap (56 - (IntKind.i64.wrap (8 * x15))))) (IntKind.bits .u64)))))) w14 fun w16 => next12 ((IntKind.i64.wrap (x15 + 1)), ()) w16)))
  (ldI .u8 a5 w14 fun n17 => ldI .u8 (a5.add 1) w14 fun n18 => ldI .u8 (a5.add 2) w14 fun n19 => ldI .u8 (a5.add 3) w14 fun n20 => ldI .u8 (a5.add 4) w14 fun n21 => ldI .u8 (a5.add 5) w14 fun n22 => ldI .u8 (a5.add 6) w14 fun n23 => ldI .u8 (a5.add 7) w14 fun n24 => ldI .u8 (a5.add 8) w14 fun n25 => ldI .u8 (a5.add 9) w14 fun n26 => stP a3 (.int .u8 n17) w14 fun w27 => stP (a3.add 1) (.int .u8 n18) w27 fun w28 => stP (a3.add 2) (.int .u8 n19) w28 fun w29 => stP (a3.add 3) (.int .u8 n20) w29 fun w30 => stP (a3.add 4) (.int .u8 n21) w30 fun w31 => stP (a3.add 5) (.int .u8 n22) w31 fun w32 => stP (a3.add 6) (.int .u8 n23) w32 fun w33 => stP (a3.add 7) (.int .u8 n24) w33 fun w34 => stP (a3.add 8) (.int .u8 n25) w34 fun w35 => stP (a3.add 9) (.int .u8 n26) w35 fun w36 => ldI .u8 a3 w36 fun n37 => ldI .u8 (a3.add 1) w36 fun n38 => ldI .u8 (a3.add 2) w36 fun n39 => ldI .u8 (a3.add 3) w36 fun n40 => ldI .u8 (a3.add 4) w36 fun n41 => ldI .u8 (a3.add 5) w36 fun n42 => ldI .u8 (a3.add 6) w36 fun n43 => ldI .u8 (a3.add 7) w36 fun n44 => ldI .u8 (a3.add 8) w36 fun n45 => ldI .u8 (a3.add 9) w36 fun n46 => K n37 n38 n39 n40 n41 n42 n43 n44 n45 n46 w36)) st13.1) (0, ()) w10))))

def c_keys_form (k_0_0 : Int) (k_0_1 : Int) (w : World) (K : Int → Int → Int → Int → Int → Int → Int → Int → Int → Int → World → Prop) : Prop := Calls Tryz.prog 51 #[.agg #[.int .i64 k_0_0, .int .i64 k_0_1]] w (onRet (fun v w' => ∃ (y0 : Int), ∃ (y1 : Int), ∃ (y2 : Int), ∃ (y3 : Int), ∃ (y4 : Int), ∃ (y5 : Int), ∃ (y6 : Int), ∃ (y7 : Int), ∃ (y8 : Int), ∃ (y9 : Int), v = .agg #[.int .u8 y0, .int .u8 y1, .int .u8 y2, .int .u8 y3, .int .u8 y4, .int .u8 y5, .int .u8 y6, .int .u8 y7, .int .u8 y8, .int .u8 y9] ∧ K y0 y1 y2 y3 y4 y5 y6 y7 y8 y9 w'))

theorem sim_keys_form {k_0_0 : Int} {k_0_1 : Int} {w : World} {K : Int → Int → Int → Int → Int → Int → Int → Int → Int → Int → World → Prop} (h : sh_keys_form k_0_0 k_0_1 w K) : c_keys_form k_0_0 k_0_1 w K := by
  have e : sh_keys_form k_0_0 k_0_1 w K = shF Tryz.prog 51 ⟨[(2, .of [0, 1, 2, 3, 4, 5, 6, 7, 8, 9, 10])], [(5, [(19, (.int .i64))], [2, 3, 4])], []⟩ [.agg #[.int .i64 k_0_0, .int .i64 k_0_1]] w (fun v w' => decA [(.int .u8), (.int .u8), (.int .u8), (.int .u8), (.int .u8), (.int .u8), (.int .u8), (.int .u8), (.int .u8), (.int .u8)] v fun s => (fun (y0 : Int) (y1 : Int) (y2 : Int) (y3 : Int) (y4 : Int) (y5 : Int) (y6 : Int) (y7 : Int) (y8 : Int) (y9 : Int) => K y0 y1 y2 y3 y4 y5 y6 y7 y8 y9 w') s.1 s.2.1 s.2.2.1 s.2.2.2.1 s.2.2.2.2.1 s.2.2.2.2.2.1 s.2.2.2.2.2.2.1 s.2.2.2.2.2.2.2.1 s.2.2.2.2.2.2.2.2.1 s.2.2.2.2.2.2.2.2.2.1) := by kernel_rfl
  exact Calls.mono (calls_of _ e h) (onRet_mono (fun _ _ h => by obtain ⟨s, h1, h2⟩ := decA_spec h; exact ⟨s.1, s.2.1, s.2.2.1, s.2.2.2.1, s.2.2.2.2.1, s.2.2.2.2.2.1, s.2.2.2.2.2.2.1, s.2.2.2.2.2.2.2.1, s.2.2.2.2.2.2.2.2.1, s.2.2.2.2.2.2.2.2.2.1, h1, h2⟩))

-- 28 prelude/keys.Bytes; callees ['keys_Check', 'keys_form']
def sh_keys_Bytes (c_keys_Check : Int → Int → World → (Int → World → Prop) → Prop) (c_keys_form : Int → Int → World → (Int → Int → Int → Int → Int → Int → Int → Int → Int → Int → World → Prop) → Prop) (k_0_0 : Int) (k_0_1 : Int) (w : World) (K : Slc → Int → World → Prop) : Prop :=
  newP #[.int .i64 k_0_0, .int .i64 k_0_1] 87 w fun a1 w2 => ldI .i64 a1 w2 fun n3 => ldI .i64 (a1.add 1) w2 fun n4 => c_keys_Check n3 n4 w2 fun r5 w6 => iteB ((r5 : Int) != 0)
  (K ⟨none, 0, 0⟩ r5 w6)
  (ldI .i64 a1 w6 fun n7 => ldI .i64 (a1.add 1) w6 fun n8 => c_keys_form n7 n8 w6 fun r9 r10 r11 r12 r13 r14 r15 r16 r17 r18 w19 => newP #[.int .u8 0, .int .u8 0, .int .u8 0, .int .u8 0, .int .u8 0, .int .u8 0, .int .u8 0, .int .u8 0, .int .u8 0, .int .u8 0] 121 w19 fun a20 w21 => stP a20 (.int .u8 r9) w21 fun w22 => stP (a20.add 1) (.int .u8 r10) w22 fun w23 => stP (a20.add 2) (.int .u8 r11) w23 fun w24 => stP (a20.add 3) (.int .u8 r12) w24 fun w25 => stP (a20.add 4) (.int .u8 r13) w25 fun w26 => stP (a20.add 5) (.int .u8 r14) w26 fun w27 => stP (a20.add 6) (.int .u8 r15) w27 fun w28 => stP (a20.add 7) (.int .u8 r16) w28 fun w29 => stP (a20.add 8) (.int .u8 r17) w29 fun w30 => stP (a20.add 9) (.int .u8 r18) w30 fun w31 => apP Tryz.prog #[23, 23] 23 [.slice none 0 0, .slice (some a20) 10 10] w31 fun s33 w32 => K s33 0 w32)

def c_keys_Bytes (k_0_0 : Int) (k_0_1 : Int) (w : World) (K : Slc → Int → World → Prop) : Prop := Calls Tryz.prog 28 #[.agg #[.int .i64 k_0_0, .int .i64 k_0_1]] w (onRet (fun v w' => ∃ (y0 : Slc), ∃ (y1 : Int), v = .tuple #[.slice y0.a y0.l y0.c, .int .i64 y1] ∧ K y0 y1 w'))

theorem sim_keys_Bytes {k_0_0 : Int} {k_0_1 : Int} {w : World} {K : Slc → Int → World → Prop} (h : sh_keys_Bytes c_keys_Check c_keys_form k_0_0 k_0_1 w K) : c_keys_Bytes k_0_0 k_0_1 w K := by
  have e : sh_keys_Bytes c_keys_Check c_keys_form k_0_0 k_0_1 w K = shF Tryz.prog 28 ⟨[], [], []⟩ [.agg #[.int .i64 k_0_0, .int .i64 k_0_1]] w (fun v w' => decT [(false, [.sl]), (false, [(.int .i64)])] v fun s => (fun (y0 : Slc) (y1 : Int) => K y0 y1 w') s.1 s.2.1) := by kernel_rfl
  exact Calls.mono (calls_of _ e h) (onRet_mono (fun _ _ h => by obtain ⟨s, h1, h2⟩ := decT_spec h; exact ⟨s.1, s.2.1, h1, h2⟩))

-- 29 (*prelude/codec.Writer).Raw; callees []
def sh_codec_Writer_Raw (w_0 : Option Addr) (b_1 : Slc) (w : World) (K : World → Prop) : Prop :=
  nnP w_0 fun a1 => ldS a1 w fun s2 => apP Tryz.prog #[23, 23] 23 [.slice s2.a s2.l s2.c, .slice b_1.a b_1.l b_1.c] w fun s4 w3 => nnP w_0 fun a5 => stP a5 (.slice s4.a s4.l s4.c) w3 fun w6 => K w6

def c_codec_Writer_Raw (w_0 : Option Addr) (b_1 : Slc) (w : World) (K : World → Prop) : Prop := Calls Tryz.prog 29 #[.pointer w_0, .slice b_1.a b_1.l b_1.c] w (onRet (fun v w' => v = .tuple #[] ∧ K w'))

theorem sim_codec_Writer_Raw {w_0 : Option Addr} {b_1 : Slc} {w : World} {K : World → Prop} (h : sh_codec_Writer_Raw w_0 b_1 w K) : c_codec_Writer_Raw w_0 b_1 w K := by
  have e : sh_codec_Writer_Raw w_0 b_1 w K = shF Tryz.prog 29 ⟨[], [], []⟩ [.pointer w_0, .slice b_1.a b_1.l b_1.c] w (fun v w' => decU v (K w')) := by kernel_rfl
  exact Calls.mono (calls_of _ e h) (onRet_mono (fun _ _ h => decU_spec h))

-- 52 slices.Clone[[]byte,byte]; callees []
def sh_slices_Clone_byte_byte (s_0 : Slc) (w : World) (K : Slc → World → Prop) : Prop :=
  iteB ((s_0.a).isNone)
  (K ⟨none, 0, 0⟩ w)
  (newP #[] 5 w fun a1 w2 => apP Tryz.prog #[23, 23] 23 [.slice (some a1) 0 0, .slice s_0.a s_0.l s_0.c] w2 fun s4 w3 => K s4 w3)

def c_slices_Clone_byte_byte (s_0 : Slc) (w : World) (K : Slc → World → Prop) : Prop := Calls Tryz.prog 52 #[.slice s_0.a s_0.l s_0.c] w (onRet (fun v w' => ∃ (y0 : Slc), v = .slice y0.a y0.l y0.c ∧ K y0 w'))

theorem sim_slices_Clone_byte_byte {s_0 : Slc} {w : World} {K : Slc → World → Prop} (h : sh_slices_Clone_byte_byte s_0 w K) : c_slices_Clone_byte_byte s_0 w K := by
  have e : sh_slices_Clone_byte_byte s_0 w K = shF Tryz.prog 52 ⟨[], [], []⟩ [.slice s_0.a s_0.l s_0.c] w (fun v w' => decV .sl v fun y0 => K y0 w') := by kernel_rfl
  exact Calls.mono (calls_of _ e h) (onRet_mono (fun _ _ h => decV_spec h))

-- 30 (*prelude/codec.Writer).Out; callees ['slices_Clone_byte_byte']
def sh_codec_Writer_Out (c_slices_Clone_byte_byte : Slc → World → (Slc → World → Prop) → Prop) (w_0 : Option Addr) (w : World) (K : Slc → World → Prop) : Prop :=
  nnP w_0 fun a1 => ldS a1 w fun s2 => c_slices_Clone_byte_byte s2 w fun r3 w4 => K r3 w4

def c_codec_Writer_Out (w_0 : Option Addr) (w : World) (K : Slc → World → Prop) : Prop := Calls Tryz.prog 30 #[.pointer w_0] w (onRet (fun v w' => ∃ (y0 : Slc), v = .slice y0.a y0.l y0.c ∧ K y0 w'))

theorem sim_codec_Writer_Out {w_0 : Option Addr} {w : World} {K : Slc → World → Prop} (h : sh_codec_Writer_Out c_slices_Clone_byte_byte w_0 w K) : c_codec_Writer_Out w_0 w K := by
  have e : sh_codec_Writer_Out c_slices_Clone_byte_byte w_0 w K = shF Tryz.prog 30 ⟨[], [], []⟩ [.pointer w_0] w (fun v w' => decV .sl v fun y0 => K y0 w') := by kernel_rfl
  exact Calls.mono (calls_of _ e h) (onRet_mono (fun _ _ h => decV_spec h))

-- 9 prelude/batch.Encode; callees ['batch_first', 'codec_New', 'codec_Writer_Uint', 'codec_Writer_Int', 'keys_Bytes', 'codec_Writer_Raw', 'codec_Writer_Out']
def sh_batch_Encode (c_batch_first : Slc → Value → World → (Int → Int → World → Prop) → Prop) (c_codec_New : World → (Option Addr → World → Prop) → Prop) (c_codec_Writer_Uint : Option Addr → Int → World → (World → Prop) → Prop) (c_codec_Writer_Int : Option Addr → Int → World → (World → Prop) → Prop) (c_keys_Bytes : Int → Int → World → (Slc → Int → World → Prop) → Prop) (c_codec_Writer_Raw : Option Addr → Slc → World → (World → Prop) → Prop) (c_codec_Writer_Out : Option Addr → World → (Slc → World → Prop) → Prop) (x_0 : Slc) (w : World) (K : Slc → Int → World → Prop) : Prop :=
  c_batch_first x_0 (.func (.func 24) #[] #[]) w fun r1 r2 w3 => iteB ((r2 : Int) != 0)
  (K ⟨none, 0, 0⟩ r2 w3)
  (c_codec_New  w3 fun r4 w5 => c_codec_Writer_Uint r4 (IntKind.u64.wrap (x_0.l : Int)) w5 fun w6 => loopP (σ := Int × Unit) (fun st8 next7 w9 => (fun (x10 : Int) => iteB (decide ((x10 : Int) < (x_0.l : Int)))
  (idxP x_0.a x_0.l x10 4 fun a11 => ldI .i64 a11 w9 fun n12 => ldS (a11.add 1) w9 fun s13 => ldS (a11.add 2) w9 fun s14 => ldS (a11.add 3) w9 fun s15 => newP #[.int .i64 0, .slice none 0 0, .slice none 0 0, .slice none 0 0] 46 w9 fun a16 w17 => stP a16 (.int .i64 n12) w17 fun w18 => stP (a16.add 1) (.slice s13.a s13.l s13.c) w18 fun w19 => stP (a16.add 2) (.slice s14.a s14.l s14.c) w19 fun w20 => stP (a16.add 3) (.slice s15.a s15.l s15.c) w20 fun w21 => ldI .i64 a16 w21 fun n22 => c_codec_Writer_Uint r4 (IntKind.u64.wrap n22) w21 fun w23 => ldS (a16.add 1) w23 fun s24 => c_codec_Writer_Uint r4 (IntKind.u64.wrap (s24.l : Int)) w23 fun w25 => ldS (a16.add 1) w25 fun s26 => loopP (σ := Int × Unit) (fun st28 next27 w29 => (fun (x30 : Int) => iteB (decide ((x30 : Int) < (s26.l : Int)))
  (idxP s26.a s26.l x30 1 fun a31 => ldI .i64 a31 w29 fun n32 => c_codec_Writer_Int r4 n32 w29 fun w33 => next27 ((IntKind.i64.wrap (x30 + 1)), ()) w33)
  (ldS (a16.add 2) w29 fun s34 => ldS (a16.add 3) w29 fun s35 => loopP (σ := Int × Unit) (fun st37 next36 w38 => (fun (x39 : Int) => iteB (decide ((x39 : Int) < 2))
  ((∃ (r40 : Slc), ∃ w41, (Instr.index 85 (.agg #[.slice s34.a s34.l s34.c, .slice s35.a s35.l s35.c]) (.int .i64 x39)).run Tryz.prog w38 = .ok (.slice r40.a r40.l r40.c) w41 ∧ (c_codec_Writer_Uint r4 (IntKind.u64.wrap (r40.l : Int)) w41 fun w42 => loopP (σ := Int × Unit) (fun st44 next43 w45 => (fun (x46 : Int) => iteB (decide ((x46 : Int) < (r40.l : Int)))
  (idxP r40.a r40.l x46 2 fun a47 => ldI .i64 a47 w45 fun n48 => ldI .i64 (a47.add 1) w45 fun n49 => newP #[.int .i64 0, .int .i64 0] 87 w45 fun a50 w51 => stP a50 (.int .i64 n48) w51 fun w52 => stP (a50.add 1) (.int .i64 n49) w52 fun w53 => ldI .i64 a50 w53 fun n54 => ldI .i64 (a50.add 1) w53 fun n55 => c_keys_Bytes n54 n55 w53 fun r56 r57 w58 => c_codec_Writer_Raw r4 r56 w58 fun w59 => next43 ((IntKind.i64.wrap (x46 + 1)), ()) w59)
  (next36 ((IntKind.i64.wrap (x39 + 1)), ()) w45)) st44.1) (0, ()) w42)))
  (next7 ((IntKind.i64.wrap (x10 + 1)), ()) w38)) st37.1) (0, ()) w29)) st28.1) (0, ()) w25)
  (c_codec_Writer_Out r4 w9 fun r60 w61 => K r60 0 w61)) st8.1) (0, ()) w6)

def c_batch_Encode (x_0 : Slc) (w : World) (K : Slc → Int → World → Prop) : Prop := Calls Tryz.prog 9 #[.slice x_0.a x_0.l x_0.c] w (onRet (fun v w' => ∃ (y0 : Slc), ∃ (y1 : Int), v = .tuple #[.slice y0.a y0.l y0.c, .int .i64 y1] ∧ K y0 y1 w'))

theorem sim_batch_Encode {x_0 : Slc} {w : World} {K : Slc → Int → World → Prop} (h : sh_batch_Encode c_batch_first c_codec_New c_codec_Writer_Uint c_codec_Writer_Int c_keys_Bytes c_codec_Writer_Raw c_codec_Writer_Out x_0 w K) : c_batch_Encode x_0 w K := by
  have e : sh_batch_Encode c_batch_first c_codec_New c_codec_Writer_Uint c_codec_Writer_Int c_keys_Bytes c_codec_Writer_Raw c_codec_Writer_Out x_0 w K = shF Tryz.prog 9 ⟨[], [(7, [(33, (.int .i64))], [6, 31, 32]), (12, [(51, (.int .i64))], [6, 8, 31, 32, 33, 49, 50]), (17, [(64, (.int .i64))], [6, 31, 32, 33, 63]), (21, [(74, (.int .i64))], [6, 31, 32, 33, 63, 64, 72, 73])], []⟩ [.slice x_0.a x_0.l x_0.c] w (fun v w' => decT [(false, [.sl]), (false, [(.int .i64)])] v fun s => (fun (y0 : Slc) (y1 : Int) => K y0 y1 w') s.1 s.2.1) := by kernel_rfl
  exact Calls.mono (calls_of _ e h) (onRet_mono (fun _ _ h => by obtain ⟨s, h1, h2⟩ := decT_spec h; exact ⟨s.1, s.2.1, h1, h2⟩))

-- 44 prelude/codec.Read; callees ['slices_Clone_byte_byte']
def sh_codec_Read (c_slices_Clone_byte_byte : Slc → World → (Slc → World → Prop) → Prop) (b_0 : Slc) (w : World) (K : Option Addr → World → Prop) : Prop :=
  c_slices_Clone_byte_byte b_0 w fun r1 w2 => newP #[.slice r1.a r1.l r1.c, .int .i64 0, .int .i64 0] 145 w2 fun a3 w4 => K (some a3) w4

def c_codec_Read (b_0 : Slc) (w : World) (K : Option Addr → World → Prop) : Prop := Calls Tryz.prog 44 #[.slice b_0.a b_0.l b_0.c] w (onRet (fun v w' => ∃ (y0 : Option Addr), v = .pointer y0 ∧ K y0 w'))

theorem sim_codec_Read {b_0 : Slc} {w : World} {K : Option Addr → World → Prop} (h : sh_codec_Read c_slices_Clone_byte_byte b_0 w K) : c_codec_Read b_0 w K := by
  have e : sh_codec_Read c_slices_Clone_byte_byte b_0 w K = shF Tryz.prog 44 ⟨[], [], []⟩ [.slice b_0.a b_0.l b_0.c] w (fun v w' => decV .ptr v fun y0 => K y0 w') := by kernel_rfl
  exact Calls.mono (calls_of _ e h) (onRet_mono (fun _ _ h => decV_spec h))

-- 48 (*prelude/codec.Reader).At; callees []
def sh_codec_Reader_At (r_0 : Option Addr) (w : World) (K : Int → World → Prop) : Prop :=
  nnP r_0 fun a1 => ldI .i64 (a1.add 1) w fun n2 => K n2 w

def c_codec_Reader_At (r_0 : Option Addr) (w : World) (K : Int → World → Prop) : Prop := Calls Tryz.prog 48 #[.pointer r_0] w (onRet (fun v w' => ∃ (y0 : Int), v = .int .i64 y0 ∧ K y0 w'))

theorem sim_codec_Reader_At {r_0 : Option Addr} {w : World} {K : Int → World → Prop} (h : sh_codec_Reader_At r_0 w K) : c_codec_Reader_At r_0 w K := by
  have e : sh_codec_Reader_At r_0 w K = shF Tryz.prog 48 ⟨[], [], []⟩ [.pointer r_0] w (fun v w' => decV (.int .i64) v fun y0 => K y0 w') := by kernel_rfl
  exact Calls.mono (calls_of _ e h) (onRet_mono (fun _ _ h => decV_spec h))

-- 101 (*prelude/codec.Reader).uint; callees []
def sh_codec_Reader_uint (r_0 : Option Addr) (at_1 : Int) (w : World) (K : Int → Int → Int → World → Prop) : Prop :=
  loopP (σ := Int × Int × Unit) (fun st2 next1 w3 => (fun (n_4 : Int) (i_5 : Int) => nnP r_0 fun a6 => ldS a6 w3 fun s7 => iteB (decide (((IntKind.i64.wrap (at_1 + i_5)) : Int) ≥ (s7.l : Int)))
  (K 0 at_1 10 w3)
  (nnP r_0 fun a8 => ldS a8 w3 fun s9 => idxP s9.a s9.l (IntKind.i64.wrap (at_1 + i_5)) 1 fun a10 => ldI .u8 a10 w3 fun n11 => iteB ((i_5 : Int) == 9)
  (iteB (decide ((n11 : Int) > 1))
  (K 0 at_1 11 w3)
  (iteB (decide ((i_5 : Int) > 0))
  (iteB ((n11 : Int) == 0)
  (K 0 at_1 11 w3)
  (shP (IntKind.i64.wrap (7 * i_5)) (iteB (decide ((n11 : Int) < 128))
  (K (bOr .u64 n_4 (IntKind.u64.wrap ((IntKind.u64.wrap (bAnd .u8 n11 127)) * 2 ^ (min (Int.toNat (IntKind.i64.wrap (7 * i_5))) (IntKind.bits .u64))))) (IntKind.i64.wrap ((IntKind.i64.wrap (at_1 + i_5)) + 1)) 0 w3)
  (next1 ((bOr .u64 n_4 (IntKind.u64.wrap ((IntKind.u64.wrap (bAnd .u8 n11 127)) * 2 ^ (min (Int.toNat (IntKind.i64.wrap (7 * i_5))) (IntKind.bits .u64))))), (IntKind.i64.wrap (i_5 + 1)), ()) w3))))
  (shP (IntKind.i64.wrap (7 * i_5)) (iteB (decide ((n11 : Int) < 128))
  (K (bOr .u64 n_4 (IntKind.u64.wrap ((IntKind.u64.wrap (bAnd .u8 n11 127)) * 2 ^ (min (Int.toNat (IntKind.i64.wrap (7 * i_5))) (IntKind.bits .u64))))) (IntKind.i64.wrap ((IntKind.i64.wrap (at_1 + i_5)) + 1)) 0 w3)
  (next1 ((bOr .u64 n_4 (IntKind.u64.wrap ((IntKind.u64.wrap (bAnd .u8 n11 127)) * 2 ^ (min (Int.toNat (IntKind.i64.wrap (7 * i_5))) (IntKind.bits .u64))))), (IntKind.i64.wrap (i_5 + 1)), ()) w3)))))
  (iteB (decide ((i_5 : Int) > 0))
  (iteB ((n11 : Int) == 0)
  (K 0 at_1 11 w3)
  (shP (IntKind.i64.wrap (7 * i_5)) (iteB (decide ((n11 : Int) < 128))
  (K (bOr .u64 n_4 (IntKind.u64.wrap ((IntKind.u64.wrap (bAnd .u8 n11 127)) * 2 ^ (min (Int.toNat (IntKind.i64.wrap (7 * i_5))) (IntKind.bits .u64))))) (IntKind.i64.wrap ((IntKind.i64.wrap (at_1 + i_5)) + 1)) 0 w3)
  (next1 ((bOr .u64 n_4 (IntKind.u64.wrap ((IntKind.u64.wrap (bAnd .u8 n11 127)) * 2 ^ (min (Int.toNat (IntKind.i64.wrap (7 * i_5))) (IntKind.bits .u64))))), (IntKind.i64.wrap (i_5 + 1)), ()) w3))))
  (shP (IntKind.i64.wrap (7 * i_5)) (iteB (decide ((n11 : Int) < 128))
  (K (bOr .u64 n_4 (IntKind.u64.wrap ((IntKind.u64.wrap (bAnd .u8 n11 127)) * 2 ^ (min (Int.toNat (IntKind.i64.wrap (7 * i_5))) (IntKind.bits .u64))))) (IntKind.i64.wrap ((IntKind.i64.wrap (at_1 + i_5)) + 1)) 0 w3)
  (next1 ((bOr .u64 n_4 (IntKind.u64.wrap ((IntKind.u64.wrap (bAnd .u8 n11 127)) * 2 ^ (min (Int.toNat (IntKind.i64.wrap (7 * i_5))) (IntKind.bits .u64))))), (IntKind.i64.wrap (i_5 + 1)), ()) w3)))))) st2.1 st2.2.1) (0, 0, ()) w

def c_codec_Reader_uint (r_0 : Option Addr) (at_1 : Int) (w : World) (K : Int → Int → Int → World → Prop) : Prop := Calls Tryz.prog 101 #[.pointer r_0, .int .i64 at_1] w (onRet (fun v w' => ∃ (y0 : Int), ∃ (y1 : Int), ∃ (y2 : Int), v = .tuple #[.int .u64 y0, .int .i64 y1, .int .i64 y2] ∧ K y0 y1 y2 w'))

theorem sim_codec_Reader_uint {r_0 : Option Addr} {at_1 : Int} {w : World} {K : Int → Int → Int → World → Prop} (h : sh_codec_Reader_uint r_0 at_1 w K) : c_codec_Reader_uint r_0 at_1 w K := by
  have e : sh_codec_Reader_uint r_0 at_1 w K = shF Tryz.prog 101 ⟨[], [(4, [(7, (.int .u64)), (8, (.int .i64))], [0, 1])], []⟩ [.pointer r_0, .int .i64 at_1] w (fun v w' => decT [(false, [(.int .u64)]), (false, [(.int .i64)]), (false, [(.int .i64)])] v fun s => (fun (y0 : Int) (y1 : Int) (y2 : Int) => K y0 y1 y2 w') s.1 s.2.1 s.2.2.1) := by kernel_rfl
  exact Calls.mono (calls_of _ e h) (onRet_mono (fun _ _ h => by obtain ⟨s, h1, h2⟩ := decT_spec h; exact ⟨s.1, s.2.1, s.2.2.1, h1, h2⟩))

-- 69 (*prelude/codec.Reader).Upto; callees ['codec_Reader_uint']
def sh_codec_Reader_Upto (c_codec_Reader_uint : Option Addr → Int → World → (Int → Int → Int → World → Prop) → Prop) (r_0 : Option Addr) (most_1 : Int) (w : World) (K : Int → World → Prop) : Prop :=
  nnP r_0 fun a1 => ldI .i64 (a1.add 2) w fun n2 => iteB ((n2 : Int) != 0)
  (K 0 w)
  (nnP r_0 fun a3 => ldI .i64 (a3.add 1) w fun n4 => c_codec_Reader_uint r_0 n4 w fun r5 r6 r7 w8 => iteB ((r7 : Int) == 0)
  (iteB (decide ((r5 : Int) > most_1))
  (iteB ((12 : Int) != 0)
  (nnP r_0 fun a9 => stP (a9.add 2) (.int .i64 12) w8 fun w10 => K 0 w10)
  (nnP r_0 fun a11 => stP (a11.add 1) (.int .i64 r6) w8 fun w12 => K r5 w12))
  (iteB ((r7 : Int) != 0)
  (nnP r_0 fun a13 => stP (a13.add 2) (.int .i64 r7) w8 fun w14 => K 0 w14)
  (nnP r_0 fun a15 => stP (a15.add 1) (.int .i64 r6) w8 fun w16 => K r5 w16)))
  (iteB ((r7 : Int) != 0)
  (nnP r_0 fun a17 => stP (a17.add 2) (.int .i64 r7) w8 fun w18 => K 0 w18)
  (nnP r_0 fun a19 => stP (a19.add 1) (.int .i64 r6) w8 fun w20 => K r5 w20)))

def c_codec_Reader_Upto (r_0 : Option Addr) (most_1 : Int) (w : World) (K : Int → World → Prop) : Prop := Calls Tryz.prog 69 #[.pointer r_0, .int .u64 most_1] w (onRet (fun v w' => ∃ (y0 : Int), v = .int .u64 y0 ∧ K y0 w'))

theorem sim_codec_Reader_Upto {r_0 : Option Addr} {most_1 : Int} {w : World} {K : Int → World → Prop} (h : sh_codec_Reader_Upto c_codec_Reader_uint r_0 most_1 w K) : c_codec_Reader_Upto r_0 most_1 w K := by
  have e : sh_codec_Reader_Upto c_codec_Reader_uint r_0 most_1 w K = shF Tryz.prog 69 ⟨[], [], []⟩ [.pointer r_0, .int .u64 most_1] w (fun v w' => decV (.int .u64) v fun y0 => K y0 w') := by kernel_rfl
  exact Calls.mono (calls_of _ e h) (onRet_mono (fun _ _ h => decV_spec h))

-- 102 (*prelude/codec.Reader).Err; callees []
def sh_codec_Reader_Err (r_0 : Option Addr) (w : World) (K : Int → World → Prop) : Prop :=
  nnP r_0 fun a1 => ldI .i64 (a1.add 2) w fun n2 => K n2 w

def c_codec_Reader_Err (r_0 : Option Addr) (w : World) (K : Int → World → Prop) : Prop := Calls Tryz.prog 102 #[.pointer r_0] w (onRet (fun v w' => ∃ (y0 : Int), v = .int .i64 y0 ∧ K y0 w'))

theorem sim_codec_Reader_Err {r_0 : Option Addr} {w : World} {K : Int → World → Prop} (h : sh_codec_Reader_Err r_0 w K) : c_codec_Reader_Err r_0 w K := by
  have e : sh_codec_Reader_Err r_0 w K = shF Tryz.prog 102 ⟨[], [], []⟩ [.pointer r_0] w (fun v w' => decV (.int .i64) v fun y0 => K y0 w') := by kernel_rfl
  exact Calls.mono (calls_of _ e h) (onRet_mono (fun _ _ h => decV_spec h))

-- 70 (prelude/batch.reader).held; callees ['codec_Reader_Err']
def sh_batch_reader_held (c_codec_Reader_Err : Option Addr → World → (Int → World → Prop) → Prop) (r_0_0 : Option Addr) (at_1 : Int) (w : World) (K : World → Prop) (KP : List PanicEntry → World → Prop) : Prop :=
  newP #[.pointer r_0_0] 113 w fun a1 w2 => ldP a1 w2 fun p3 => c_codec_Reader_Err p3 w2 fun r4 w5 => iteB ((r4 : Int) != 0)
  (panP (.iface 108 (.agg #[.int .i64 at_1, .int .i64 r4])) KP w5)
  (K w5)

def c_batch_reader_held (r_0_0 : Option Addr) (at_1 : Int) (w : World) (K : World → Prop) (KP : List PanicEntry → World → Prop) : Prop := Calls Tryz.prog 70 #[.agg #[.pointer r_0_0], .int .i64 at_1] w (onRetX (fun v w' => v = .tuple #[] ∧ K w') KP)

theorem sim_batch_reader_held {r_0_0 : Option Addr} {at_1 : Int} {w : World} {K : World → Prop} {KP : List PanicEntry → World → Prop} (h : sh_batch_reader_held c_codec_Reader_Err r_0_0 at_1 w K KP) : c_batch_reader_held r_0_0 at_1 w K KP := by
  have e : sh_batch_reader_held c_codec_Reader_Err r_0_0 at_1 w K KP = shFX Tryz.prog 70 ⟨[], [], []⟩ [.agg #[.pointer r_0_0], .int .i64 at_1] w (fun v w' => decU v (K w')) ⟨[], KP⟩ := by kernel_rfl
  exact Calls.mono (callsX_of _ e h) (onRetX_mono (fun _ _ h => decU_spec h))

-- 45 (prelude/batch.reader).upto; callees ['codec_Reader_At', 'codec_Reader_Upto', 'batch_reader_held']
def sh_batch_reader_upto (c_codec_Reader_At : Option Addr → World → (Int → World → Prop) → Prop) (c_codec_Reader_Upto : Option Addr → Int → World → (Int → World → Prop) → Prop) (c_batch_reader_held : Option Addr → Int → World → (World → Prop) → (List PanicEntry → World → Prop) → Prop) (r_0_0 : Option Addr) (most_1 : Int) (w : World) (K : Int → World → Prop) (KP : List PanicEntry → World → Prop) : Prop :=
  newP #[.pointer r_0_0] 113 w fun a1 w2 => ldP a1 w2 fun p3 => c_codec_Reader_At p3 w2 fun r4 w5 => ldP a1 w5 fun p6 => c_codec_Reader_Upto p6 (IntKind.u64.wrap most_1) w5 fun r7 w8 => ldP a1 w8 fun p9 => c_batch_reader_held p9 r4 w8 (fun w10 => K (IntKind.i64.wrap r7) w10) KP

def c_batch_reader_upto (r_0_0 : Option Addr) (most_1 : Int) (w : World) (K : Int → World → Prop) (KP : List PanicEntry → World → Prop) : Prop := Calls Tryz.prog 45 #[.agg #[.pointer r_0_0], .int .i64 most_1] w (onRetX (fun v w' => ∃ (y0 : Int), v = .int .i64 y0 ∧ K y0 w') KP)

theorem sim_batch_reader_upto {r_0_0 : Option Addr} {most_1 : Int} {w : World} {K : Int → World → Prop} {KP : List PanicEntry → World → Prop} (h : sh_batch_reader_upto c_codec_Reader_At c_codec_Reader_Upto c_batch_reader_held r_0_0 most_1 w K KP) : c_batch_reader_upto r_0_0 most_1 w K KP := by
  have e : sh_batch_reader_upto c_codec_Reader_At c_codec_Reader_Upto c_batch_reader_held r_0_0 most_1 w K KP = shFX Tryz.prog 45 ⟨[], [], []⟩ [.agg #[.pointer r_0_0], .int .i64 most_1] w (fun v w' => decV (.int .i64) v fun y0 => K y0 w') ⟨[70], KP⟩ := by kernel_rfl
  exact Calls.mono (callsX_of _ e h) (onRetX_mono (fun _ _ h => decV_spec h))

-- 103 (*prelude/codec.Reader).Uint; callees ['codec_Reader_Upto']
def sh_codec_Reader_Uint (c_codec_Reader_Upto : Option Addr → Int → World → (Int → World → Prop) → Prop) (r_0 : Option Addr) (w : World) (K : Int → World → Prop) : Prop :=
  c_codec_Reader_Upto r_0 18446744073709551615 w fun r1 w2 => K r1 w2

def c_codec_Reader_Uint (r_0 : Option Addr) (w : World) (K : Int → World → Prop) : Prop := Calls Tryz.prog 103 #[.pointer r_0] w (onRet (fun v w' => ∃ (y0 : Int), v = .int .u64 y0 ∧ K y0 w'))

theorem sim_codec_Reader_Uint {r_0 : Option Addr} {w : World} {K : Int → World → Prop} (h : sh_codec_Reader_Uint c_codec_Reader_Upto r_0 w K) : c_codec_Reader_Uint r_0 w K := by
  have e : sh_codec_Reader_Uint c_codec_Reader_Upto r_0 w K = shF Tryz.prog 103 ⟨[], [], []⟩ [.pointer r_0] w (fun v w' => decV (.int .u64) v fun y0 => K y0 w') := by kernel_rfl
  exact Calls.mono (calls_of _ e h) (onRet_mono (fun _ _ h => decV_spec h))

-- 71 (*prelude/codec.Reader).Int; callees ['codec_Reader_Uint']
def sh_codec_Reader_Int (c_codec_Reader_Uint : Option Addr → World → (Int → World → Prop) → Prop) (r_0 : Option Addr) (w : World) (K : Int → World → Prop) : Prop :=
  c_codec_Reader_Uint r_0 w fun r1 w2 => shP 1 (K (bXor .i64 (IntKind.i64.wrap (Int.fdiv r1 (2 ^ (min (Int.toNat 1) (IntKind.bits .u64))))) (IntKind.i64.wrap (0 - (IntKind.i64.wrap (bAnd .u64 r1 1))))) w2)

def c_codec_Reader_Int (r_0 : Option Addr) (w : World) (K : Int → World → Prop) : Prop := Calls Tryz.prog 71 #[.pointer r_0] w (onRet (fun v w' => ∃ (y0 : Int), v = .int .i64 y0 ∧ K y0 w'))

theorem sim_codec_Reader_Int {r_0 : Option Addr} {w : World} {K : Int → World → Prop} (h : sh_codec_Reader_Int c_codec_Reader_Uint r_0 w K) : c_codec_Reader_Int r_0 w K := by
  have e : sh_codec_Reader_Int c_codec_Reader_Uint r_0 w K = shF Tryz.prog 71 ⟨[], [], []⟩ [.pointer r_0] w (fun v w' => decV (.int .i64) v fun y0 => K y0 w') := by kernel_rfl
  exact Calls.mono (calls_of _ e h) (onRet_mono (fun _ _ h => decV_spec h))

-- 104 (*prelude/codec.Reader).Raw; callees ['slices_Clone_byte_byte']
def sh_codec_Reader_Raw (c_slices_Clone_byte_byte : Slc → World → (Slc → World → Prop) → Prop) (r_0 : Option Addr) (n_1 : Int) (w : World) (K : Slc → World → Prop) : Prop :=
  nnP r_0 fun a1 => ldI .i64 (a1.add 2) w fun n2 => iteB ((n2 : Int) != 0)
  (K ⟨none, 0, 0⟩ w)
  (iteB (decide ((n_1 : Int) < 0))
  (nnP r_0 fun a3 => stP (a3.add 2) (.int .i64 11) w fun w4 => K ⟨none, 0, 0⟩ w4)
  (nnP r_0 fun a5 => ldS a5 w.drew fun s6 => nnP r_0 fun a7 => ldI .i64 (a7.add 1) w.drew fun n8 => iteB (decide ((n_1 : Int) > (IntKind.i64.wrap ((s6.l : Int) - n8))))
  (nnP r_0 fun a9 => stP (a9.add 2) (.int .i64 10) w.drew fun w10 => K ⟨none, 0, 0⟩ w10)
  (nnP r_0 fun a11 => ldI .i64 (a11.add 1) w.drew fun n12 => nnP r_0 fun a13 => stP (a13.add 1) (.int .i64 (IntKind.i64.wrap (n12 + n_1))) w.drew fun w14 => nnP r_0 fun a15 => ldS a15 w14.drew fun s16 => nnP r_0 fun a17 => ldI .i64 (a17.add 1) w14.drew fun n18 => nnP r_0 fun a19 => ldI .i64 (a19.add 1) w14.drew fun n20 => slP s16.a s16.l s16.c (some (IntKind.i64.wrap (n18 - n_1))) (some n20) 1 fun p21 l22 c23 => c_slices_Clone_byte_byte ⟨p21, l22, c23⟩ w14.drew fun r24 w25 => K r24 w25)))

def c_codec_Reader_Raw (r_0 : Option Addr) (n_1 : Int) (w : World) (K : Slc → World → Prop) : Prop := Calls Tryz.prog 104 #[.pointer r_0, .int .i64 n_1] w (onRet (fun v w' => ∃ (y0 : Slc), v = .slice y0.a y0.l y0.c ∧ K y0 w'))

theorem sim_codec_Reader_Raw {r_0 : Option Addr} {n_1 : Int} {w : World} {K : Slc → World → Prop} (h : sh_codec_Reader_Raw c_slices_Clone_byte_byte r_0 n_1 w K) : c_codec_Reader_Raw r_0 n_1 w K := by
  have e : sh_codec_Reader_Raw c_slices_Clone_byte_byte r_0 n_1 w K = shF Tryz.prog 104 ⟨[(6, .of [0, 1, 2, 3, 4, 5, 6, 7, 8, 9, 10, 11, 12]), (10, .of [0, 1, 2, 3, 4, 5, 6, 7, 8, 9, 10, 11, 12, 13, 14, 15, 16])], [], []⟩ [.pointer r_0, .int .i64 n_1] w (fun v w' => decV .sl v fun y0 => K y0 w') := by kernel_rfl
  exact Calls.mono (calls_of _ e h) (onRet_mono (fun _ _ h => decV_spec h))

-- 105 prelude/keys.FromBytes; callees []
def sh_keys_FromBytes (b_0 : Slc) (w : World) (K : Int → Int → Int → World → Prop) : Prop :=
  newP #[.int .i64 0, .int .i64 0] 87 w fun a1 w2 => iteB (decide (((b_0.l : Int) : Int) < 10))
  (stP a1 (.int .i64 0) w2 fun w3 => stP (a1.add 1) (.int .i64 0) w3 fun w4 => ldI .i64 a1 w4 fun n5 => ldI .i64 (a1.add 1) w4 fun n6 => K n5 n6 10 w4)
  (iteB (decide (((b_0.l : Int) : Int) > 10))
  (stP a1 (.int .i64 0) w2 fun w7 => stP (a1.add 1) (.int .i64 0) w7 fun w8 => ldI .i64 a1 w8 fun n9 => ldI .i64 (a1.add 1) w8 fun n10 => K n9 n10 11 w8)
  (slP b_0.a b_0.l b_0.c (some 2) none 1 fun p11 l12 c13 => loopP (σ := Int × Int × Unit) (fun st15 next14 w16 => (fun (row_17 : Int) (x18 : Int) => iteB (decide ((x18 : Int) < (l12 : Int)))
  (idxP p11 l12 x18 1 fun a19 => ldI .u8 a19 w16 fun n20 => shP 8 (next14 ((bOr .u64 (IntKind.u64.wrap (row_17 * 2 ^ (min (Int.toNat 8) (IntKind.bits .u64)))) (IntKind.u64.wrap n20)), (IntKind.i64.wrap (x18 + 1)), ()) w16))
  (idxP b_0.a b_0.l 0 1 fun a21 => ldI .u8 a21 w16.drew fun n22 => shP 8 (idxP b_0.a b_0.l 1 1 fun a23 => ldI .u8 a23 w16.drew fun n24 => stP a1 (.int .i64 (bOr .i64 (IntKind.i64.wrap ((IntKind.i64.wrap n22) * 2 ^ (min (Int.toNat 8) (IntKind.bits .i64)))) (IntKind.i64.wrap n24))) w16.drew fun w25 => stP (a1.add 1) (.int .i64 (IntKind.i64.wrap (bXor .u64 row_17 9223372036854775808))) w25 fun w26 => ldI .i64 a1 w26 fun n27 => ldI .i64 (a1.add 1) w26 fun n28 => K n27 n28 0 w26))) st15.1 st15.2.1) (0, 0, ()) w2))

def c_keys_FromBytes (b_0 : Slc) (w : World) (K : Int → Int → Int → World → Prop) : Prop := Calls Tryz.prog 105 #[.slice b_0.a b_0.l b_0.c] w (onRet (fun v w' => ∃ (y0 : Int), ∃ (y1 : Int), ∃ (y2 : Int), v = .tuple #[.agg #[.int .i64 y0, .int .i64 y1], .int .i64 y2] ∧ K y0 y1 y2 w'))

theorem sim_keys_FromBytes {b_0 : Slc} {w : World} {K : Int → Int → Int → World → Prop} (h : sh_keys_FromBytes b_0 w K) : c_keys_FromBytes b_0 w K := by
  have e : sh_keys_FromBytes b_0 w K = shF Tryz.prog 105 ⟨[(11, .of [0, 1, 2, 3, 4, 5, 6, 7, 8, 9, 10, 11, 12, 13, 14, 15])], [(7, [(4, (.int .u64)), (20, (.int .i64))], [0, 2, 18, 19])], []⟩ [.slice b_0.a b_0.l b_0.c] w (fun v w' => decT [(true, [(.int .i64), (.int .i64)]), (false, [(.int .i64)])] v fun s => (fun (y0 : Int) (y1 : Int) (y2 : Int) => K y0 y1 y2 w') s.1 s.2.1 s.2.2.1) := by kernel_rfl
  exact Calls.mono (calls_of _ e h) (onRet_mono (fun _ _ h => by obtain ⟨s, h1, h2⟩ := decT_spec h; exact ⟨s.1, s.2.1, s.2.2.1, h1, h2⟩))

-- 73 cmp.isNaN[int]; callees []
def sh_cmp_isNaN_int (x_0 : Int) (w : World) (K : Bool → World → Prop) : Prop :=
  K ((x_0 : Int) != x_0) w

def c_cmp_isNaN_int (x_0 : Int) (w : World) (K : Bool → World → Prop) : Prop := Calls Tryz.prog 73 #[.int .i64 x_0] w (onRet (fun v w' => ∃ (y0 : Bool), v = .bool y0 ∧ K y0 w'))

theorem sim_cmp_isNaN_int {x_0 : Int} {w : World} {K : Bool → World → Prop} (h : sh_cmp_isNaN_int x_0 w K) : c_cmp_isNaN_int x_0 w K := by
  have e : sh_cmp_isNaN_int x_0 w K = shF Tryz.prog 73 ⟨[], [], []⟩ [.int .i64 x_0] w (fun v w' => decV .b v fun y0 => K y0 w') := by kernel_rfl
  exact Calls.mono (calls_of _ e h) (onRet_mono (fun _ _ h => decV_spec h))

-- 54 cmp.Compare[int]; callees ['cmp_isNaN_int']
def sh_cmp_Compare_int (c_cmp_isNaN_int : Int → World → (Bool → World → Prop) → Prop) (x_0 : Int) (y_1 : Int) (w : World) (K : Int → World → Prop) : Prop :=
  c_cmp_isNaN_int x_0 w fun r1 w2 => c_cmp_isNaN_int y_1 w2 fun r3 w4 => iteB r1
  (iteB r3
  (K 0 w4)
  (K (-1) w4))
  (iteB r3
  (K 1 w4)
  (iteB (decide ((x_0 : Int) < y_1))
  (K (-1) w4)
  (iteB (decide ((x_0 : Int) > y_1))
  (K 1 w4)
  (K 0 w4))))

def c_cmp_Compare_int (x_0 : Int) (y_1 : Int) (w : World) (K : Int → World → Prop) : Prop := Calls Tryz.prog 54 #[.int .i64 x_0, .int .i64 y_1] w (onRet (fun v w' => ∃ (y0 : Int), v = .int .i64 y0 ∧ K y0 w'))

theorem sim_cmp_Compare_int {x_0 : Int} {y_1 : Int} {w : World} {K : Int → World → Prop} (h : sh_cmp_Compare_int c_cmp_isNaN_int x_0 y_1 w K) : c_cmp_Compare_int x_0 y_1 w K := by
  have e : sh_cmp_Compare_int c_cmp_isNaN_int x_0 y_1 w K = shF Tryz.prog 54 ⟨[], [], []⟩ [.int .i64 x_0, .int .i64 y_1] w (fun v w' => decV (.int .i64) v fun y0 => K y0 w') := by kernel_rfl
  exact Calls.mono (calls_of _ e h) (onRet_mono (fun _ _ h => decV_spec h))

-- 74 cmp.isNaN[int64]; callees []
def sh_cmp_isNaN_int64 (x_0 : Int) (w : World) (K : Bool → World → Prop) : Prop :=
  K ((x_0 : Int) != x_0) w

def c_cmp_isNaN_int64 (x_0 : Int) (w : World) (K : Bool → World → Prop) : Prop := Calls Tryz.prog 74 #[.int .i64 x_0] w (onRet (fun v w' => ∃ (y0 : Bool), v = .bool y0 ∧ K y0 w'))

theorem sim_cmp_isNaN_int64 {x_0 : Int} {w : World} {K : Bool → World → Prop} (h : sh_cmp_isNaN_int64 x_0 w K) : c_cmp_isNaN_int64 x_0 w K := by
  have e : sh_cmp_isNaN_int64 x_0 w K = shF Tryz.prog 74 ⟨[], [], []⟩ [.int .i64 x_0] w (fun v w' => decV .b v fun y0 => K y0 w') := by kernel_rfl
  exact Calls.mono (calls_of _ e h) (onRet_mono (fun _ _ h => decV_spec h))

-- 55 cmp.Compare[int64]; callees ['cmp_isNaN_int64']
def sh_cmp_Compare_int64 (c_cmp_isNaN_int64 : Int → World → (Bool → World → Prop) → Prop) (x_0 : Int) (y_1 : Int) (w : World) (K : Int → World → Prop) : Prop :=
  c_cmp_isNaN_int64 x_0 w fun r1 w2 => c_cmp_isNaN_int64 y_1 w2 fun r3 w4 => iteB r1
  (iteB r3
  (K 0 w4)
  (K (-1) w4))
  (iteB r3
  (K 1 w4)
  (iteB (decide ((x_0 : Int) < y_1))
  (K (-1) w4)
  (iteB (decide ((x_0 : Int) > y_1))
  (K 1 w4)
  (K 0 w4))))

def c_cmp_Compare_int64 (x_0 : Int) (y_1 : Int) (w : World) (K : Int → World → Prop) : Prop := Calls Tryz.prog 55 #[.int .i64 x_0, .int .i64 y_1] w (onRet (fun v w' => ∃ (y0 : Int), v = .int .i64 y0 ∧ K y0 w'))

theorem sim_cmp_Compare_int64 {x_0 : Int} {y_1 : Int} {w : World} {K : Int → World → Prop} (h : sh_cmp_Compare_int64 c_cmp_isNaN_int64 x_0 y_1 w K) : c_cmp_Compare_int64 x_0 y_1 w K := by
  have e : sh_cmp_Compare_int64 c_cmp_isNaN_int64 x_0 y_1 w K = shF Tryz.prog 55 ⟨[], [], []⟩ [.int .i64 x_0, .int .i64 y_1] w (fun v w' => decV (.int .i64) v fun y0 => K y0 w') := by kernel_rfl
  exact Calls.mono (calls_of _ e h) (onRet_mono (fun _ _ h => decV_spec h))

-- 53 cmp.Or[int]; callees []
def sh_cmp_Or_int (vals_0 : Slc) (w : World) (K : Int → World → Prop) : Prop :=
  loopP (σ := Int × Unit) (fun st2 next1 w3 => (fun (x4 : Int) => iteB (decide ((x4 : Int) < (vals_0.l : Int)))
  (idxP vals_0.a vals_0.l x4 1 fun a5 => ldI .i64 a5 w3 fun n6 => iteB ((n6 : Int) != 0)
  (K n6 w3)
  (next1 ((IntKind.i64.wrap (x4 + 1)), ()) w3))
  (K 0 w3)) st2.1) (0, ()) w

def c_cmp_Or_int (vals_0 : Slc) (w : World) (K : Int → World → Prop) : Prop := Calls Tryz.prog 53 #[.slice vals_0.a vals_0.l vals_0.c] w (onRet (fun v w' => ∃ (y0 : Int), v = .int .i64 y0 ∧ K y0 w'))

theorem sim_cmp_Or_int {vals_0 : Slc} {w : World} {K : Int → World → Prop} (h : sh_cmp_Or_int vals_0 w K) : c_cmp_Or_int vals_0 w K := by
  have e : sh_cmp_Or_int vals_0 w K = shF Tryz.prog 53 ⟨[], [(3, [(8, (.int .i64))], [3, 6, 7])], []⟩ [.slice vals_0.a vals_0.l vals_0.c] w (fun v w' => decV (.int .i64) v fun y0 => K y0 w') := by kernel_rfl
  exact Calls.mono (calls_of _ e h) (onRet_mono (fun _ _ h => decV_spec h))

-- 35 prelude/keys.Compare; callees ['cmp_Compare_int', 'cmp_Compare_int64', 'cmp_Or_int']
def sh_keys_Compare (c_cmp_Compare_int : Int → Int → World → (Int → World → Prop) → Prop) (c_cmp_Compare_int64 : Int → Int → World → (Int → World → Prop) → Prop) (c_cmp_Or_int : Slc → World → (Int → World → Prop) → Prop) (a_0_0 : Int) (a_0_1 : Int) (b_1_0 : Int) (b_1_1 : Int) (w : World) (K : Int → World → Prop) : Prop :=
  newP #[.int .i64 a_0_0, .int .i64 a_0_1] 87 w fun a1 w2 => newP #[.int .i64 b_1_0, .int .i64 b_1_1] 87 w2 fun a3 w4 => ldI .i64 a1 w4 fun n5 => ldI .i64 (a1.add 1) w4 fun n6 => ldI .i64 a3 w4 fun n7 => ldI .i64 (a3.add 1) w4 fun n8 => (∃ (r9 : Bool), ∃ w10, (do eqGuard .eql 87 (.tmp 5) (.tmp 6) (.agg #[.int .i64 n5, .int .i64 n6]) (.agg #[.int .i64 n7, .int .i64 n8]); binOp .eql 87 (.agg #[.int .i64 n5, .int .i64 n6]) (.agg #[.int .i64 n7, .int .i64 n8])).run Tryz.prog w4 = .ok (.bool r9) w10 ∧ (iteB r9
  (K 0 w10)
  (ldI .i64 a1 w10.drew fun n11 => ldI .i64 a3 w10.drew fun n12 => ldI .i64 (a1.add 1) w10.drew fun n13 => ldI .i64 (a3.add 1) w10.drew fun n14 => c_cmp_Compare_int n11 n12 w10.drew fun r15 w16 => w16.cell? (a3.add 1) = some (.int .i64 n14) ∧ w16.cell? (a1.add 1) = some (.int .i64 n13) ∧ (c_cmp_Compare_int64 n13 n14 w16 fun r17 w18 => newP #[.int .i64 r15, .int .i64 r17] 3 w18 fun a19 w20 => c_cmp_Or_int ⟨(some a19), 2, 2⟩ w20 fun r21 w22 => K r21 w22))))

def c_keys_Compare (a_0_0 : Int) (a_0_1 : Int) (b_1_0 : Int) (b_1_1 : Int) (w : World) (K : Int → World → Prop) : Prop := Calls Tryz.prog 35 #[.agg #[.int .i64 a_0_0, .int .i64 a_0_1], .agg #[.int .i64 b_1_0, .int .i64 b_1_1]] w (onRet (fun v w' => ∃ (y0 : Int), v = .int .i64 y0 ∧ K y0 w'))

theorem sim_keys_Compare {a_0_0 : Int} {a_0_1 : Int} {b_1_0 : Int} {b_1_1 : Int} {w : World} {K : Int → World → Prop} (h : sh_keys_Compare c_cmp_Compare_int c_cmp_Compare_int64 c_cmp_Or_int a_0_0 a_0_1 b_1_0 b_1_1 w K) : c_keys_Compare a_0_0 a_0_1 b_1_0 b_1_1 w K := by
  have e : sh_keys_Compare c_cmp_Compare_int c_cmp_Compare_int64 c_cmp_Or_int a_0_0 a_0_1 b_1_0 b_1_1 w K = shF Tryz.prog 35 ⟨[(3, .of [0, 1, 2, 3, 5, 6, 7, 8, 4, 9, 10, 11, 12])], [], []⟩ [.agg #[.int .i64 a_0_0, .int .i64 a_0_1], .agg #[.int .i64 b_1_0, .int .i64 b_1_1]] w (fun v w' => decV (.int .i64) v fun y0 => K y0 w') := by kernel_rfl
  exact Calls.mono (calls_of _ e h) (onRet_mono (fun _ _ h => decV_spec h))

-- 72 (prelude/batch.reader).set; callees ['batch_reader_upto', 'codec_Reader_At', 'codec_Reader_Raw', 'batch_reader_held', 'keys_FromBytes', 'keys_Compare']
def sh_batch_reader_set (c_batch_reader_upto : Option Addr → Int → World → (Int → World → Prop) → (List PanicEntry → World → Prop) → Prop) (c_codec_Reader_At : Option Addr → World → (Int → World → Prop) → Prop) (c_codec_Reader_Raw : Option Addr → Int → World → (Slc → World → Prop) → Prop) (c_batch_reader_held : Option Addr → Int → World → (World → Prop) → (List PanicEntry → World → Prop) → Prop) (c_keys_FromBytes : Slc → World → (Int → Int → Int → World → Prop) → Prop) (c_keys_Compare : Int → Int → Int → Int → World → (Int → World → Prop) → Prop) (r_0_0 : Option Addr) (most_1 : Int) (w : World) (K : Slc → World → Prop) (KP : List PanicEntry → World → Prop) : Prop :=
  newP #[.pointer r_0_0] 113 w fun a1 w2 => ldP a1 w2 fun p3 => c_batch_reader_upto p3 most_1 w2 (fun r4 w5 => loopP (σ := Slc × Int × Unit) (fun st7 next6 w8 => (fun (l_9 : Slc) (x10 : Int) => iteB (decide ((x10 : Int) < r4))
  (ldP a1 w8 fun p11 => c_codec_Reader_At p11 w8 fun r12 w13 => ldP a1 w13 fun p14 => c_codec_Reader_Raw p14 10 w13 fun r15 w16 => ldP a1 w16 fun p17 => c_batch_reader_held p17 r12 w16 (fun w18 => c_keys_FromBytes r15 w18 fun r19 r20 r21 w22 => newP #[.int .i64 0, .int .i64 0] 87 w22 fun a23 w24 => stP a23 (.int .i64 r19) w24 fun w25 => stP (a23.add 1) (.int .i64 r20) w25 fun w26 => iteB (decide (((l_9.l : Int) : Int) > 0))
  (idxP l_9.a l_9.l (IntKind.i64.wrap ((l_9.l : Int) - 1)) 2 fun a27 => ldI .i64 a27 w26.drew fun n28 => ldI .i64 (a27.add 1) w26.drew fun n29 => ldI .i64 a23 w26.drew fun n30 => ldI .i64 (a23.add 1) w26.drew fun n31 => c_keys_Compare n28 n29 n30 n31 w26.drew fun r32 w33 => iteB (decide ((r32 : Int) ≥ 0))
  (panP (.iface 108 (.agg #[.int .i64 r12, .int .i64 65])) KP w33)
  (ldI .i64 a23 w33 fun n34 => ldI .i64 (a23.add 1) w33 fun n35 => newP #[.int .i64 n34, .int .i64 n35] 87 w33 fun a36 w37 => apP Tryz.prog #[44, 44] 44 [.slice l_9.a l_9.l l_9.c, .slice (some a36) 1 1] w37 fun s39 w38 => next6 (s39, (IntKind.i64.wrap (x10 + 1)), ()) w38))
  (ldI .i64 a23 w26.drew fun n40 => ldI .i64 (a23.add 1) w26.drew fun n41 => newP #[.int .i64 n40, .int .i64 n41] 87 w26.drew fun a42 w43 => apP Tryz.prog #[44, 44] 44 [.slice l_9.a l_9.l l_9.c, .slice (some a42) 1 1] w43 fun s45 w44 => next6 (s45, (IntKind.i64.wrap (x10 + 1)), ()) w44)) KP)
  (K l_9 w8)) st7.1 st7.2.1) (⟨none, 0, 0⟩, 0, ()) w5) KP

def c_batch_reader_set (r_0_0 : Option Addr) (most_1 : Int) (w : World) (K : Slc → World → Prop) (KP : List PanicEntry → World → Prop) : Prop := Calls Tryz.prog 72 #[.agg #[.pointer r_0_0], .int .i64 most_1] w (onRetX (fun v w' => ∃ (y0 : Slc), v = .slice y0.a y0.l y0.c ∧ K y0 w') KP)

theorem sim_batch_reader_set {r_0_0 : Option Addr} {most_1 : Int} {w : World} {K : Slc → World → Prop} {KP : List PanicEntry → World → Prop} (h : sh_batch_reader_set c_batch_reader_upto c_codec_Reader_At c_codec_Reader_Raw c_batch_reader_held c_keys_FromBytes c_keys_Compare r_0_0 most_1 w K KP) : c_batch_reader_set r_0_0 most_1 w K KP := by
  have e : sh_batch_reader_set c_batch_reader_upto c_codec_Reader_At c_codec_Reader_Raw c_batch_reader_held c_keys_FromBytes c_keys_Compare r_0_0 most_1 w K KP = shFX Tryz.prog 72 ⟨[(8, .of [0, 1, 2, 3, 4, 5, 6, 7, 8, 9, 10, 11, 12, 13])], [(3, [(5, .sl), (13, (.int .i64))], [2, 12])], []⟩ [.agg #[.pointer r_0_0], .int .i64 most_1] w (fun v w' => decV .sl v fun y0 => K y0 w') ⟨[45, 70], KP⟩ := by kernel_rfl
  exact Calls.mono (callsX_of _ e h) (onRetX_mono (fun _ _ h => decV_spec h))

-- 46 (prelude/batch.reader).tx; callees ['batch_reader_upto', 'codec_Reader_At', 'codec_Reader_Int', 'batch_reader_held', 'batch_reader_set']
def sh_batch_reader_tx (c_batch_reader_upto : Option Addr → Int → World → (Int → World → Prop) → (List PanicEntry → World → Prop) → Prop) (c_codec_Reader_At : Option Addr → World → (Int → World → Prop) → Prop) (c_codec_Reader_Int : Option Addr → World → (Int → World → Prop) → Prop) (c_batch_reader_held : Option Addr → Int → World → (World → Prop) → (List PanicEntry → World → Prop) → Prop) (c_batch_reader_set : Option Addr → Int → World → (Slc → World → Prop) → (List PanicEntry → World → Prop) → Prop) (r_0_0 : Option Addr) (w : World) (K : Int → Slc → Slc → Slc → World → Prop) (KP : List PanicEntry → World → Prop) : Prop :=
  newP #[.pointer r_0_0] 113 w fun a1 w2 => newP #[.int .i64 0, .slice none 0 0, .slice none 0 0, .slice none 0 0] 46 w2 fun a3 w4 => ldP a1 w4 fun p5 => c_batch_reader_upto p5 63 w4 (fun r6 w7 => newP #[.int .i64 0, .slice none 0 0, .slice none 0 0, .slice none 0 0] 46 w7 fun a8 w9 => stP a8 (.int .i64 r6) w9 fun w10 => stP (a8.add 1) (.slice none 0 0) w10 fun w11 => stP (a8.add 2) (.slice none 0 0) w11 fun w12 => stP (a8.add 3) (.slice none 0 0) w12 fun w13 => ldP a1 w13 fun p14 => c_batch_reader_upto p14 16 w13 (fun r15 w16 => loopP (σ := Int × Unit) (fun st18 next17 w19 => (fun (x20 : Int) => iteB (decide ((x20 : Int) < r15))
  (ldP a1 w19 fun p21 => c_codec_Reader_At p21 w19 fun r22 w23 => ldP a1 w23 fun p24 => c_codec_Reader_Int p24 w23 fun r25 w26 => ldP a1 w26 fun p27 => c_batch_reader_held p27 r22 w26 (fun w28 => ldS (a8.add 1) w28 fun s29 => newP #[.int .i64 r25] 2 w28 fun a30 w31 => apP Tryz.prog #[43, 43] 43 [.slice s29.a s29.l s29.c, .slice (some a30) 1 1] w31 fun s33 w32 => stP (a8.add 1) (.slice s33.a s33.l s33.c) w32 fun w34 => next17 ((IntKind.i64.wrap (x20 + 1)), ()) w34) KP)
  (ldP a1 w19 fun p35 => c_batch_reader_set p35 16 w19 (fun r36 w37 => stP (a8.add 2) (.slice r36.a r36.l r36.c) w37 fun w38 => ldP a1 w38 fun p39 => c_batch_reader_set p39 16 w38 (fun r40 w41 => stP (a8.add 3) (.slice r40.a r40.l r40.c) w41 fun w42 => ldI .i64 a8 w42 fun n43 => ldS (a8.add 1) w42 fun s44 => ldS (a8.add 2) w42 fun s45 => ldS (a8.add 3) w42 fun s46 => stP a3 (.int .i64 n43) w42 fun w47 => stP (a3.add 1) (.slice s44.a s44.l s44.c) w47 fun w48 => stP (a3.add 2) (.slice s45.a s45.l s45.c) w48 fun w49 => stP (a3.add 3) (.slice s46.a s46.l s46.c) w49 fun w50 => ldI .i64 a3 w50 fun n51 => ldS (a3.add 1) w50 fun s52 => ldS (a3.add 2) w50 fun s53 => ldS (a3.add 3) w50 fun s54 => K n51 s52 s53 s54 w50) KP) KP)) st18.1) (0, ()) w16) KP) KP

def c_batch_reader_tx (r_0_0 : Option Addr) (w : World) (K : Int → Slc → Slc → Slc → World → Prop) (KP : List PanicEntry → World → Prop) : Prop := Calls Tryz.prog 46 #[.agg #[.pointer r_0_0]] w (onRetX (fun v w' => ∃ (y0 : Int), ∃ (y1 : Slc), ∃ (y2 : Slc), ∃ (y3 : Slc), v = .agg #[.int .i64 y0, .slice y1.a y1.l y1.c, .slice y2.a y2.l y2.c, .slice y3.a y3.l y3.c] ∧ K y0 y1 y2 y3 w') KP)

theorem sim_batch_reader_tx {r_0_0 : Option Addr} {w : World} {K : Int → Slc → Slc → Slc → World → Prop} {KP : List PanicEntry → World → Prop} (h : sh_batch_reader_tx c_batch_reader_upto c_codec_Reader_At c_codec_Reader_Int c_batch_reader_held c_batch_reader_set r_0_0 w K KP) : c_batch_reader_tx r_0_0 w K KP := by
  have e : sh_batch_reader_tx c_batch_reader_upto c_codec_Reader_At c_codec_Reader_Int c_batch_reader_held c_batch_reader_set r_0_0 w K KP = shFX Tryz.prog 46 ⟨[], [(3, [(11, (.int .i64))], [1, 2, 3, 10])], []⟩ [.agg #[.pointer r_0_0]] w (fun v w' => decA [(.int .i64), .sl, .sl, .sl] v fun s => (fun (y0 : Int) (y1 : Slc) (y2 : Slc) (y3 : Slc) => K y0 y1 y2 y3 w') s.1 s.2.1 s.2.2.1 s.2.2.2.1) ⟨[45, 70, 72], KP⟩ := by kernel_rfl
  exact Calls.mono (callsX_of _ e h) (onRetX_mono (fun _ _ h => by obtain ⟨s, h1, h2⟩ := decA_spec h; exact ⟨s.1, s.2.1, s.2.2.1, s.2.2.2.1, h1, h2⟩))

-- 47 (*prelude/codec.Reader).Left; callees []
def sh_codec_Reader_Left (r_0 : Option Addr) (w : World) (K : Int → World → Prop) : Prop :=
  nnP r_0 fun a1 => ldS a1 w.drew fun s2 => nnP r_0 fun a3 => ldI .i64 (a3.add 1) w.drew fun n4 => K (IntKind.i64.wrap ((s2.l : Int) - n4)) w.drew

def c_codec_Reader_Left (r_0 : Option Addr) (w : World) (K : Int → World → Prop) : Prop := Calls Tryz.prog 47 #[.pointer r_0] w (onRet (fun v w' => ∃ (y0 : Int), v = .int .i64 y0 ∧ K y0 w'))

theorem sim_codec_Reader_Left {r_0 : Option Addr} {w : World} {K : Int → World → Prop} (h : sh_codec_Reader_Left r_0 w K) : c_codec_Reader_Left r_0 w K := by
  have e : sh_codec_Reader_Left r_0 w K = shF Tryz.prog 47 ⟨[(1, .of [0, 1, 2, 3, 4, 5, 6, 7, 8, 9, 10])], [], []⟩ [.pointer r_0] w (fun v w' => decV (.int .i64) v fun y0 => K y0 w') := by kernel_rfl
  exact Calls.mono (calls_of _ e h) (onRet_mono (fun _ _ h => decV_spec h))

-- 21 prelude/batch.Decode; callees ['codec_Read', 'batch_reader_upto', 'batch_reader_tx', 'codec_Reader_Left', 'codec_Reader_At']
def sh_batch_Decode (c_codec_Read : Slc → World → (Option Addr → World → Prop) → Prop) (c_batch_reader_upto : Option Addr → Int → World → (Int → World → Prop) → (List PanicEntry → World → Prop) → Prop) (c_batch_reader_tx : Option Addr → World → (Int → Slc → Slc → Slc → World → Prop) → (List PanicEntry → World → Prop) → Prop) (c_codec_Reader_Left : Option Addr → World → (Int → World → Prop) → Prop) (c_codec_Reader_At : Option Addr → World → (Int → World → Prop) → Prop) (data_0 : Slc) (w : World) (K : Slc → Int → Int → World → Prop) : Prop :=
  newP #[.slice none 0 0] 31 w fun a1 w2 => newP #[.int .i64 0] 3 w2 fun a3 w4 => newP #[.int .i64 0] 28 w4 fun a5 w6 => c_codec_Read data_0 w6 fun r14 w15 => newP #[.pointer none] 113 w15 fun a16 w17 => stP a16 (.pointer r14) w17 fun w18 => ldP a16 w18 fun p19 => c_batch_reader_upto p19 64 w18 (fun r20 w21 => loopP (σ := Int × Unit) (fun st23 next22 w24 => (fun (x25 : Int) => iteB (decide ((x25 : Int) < r20))
  (ldS a1 w24.drew fun s26 => ldP a16 w24.drew fun p27 => c_batch_reader_tx p27 w24.drew (fun r28 r29 r30 r31 w32 => w32.cell? a1 = some (.slice s26.a s26.l s26.c) ∧ (newP #[.int .i64 r28, .slice r29.a r29.l r29.c, .slice r30.a r30.l r30.c, .slice r31.a r31.l r31.c] 46 w32 fun a33 w34 => w34.cell? a1 = some (.slice s26.a s26.l s26.c) ∧ (apP Tryz.prog #[31, 31] 31 [.slice s26.a s26.l s26.c, .slice (some a33) 1 1] w34 fun s36 w35 => stP a1 (.slice s36.a s36.l s36.c) w35 fun w37 => next22 ((IntKind.i64.wrap (x25 + 1)), ()) w37))) (fun ch8 w9 => dfP Tryz.prog (.func (.func 43) #[] #[.pointer (some a1), .pointer (some a3), .pointer (some a5)]) (.panicking ch8) w9 fun w10 => ldS a1 w10 fun s11 => ldI .i64 a3 w10 fun n12 => ldI .i64 a5 w10 fun n13 => K s11 n12 n13 w10))
  (ldP a16 w24 fun p38 => c_codec_Reader_Left p38 w24 fun r39 w40 => iteB (decide ((r39 : Int) > 0))
  (ldP a16 w40 fun p41 => c_codec_Reader_At p41 w40 fun r42 w43 => panP (.iface 108 (.agg #[.int .i64 r42, .int .i64 11])) (fun ch8 w9 => dfP Tryz.prog (.func (.func 43) #[] #[.pointer (some a1), .pointer (some a3), .pointer (some a5)]) (.panicking ch8) w9 fun w10 => ldS a1 w10 fun s11 => ldI .i64 a3 w10 fun n12 => ldI .i64 a5 w10 fun n13 => K s11 n12 n13 w10) w43)
  (ldS a1 w40 fun s44 => stP a1 (.slice s44.a s44.l s44.c) w40 fun w45 => stP a3 (.int .i64 0) w45 fun w46 => stP a5 (.int .i64 0) w46 fun w47 => dfP Tryz.prog (.func (.func 43) #[] #[.pointer (some a1), .pointer (some a3), .pointer (some a5)]) .returning w47 fun w48 => ldS a1 w48 fun s49 => ldI .i64 a3 w48 fun n50 => ldI .i64 a5 w48 fun n51 => K s49 n50 n51 w48))) st23.1) (0, ()) w21) (fun ch8 w9 => dfP Tryz.prog (.func (.func 43) #[] #[.pointer (some a1), .pointer (some a3), .pointer (some a5)]) (.panicking ch8) w9 fun w10 => ldS a1 w10 fun s11 => ldI .i64 a3 w10 fun n12 => ldI .i64 a5 w10 fun n13 => K s11 n12 n13 w10)

def c_batch_Decode (data_0 : Slc) (w : World) (K : Slc → Int → Int → World → Prop) : Prop := Calls Tryz.prog 21 #[.slice data_0.a data_0.l data_0.c] w (onRet (fun v w' => ∃ (y0 : Slc), ∃ (y1 : Int), ∃ (y2 : Int), v = .tuple #[.slice y0.a y0.l y0.c, .int .i64 y1, .int .i64 y2] ∧ K y0 y1 y2 w'))

theorem sim_batch_Decode {data_0 : Slc} {w : World} {K : Slc → Int → Int → World → Prop} (h : sh_batch_Decode c_codec_Read c_batch_reader_upto c_batch_reader_tx c_codec_Reader_Left c_codec_Reader_At data_0 w K) : c_batch_Decode data_0 w K := by
  have e : sh_batch_Decode c_codec_Read c_batch_reader_upto c_batch_reader_tx c_codec_Reader_Left c_codec_Reader_At data_0 w K = shFD Tryz.prog [45, 46] 21 ⟨[(5, .of [0, 1, 2, 3, 4, 5])], [(4, [(12, (.int .i64))], [2, 3, 4, 5, 11])], []⟩ [.slice data_0.a data_0.l data_0.c] w (fun v w' => decT [(false, [.sl]), (false, [(.int .i64)]), (false, [(.int .i64)])] v fun s => (fun (y0 : Slc) (y1 : Int) (y2 : Int) => K y0 y1 y2 w') s.1 s.2.1 s.2.2.1) := by kernel_rfl
  exact Calls.mono (callsD_of _ e h) (onRet_mono (fun _ _ h => by obtain ⟨s, h1, h2⟩ := decT_spec h; exact ⟨s.1, s.2.1, s.2.2.1, h1, h2⟩))

-- 22 prelude/batch.Check; callees ['batch_first']
def sh_batch_Check (c_batch_first : Slc → Value → World → (Int → Int → World → Prop) → Prop) (lib_0 : Slc) (b_1 : Slc) (w : World) (K : Int → Int → World → Prop) : Prop :=
  newP #[.slice lib_0.a lib_0.l lib_0.c] 22 w fun a1 w2 => c_batch_first b_1 (.func (.func 49) #[] #[.pointer (some a1)]) w2 fun r3 r4 w5 => K r3 r4 w5

def c_batch_Check (lib_0 : Slc) (b_1 : Slc) (w : World) (K : Int → Int → World → Prop) : Prop := Calls Tryz.prog 22 #[.slice lib_0.a lib_0.l lib_0.c, .slice b_1.a b_1.l b_1.c] w (onRet (fun v w' => ∃ (y0 : Int), ∃ (y1 : Int), v = .tuple #[.int .i64 y0, .int .i64 y1] ∧ K y0 y1 w'))

theorem sim_batch_Check {lib_0 : Slc} {b_1 : Slc} {w : World} {K : Int → Int → World → Prop} (h : sh_batch_Check c_batch_first lib_0 b_1 w K) : c_batch_Check lib_0 b_1 w K := by
  have e : sh_batch_Check c_batch_first lib_0 b_1 w K = shF Tryz.prog 22 ⟨[], [], []⟩ [.slice lib_0.a lib_0.l lib_0.c, .slice b_1.a b_1.l b_1.c] w (fun v w' => decT [(false, [(.int .i64)]), (false, [(.int .i64)])] v fun s => (fun (y0 : Int) (y1 : Int) => K y0 y1 w') s.1 s.2.1) := by kernel_rfl
  exact Calls.mono (calls_of _ e h) (onRet_mono (fun _ _ h => by obtain ⟨s, h1, h2⟩ := decT_spec h; exact ⟨s.1, s.2.1, h1, h2⟩))

-- 7 prelude/batch.Accept; callees ['batch_Decode', 'batch_Check']
def sh_batch_Accept (c_batch_Decode : Slc → World → (Slc → Int → Int → World → Prop) → Prop) (c_batch_Check : Slc → Slc → World → (Int → Int → World → Prop) → Prop) (lib_0 : Slc) (data_1 : Slc) (w : World) (K : Slc → Value → World → Prop) : Prop :=
  c_batch_Decode data_1 w fun r1 r2 r3 w4 => iteB ((r3 : Int) != 0)
  (newP #[.int .i64 r2, .iface 28 (.int .i64 r3)] 73 w4 fun a5 w6 => K ⟨none, 0, 0⟩ (.iface 71 (.pointer (some a5))) w6)
  (c_batch_Check lib_0 r1 w4 fun r7 r8 w9 => iteB ((r8 : Int) != 0)
  (newP #[.int .i64 r7, .iface 28 (.int .i64 r8)] 77 w9 fun a10 w11 => K ⟨none, 0, 0⟩ (.iface 75 (.pointer (some a10))) w11)
  (K r1 .nilIface w9))

def c_batch_Accept (lib_0 : Slc) (data_1 : Slc) (w : World) (K : Slc → Value → World → Prop) : Prop := Calls Tryz.prog 7 #[.slice lib_0.a lib_0.l lib_0.c, .slice data_1.a data_1.l data_1.c] w (onRet (fun v w' => ∃ (y0 : Slc), ∃ (y1 : Value), v = .tuple #[.slice y0.a y0.l y0.c, y1] ∧ K y0 y1 w'))

theorem sim_batch_Accept {lib_0 : Slc} {data_1 : Slc} {w : World} {K : Slc → Value → World → Prop} (h : sh_batch_Accept c_batch_Decode c_batch_Check lib_0 data_1 w K) : c_batch_Accept lib_0 data_1 w K := by
  have e : sh_batch_Accept c_batch_Decode c_batch_Check lib_0 data_1 w K = shF Tryz.prog 7 ⟨[], [], []⟩ [.slice lib_0.a lib_0.l lib_0.c, .slice data_1.a data_1.l data_1.c] w (fun v w' => decT [(false, [.sl]), (false, [.any])] v fun s => (fun (y0 : Slc) (y1 : Value) => K y0 y1 w') s.1 s.2.1) := by kernel_rfl
  exact Calls.mono (calls_of _ e h) (onRet_mono (fun _ _ h => by obtain ⟨s, h1, h2⟩ := decT_spec h; exact ⟨s.1, s.2.1, h1, h2⟩))

-- 8 prelude/preludelaw06.num; callees []
def sh_preludelaw06_num (e_0 : Int) (w : World) (K : Int → World → Prop) : Prop :=
  K e_0 w

def c_preludelaw06_num (e_0 : Int) (w : World) (K : Int → World → Prop) : Prop := Calls Tryz.prog 8 #[.int .i64 e_0] w (onRet (fun v w' => ∃ (y0 : Int), v = .int .i64 y0 ∧ K y0 w'))

theorem sim_preludelaw06_num {e_0 : Int} {w : World} {K : Int → World → Prop} (h : sh_preludelaw06_num e_0 w K) : c_preludelaw06_num e_0 w K := by
  have e : sh_preludelaw06_num e_0 w K = shF Tryz.prog 8 ⟨[], [], []⟩ [.int .i64 e_0] w (fun v w' => decV (.int .i64) v fun y0 => K y0 w') := by kernel_rfl
  exact Calls.mono (calls_of _ e h) (onRet_mono (fun _ _ h => decV_spec h))

-- 11 prelude/preludelaw06.sameBytes; callees []
def sh_preludelaw06_sameBytes (a_0 : Slc) (b_1 : Slc) (w : World) (K : Bool → World → Prop) : Prop :=
  iteB (((a_0.l : Int) : Int) != (b_1.l : Int))
  (K false w)
  (loopP (σ := Int × Unit) (fun st2 next1 w3 => (fun (i_4 : Int) => iteB (decide ((i_4 : Int) < (a_0.l : Int)))
  (idxP a_0.a a_0.l i_4 1 fun a5 => ldI .u8 a5 w3.drew fun n6 => idxP b_1.a b_1.l i_4 1 fun a7 => ldI .u8 a7 w3.drew fun n8 => iteB ((n6 : Int) != n8)
  (K false w3.drew)
  (next1 ((IntKind.i64.wrap (i_4 + 1)), ()) w3.drew))
  (K true w3)) st2.1) (0, ()) w)

def c_preludelaw06_sameBytes (a_0 : Slc) (b_1 : Slc) (w : World) (K : Bool → World → Prop) : Prop := Calls Tryz.prog 11 #[.slice a_0.a a_0.l a_0.c, .slice b_1.a b_1.l b_1.c] w (onRet (fun v w' => ∃ (y0 : Bool), v = .bool y0 ∧ K y0 w'))

theorem sim_preludelaw06_sameBytes {a_0 : Slc} {b_1 : Slc} {w : World} {K : Bool → World → Prop} (h : sh_preludelaw06_sameBytes a_0 b_1 w K) : c_preludelaw06_sameBytes a_0 b_1 w K := by
  have e : sh_preludelaw06_sameBytes a_0 b_1 w K = shF Tryz.prog 11 ⟨[(6, .of [0, 1, 2, 3, 4, 5, 6, 7, 8])], [(4, [(5, (.int .i64))], [0, 1])], []⟩ [.slice a_0.a a_0.l a_0.c, .slice b_1.a b_1.l b_1.c] w (fun v w' => decV .b v fun y0 => K y0 w') := by kernel_rfl
  exact Calls.mono (calls_of _ e h) (onRet_mono (fun _ _ h => decV_spec h))

-- 40 prelude/preludelaw06.sameInts; callees []
def sh_preludelaw06_sameInts (a_0 : Slc) (b_1 : Slc) (w : World) (K : Bool → World → Prop) : Prop :=
  iteB (((a_0.l : Int) : Int) != (b_1.l : Int))
  (K false w)
  (loopP (σ := Int × Unit) (fun st2 next1 w3 => (fun (i_4 : Int) => iteB (decide ((i_4 : Int) < (a_0.l : Int)))
  (idxP a_0.a a_0.l i_4 1 fun a5 => ldI .i64 a5 w3.drew fun n6 => idxP b_1.a b_1.l i_4 1 fun a7 => ldI .i64 a7 w3.drew fun n8 => iteB ((n6 : Int) != n8)
  (K false w3.drew)
  (next1 ((IntKind.i64.wrap (i_4 + 1)), ()) w3.drew))
  (K true w3)) st2.1) (0, ()) w)

def c_preludelaw06_sameInts (a_0 : Slc) (b_1 : Slc) (w : World) (K : Bool → World → Prop) : Prop := Calls Tryz.prog 40 #[.slice a_0.a a_0.l a_0.c, .slice b_1.a b_1.l b_1.c] w (onRet (fun v w' => ∃ (y0 : Bool), v = .bool y0 ∧ K y0 w'))

theorem sim_preludelaw06_sameInts {a_0 : Slc} {b_1 : Slc} {w : World} {K : Bool → World → Prop} (h : sh_preludelaw06_sameInts a_0 b_1 w K) : c_preludelaw06_sameInts a_0 b_1 w K := by
  have e : sh_preludelaw06_sameInts a_0 b_1 w K = shF Tryz.prog 40 ⟨[(6, .of [0, 1, 2, 3, 4, 5, 6, 7, 8])], [(4, [(5, (.int .i64))], [0, 1])], []⟩ [.slice a_0.a a_0.l a_0.c, .slice b_1.a b_1.l b_1.c] w (fun v w' => decV .b v fun y0 => K y0 w') := by kernel_rfl
  exact Calls.mono (calls_of _ e h) (onRet_mono (fun _ _ h => decV_spec h))

-- 41 prelude/preludelaw06.sameKeys; callees []
def sh_preludelaw06_sameKeys (a_0 : Slc) (b_1 : Slc) (w : World) (K : Bool → World → Prop) : Prop :=
  iteB (((a_0.l : Int) : Int) != (b_1.l : Int))
  (K false w)
  (loopP (σ := Int × Unit) (fun st2 next1 w3 => (fun (i_4 : Int) => iteB (decide ((i_4 : Int) < (a_0.l : Int)))
  (idxP a_0.a a_0.l i_4 2 fun a5 => ldI .i64 a5 w3.drew fun n6 => ldI .i64 (a5.add 1) w3.drew fun n7 => idxP b_1.a b_1.l i_4 2 fun a8 => ldI .i64 a8 w3.drew fun n9 => ldI .i64 (a8.add 1) w3.drew fun n10 => (∃ (r11 : Bool), ∃ w12, (do eqGuard .neq 87 (.tmp 20) (.tmp 24) (.agg #[.int .i64 n6, .int .i64 n7]) (.agg #[.int .i64 n9, .int .i64 n10]); binOp .neq 87 (.agg #[.int .i64 n6, .int .i64 n7]) (.agg #[.int .i64 n9, .int .i64 n10])).run Tryz.prog w3.drew = .ok (.bool r11) w12 ∧ (iteB r11
  (K false w12)
  (next1 ((IntKind.i64.wrap (i_4 + 1)), ()) w12))))
  (K true w3)) st2.1) (0, ()) w)

def c_preludelaw06_sameKeys (a_0 : Slc) (b_1 : Slc) (w : World) (K : Bool → World → Prop) : Prop := Calls Tryz.prog 41 #[.slice a_0.a a_0.l a_0.c, .slice b_1.a b_1.l b_1.c] w (onRet (fun v w' => ∃ (y0 : Bool), v = .bool y0 ∧ K y0 w'))

theorem sim_preludelaw06_sameKeys {a_0 : Slc} {b_1 : Slc} {w : World} {K : Bool → World → Prop} (h : sh_preludelaw06_sameKeys a_0 b_1 w K) : c_preludelaw06_sameKeys a_0 b_1 w K := by
  have e : sh_preludelaw06_sameKeys a_0 b_1 w K = shF Tryz.prog 41 ⟨[(6, .of [0, 1, 2, 3, 4, 5, 6, 7, 8])], [(4, [(5, (.int .i64))], [0, 1])], []⟩ [.slice a_0.a a_0.l a_0.c, .slice b_1.a b_1.l b_1.c] w (fun v w' => decV .b v fun y0 => K y0 w') := by kernel_rfl
  exact Calls.mono (calls_of _ e h) (onRet_mono (fun _ _ h => decV_spec h))

-- 18 prelude/preludelaw06.sameBatch; callees ['preludelaw06_sameInts', 'preludelaw06_sameKeys']
def sh_preludelaw06_sameBatch (c_preludelaw06_sameInts : Slc → Slc → World → (Bool → World → Prop) → Prop) (c_preludelaw06_sameKeys : Slc → Slc → World → (Bool → World → Prop) → Prop) (a_0 : Slc) (b_1 : Slc) (w : World) (K : Bool → World → Prop) : Prop :=
  iteB (((a_0.l : Int) : Int) != (b_1.l : Int))
  (K false w)
  (loopP (σ := Int × Unit) (fun st2 next1 w3 => (fun (i_4 : Int) => iteB (decide ((i_4 : Int) < (a_0.l : Int)))
  (idxP a_0.a a_0.l i_4 4 fun a5 => ldI .i64 a5 w3 fun n6 => ldS (a5.add 1) w3 fun s7 => ldS (a5.add 2) w3 fun s8 => ldS (a5.add 3) w3 fun s9 => newP #[.int .i64 0, .slice none 0 0, .slice none 0 0, .slice none 0 0] 46 w3 fun a10 w11 => stP a10 (.int .i64 n6) w11 fun w12 => stP (a10.add 1) (.slice s7.a s7.l s7.c) w12 fun w13 => stP (a10.add 2) (.slice s8.a s8.l s8.c) w13 fun w14 => stP (a10.add 3) (.slice s9.a s9.l s9.c) w14 fun w15 => idxP b_1.a b_1.l i_4 4 fun a16 => ldI .i64 a16 w15 fun n17 => ldS (a16.add 1) w15 fun s18 => ldS (a16.add 2) w15 fun s19 => ldS (a16.add 3) w15 fun s20 => newP #[.int .i64 0, .slice none 0 0, .slice none 0 0, .slice none 0 0] 46 w15 fun a21 w22 => stP a21 (.int .i64 n17) w22 fun w23 => stP (a21.add 1) (.slice s18.a s18.l s18.c) w23 fun w24 => stP (a21.add 2) (.slice s19.a s19.l s19.c) w24 fun w25 => stP (a21.add 3) (.slice s20.a s20.l s20.c) w25 fun w26 => ldI .i64 a10 w26 fun n27 => ldI .i64 a21 w26 fun n28 => iteB ((n27 : Int) != n28)
  (K false w26)
  (ldS (a10.add 1) w26 fun s29 => ldS (a21.add 1) w26 fun s30 => c_preludelaw06_sameInts s29 s30 w26 fun r31 w32 => iteB (!r31)
  (K false w32)
  (ldS (a10.add 2) w32 fun s33 => ldS (a21.add 2) w32 fun s34 => c_preludelaw06_sameKeys s33 s34 w32 fun r35 w36 => iteB (!r35)
  (K false w36)
  (ldS (a10.add 3) w36 fun s37 => ldS (a21.add 3) w36 fun s38 => c_preludelaw06_sameKeys s37 s38 w36 fun r39 w40 => iteB (!r39)
  (K false w40)
  (next1 ((IntKind.i64.wrap (i_4 + 1)), ()) w40)))))
  (K true w3)) st2.1) (0, ()) w)

def c_preludelaw06_sameBatch (a_0 : Slc) (b_1 : Slc) (w : World) (K : Bool → World → Prop) : Prop := Calls Tryz.prog 18 #[.slice a_0.a a_0.l a_0.c, .slice b_1.a b_1.l b_1.c] w (onRet (fun v w' => ∃ (y0 : Bool), v = .bool y0 ∧ K y0 w'))

theorem sim_preludelaw06_sameBatch {a_0 : Slc} {b_1 : Slc} {w : World} {K : Bool → World → Prop} (h : sh_preludelaw06_sameBatch c_preludelaw06_sameInts c_preludelaw06_sameKeys a_0 b_1 w K) : c_preludelaw06_sameBatch a_0 b_1 w K := by
  have e : sh_preludelaw06_sameBatch c_preludelaw06_sameInts c_preludelaw06_sameKeys a_0 b_1 w K = shF Tryz.prog 18 ⟨[], [(4, [(5, (.int .i64))], [0, 1])], []⟩ [.slice a_0.a a_0.l a_0.c, .slice b_1.a b_1.l b_1.c] w (fun v w' => decV .b v fun y0 => K y0 w') := by kernel_rfl
  exact Calls.mono (calls_of _ e h) (onRet_mono (fun _ _ h => decV_spec h))

-- 5 prelude/preludelaw06.works; callees ['preludelaw06_plain', 'batch_Encode', 'batch_Accept', 'preludelaw06_num', 'preludelaw06_sameBytes', 'preludelaw06_sameBatch']
def sh_preludelaw06_works (c_preludelaw06_plain : World → (Slc → Slc → Slc → World → Prop) → Prop) (c_batch_Encode : Slc → World → (Slc → Int → World → Prop) → Prop) (c_batch_Accept : Slc → Slc → World → (Slc → Value → World → Prop) → Prop) (c_preludelaw06_num : Int → World → (Int → World → Prop) → Prop) (c_preludelaw06_sameBytes : Slc → Slc → World → (Bool → World → Prop) → Prop) (c_preludelaw06_sameBatch : Slc → Slc → World → (Bool → World → Prop) → Prop) (w : World) (K : Bool → World → Prop) : Prop :=
  c_preludelaw06_plain  w fun r1 r2 r3 w4 => c_batch_Encode r2 w4 fun r5 r6 w7 => c_batch_Accept r1 r3 w7 fun r8 r9 w10 => c_preludelaw06_num r6 w10 fun r11 w12 => iteB ((r11 : Int) == 0)
  (c_preludelaw06_sameBytes r5 r3 w12 fun r13 w14 => iteB r13
  (nilI r9 fun b15 => iteB b15
  (c_preludelaw06_sameBatch r8 r2 w14 fun r16 w17 => K r16 w17)
  (K false w14))
  (K false w14))
  (K false w12)

def c_preludelaw06_works (w : World) (K : Bool → World → Prop) : Prop := Calls Tryz.prog 5 #[] w (onRet (fun v w' => ∃ (y0 : Bool), v = .bool y0 ∧ K y0 w'))

theorem sim_preludelaw06_works {w : World} {K : Bool → World → Prop} (h : sh_preludelaw06_works c_preludelaw06_plain c_batch_Encode c_batch_Accept c_preludelaw06_num c_preludelaw06_sameBytes c_preludelaw06_sameBatch w K) : c_preludelaw06_works  w K := by
  have e : sh_preludelaw06_works c_preludelaw06_plain c_batch_Encode c_batch_Accept c_preludelaw06_num c_preludelaw06_sameBytes c_preludelaw06_sameBatch w K = shF Tryz.prog 5 ⟨[], [], []⟩ [] w (fun v w' => decV .b v fun y0 => K y0 w') := by kernel_rfl
  exact Calls.mono (calls_of _ e h) (onRet_mono (fun _ _ h => decV_spec h))

-- 19 prelude/lang.isName; callees []
def sh_lang_isName (s_0 : ByteArray) (w : World) (K : Bool → World → Prop) : Prop :=
  iteB ((s_0).toList == (ByteArray.mk #[]).toList)
  (K false w)
  (iteB (decide (((s_0.size : Int) : Int) > 31))
  (K false w)
  (loopP (σ := Int × Unit) (fun st2 next1 w3 => (fun (i_4 : Int) => iteB (decide ((i_4 : Int) < (s_0.size : Int)))
  (chP s_0 i_4 fun b5 => iteB (decide ((b5 : Int) ≥ 97))
  (iteB (decide ((b5 : Int) ≤ 122))
  (next1 ((IntKind.i64.wrap (i_4 + 1)), ()) w3)
  (iteB (decide ((b5 : Int) ≥ 65))
  (iteB (!(decide ((b5 : Int) ≤ 90)))
  (iteB ((i_4 : Int) == 0)
  (K false w3)
  (iteB ((b5 : Int) != 95)
  (iteB (decide ((b5 : Int) < 48))
  (K false w3)
  (iteB (decide ((b5 : Int) > 57))
  (K false w3)
  (next1 ((IntKind.i64.wrap (i_4 + 1)), ()) w3)))
  (next1 ((IntKind.i64.wrap (i_4 + 1)), ()) w3)))
  (next1 ((IntKind.i64.wrap (i_4 + 1)), ()) w3))
  (iteB ((i_4 : Int) == 0)
  (K false w3)
  (iteB ((b5 : Int) != 95)
  (iteB (decide ((b5 : Int) < 48))
  (K false w3)
  (iteB (decide ((b5 : Int) > 57))
  (K false w3)
  (next1 ((IntKind.i64.wrap (i_4 + 1)), ()) w3)))
  (next1 ((IntKind.i64.wrap (i_4 + 1)), ()) w3)))))
  (iteB (decide ((b5 : Int) ≥ 65))
  (iteB (!(decide ((b5 : Int) ≤ 90)))
  (iteB ((i_4 : Int) == 0)
  (K false w3)
  (iteB ((b5 : Int) != 95)
  (iteB (decide ((b5 : Int) < 48))
  (K false w3)
  (iteB (decide ((b5 : Int) > 57))
  (K false w3)
  (next1 ((IntKind.i64.wrap (i_4 + 1)), ()) w3)))
  (next1 ((IntKind.i64.wrap (i_4 + 1)), ()) w3)))
  (next1 ((IntKind.i64.wrap (i_4 + 1)), ()) w3))
  (iteB ((i_4 : Int) == 0)
  (K false w3)
  (iteB ((b5 : Int) != 95)
  (iteB (decide ((b5 : Int) < 48))
  (K false w3)
  (iteB (decide ((b5 : Int) > 57))
  (K false w3)
  (next1 ((IntKind.i64.wrap (i_4 + 1)), ()) w3)))
  (next1 ((IntKind.i64.wrap (i_4 + 1)), ()) w3)))))
  (K true w3)) st2.1) (0, ()) w))

def c_lang_isName (s_0 : ByteArray) (w : World) (K : Bool → World → Prop) : Prop := Calls Tryz.prog 19 #[.string s_0] w (onRet (fun v w' => ∃ (y0 : Bool), v = .bool y0 ∧ K y0 w'))

theorem sim_lang_isName {s_0 : ByteArray} {w : World} {K : Bool → World → Prop} (h : sh_lang_isName s_0 w K) : c_lang_isName s_0 w K := by
  have e : sh_lang_isName s_0 w K = shF Tryz.prog 19 ⟨[], [(4, [(3, (.int .i64))], [0])], []⟩ [.string s_0] w (fun v w' => decV .b v fun y0 => K y0 w') := by kernel_rfl
  exact Calls.mono (calls_of _ e h) (onRet_mono (fun _ _ h => decV_spec h))

-- 66 prelude/lang.within; callees []
def sh_lang_within (n_0 : Int) (most_1 : Int) (w : World) (K : Bool → World → Prop) : Prop :=
  iteB (decide ((n_0 : Int) ≥ 0))
  (K (decide ((n_0 : Int) ≤ most_1)) w)
  (K false w)

def c_lang_within (n_0 : Int) (most_1 : Int) (w : World) (K : Bool → World → Prop) : Prop := Calls Tryz.prog 66 #[.int .i64 n_0, .int .i64 most_1] w (onRet (fun v w' => ∃ (y0 : Bool), v = .bool y0 ∧ K y0 w'))

theorem sim_lang_within {n_0 : Int} {most_1 : Int} {w : World} {K : Bool → World → Prop} (h : sh_lang_within n_0 most_1 w K) : c_lang_within n_0 most_1 w K := by
  have e : sh_lang_within n_0 most_1 w K = shF Tryz.prog 66 ⟨[], [], []⟩ [.int .i64 n_0, .int .i64 most_1] w (fun v w' => decV .b v fun y0 => K y0 w') := by kernel_rfl
  exact Calls.mono (calls_of _ e h) (onRet_mono (fun _ _ h => decV_spec h))

-- 65 prelude/lang.sizes; callees ['lang_within']
def sh_lang_sizes (c_lang_within : Int → Int → World → (Bool → World → Prop) → Prop) (p_0_0 : Int) (p_0_1 : Int) (p_0_2 : Int) (p_0_3 : Int) (p_0_4 : Slc) (w : World) (K : Int → World → Prop) : Prop :=
  newP #[.int .i64 p_0_0, .int .i64 p_0_1, .int .i64 p_0_2, .int .i64 p_0_3, .slice p_0_4.a p_0_4.l p_0_4.c] 50 w fun a1 w2 => ldI .i64 a1 w2 fun n3 => c_lang_within n3 16 w2 fun r4 w5 => iteB r4
  (ldI .i64 (a1.add 1) w5 fun n6 => c_lang_within n6 16 w5 fun r7 w8 => iteB r7
  (ldI .i64 (a1.add 2) w8 fun n9 => c_lang_within n9 16 w8 fun r10 w11 => iteB r10
  (ldI .i64 (a1.add 3) w11 fun n12 => c_lang_within n12 16 w11 fun r13 w14 => iteB (!r13)
  (K 30 w14)
  (ldS (a1.add 4) w14 fun s15 => iteB (decide (((s15.l : Int) : Int) > 256))
  (K 30 w14)
  (K 0 w14)))
  (K 30 w11))
  (K 30 w8))
  (K 30 w5)

def c_lang_sizes (p_0_0 : Int) (p_0_1 : Int) (p_0_2 : Int) (p_0_3 : Int) (p_0_4 : Slc) (w : World) (K : Int → World → Prop) : Prop := Calls Tryz.prog 65 #[.agg #[.int .i64 p_0_0, .int .i64 p_0_1, .int .i64 p_0_2, .int .i64 p_0_3, .slice p_0_4.a p_0_4.l p_0_4.c]] w (onRet (fun v w' => ∃ (y0 : Int), v = .int .i64 y0 ∧ K y0 w'))

theorem sim_lang_sizes {p_0_0 : Int} {p_0_1 : Int} {p_0_2 : Int} {p_0_3 : Int} {p_0_4 : Slc} {w : World} {K : Int → World → Prop} (h : sh_lang_sizes c_lang_within p_0_0 p_0_1 p_0_2 p_0_3 p_0_4 w K) : c_lang_sizes p_0_0 p_0_1 p_0_2 p_0_3 p_0_4 w K := by
  have e : sh_lang_sizes c_lang_within p_0_0 p_0_1 p_0_2 p_0_3 p_0_4 w K = shF Tryz.prog 65 ⟨[], [], []⟩ [.agg #[.int .i64 p_0_0, .int .i64 p_0_1, .int .i64 p_0_2, .int .i64 p_0_3, .slice p_0_4.a p_0_4.l p_0_4.c]] w (fun v w' => decV (.int .i64) v fun y0 => K y0 w') := by kernel_rfl
  exact Calls.mono (calls_of _ e h) (onRet_mono (fun _ _ h => decV_spec h))

-- 67 prelude/lang.argument; callees []
def sh_lang_argument (p_0_0 : Int) (p_0_1 : Int) (p_0_2 : Int) (p_0_3 : Int) (p_0_4 : Slc) (at_1 : Int) (w : World) (K : Int → World → Prop) : Prop :=
  newP #[.int .i64 p_0_0, .int .i64 p_0_1, .int .i64 p_0_2, .int .i64 p_0_3, .slice p_0_4.a p_0_4.l p_0_4.c] 50 w fun a1 w2 => ldS (a1.add 4) w2 fun s3 => idxP s3.a s3.l at_1 2 fun a4 => ldI .i64 a4 w2 fun n5 => ldI .i64 (a4.add 1) w2 fun n6 => newP #[.int .i64 0, .int .i64 0] 102 w2 fun a7 w8 => stP a7 (.int .i64 n5) w8 fun w9 => stP (a7.add 1) (.int .i64 n6) w9 fun w10 => ldI .i64 a7 w10 fun n11 => iteB ((n11 : Int) == 1)
  (K 0 w10)
  (iteB ((n11 : Int) == 30)
  (ldI .i64 (a7.add 1) w10 fun n12 => iteB (decide ((n12 : Int) ≤ at_1))
  (K 33 w10)
  (ldI .i64 (a7.add 1) w10 fun n13 => ldS (a1.add 4) w10 fun s14 => iteB (decide ((n13 : Int) > (s14.l : Int)))
  (K 33 w10)
  (K 0 w10)))
  (iteB ((n11 : Int) == 31)
  (ldI .i64 (a7.add 1) w10 fun n15 => iteB (decide ((n15 : Int) ≤ at_1))
  (K 33 w10)
  (ldI .i64 (a7.add 1) w10 fun n16 => ldS (a1.add 4) w10 fun s17 => iteB (decide ((n16 : Int) > (s17.l : Int)))
  (K 33 w10)
  (K 0 w10)))
  (iteB ((n11 : Int) == 4)
  (ldI .i64 (a1.add 3) w10 fun n18 => ldI .i64 (a7.add 1) w10 fun n19 => iteB (decide ((n19 : Int) < 0))
  (K 32 w10)
  (ldI .i64 (a7.add 1) w10 fun n20 => iteB (decide ((n20 : Int) > (IntKind.i64.wrap (n18 - 1))))
  (K 32 w10)
  (K 0 w10)))
  (iteB ((n11 : Int) == 5)
  (ldI .i64 (a1.add 3) w10 fun n21 => ldI .i64 (a7.add 1) w10 fun n22 => iteB (decide ((n22 : Int) < 0))
  (K 32 w10)
  (ldI .i64 (a7.add 1) w10 fun n23 => iteB (decide ((n23 : Int) > (IntKind.i64.wrap (n21 - 1))))
  (K 32 w10)
  (K 0 w10)))
  (iteB ((n11 : Int) == 6)
  (ldI .i64 a1 w10 fun n24 => ldI .i64 (a7.add 1) w10 fun n25 => iteB (decide ((n25 : Int) < 0))
  (K 32 w10)
  (ldI .i64 (a7.add 1) w10 fun n26 => iteB (decide ((n26 : Int) > (IntKind.i64.wrap (n24 - 1))))
  (K 32 w10)
  (K 0 w10)))
  (iteB ((n11 : Int) == 7)
  (ldI .i64 (a1.add 1) w10 fun n27 => ldI .i64 (a7.add 1) w10 fun n28 => iteB (decide ((n28 : Int) < 0))
  (K 32 w10)
  (ldI .i64 (a7.add 1) w10 fun n29 => iteB (decide ((n29 : Int) > (IntKind.i64.wrap (n27 - 1))))
  (K 32 w10)
  (K 0 w10)))
  (iteB ((n11 : Int) == 8)
  (ldI .i64 (a1.add 1) w10 fun n30 => ldI .i64 (a7.add 1) w10 fun n31 => iteB (decide ((n31 : Int) < 0))
  (K 32 w10)
  (ldI .i64 (a7.add 1) w10 fun n32 => iteB (decide ((n32 : Int) > (IntKind.i64.wrap (n30 - 1))))
  (K 32 w10)
  (K 0 w10)))
  (iteB ((n11 : Int) == 32)
  (ldI .i64 (a1.add 2) w10 fun n33 => ldI .i64 (a7.add 1) w10 fun n34 => iteB (decide ((n34 : Int) < 0))
  (K 32 w10)
  (ldI .i64 (a7.add 1) w10 fun n35 => iteB (decide ((n35 : Int) > (IntKind.i64.wrap (n33 - 1))))
  (K 32 w10)
  (K 0 w10)))
  (iteB ((n11 : Int) == 33)
  (ldI .i64 (a1.add 2) w10 fun n36 => ldI .i64 (a7.add 1) w10 fun n37 => iteB (decide ((n37 : Int) < 0))
  (K 32 w10)
  (ldI .i64 (a7.add 1) w10 fun n38 => iteB (decide ((n38 : Int) > (IntKind.i64.wrap (n36 - 1))))
  (K 32 w10)
  (K 0 w10)))
  (ldI .i64 (a7.add 1) w10 fun n39 => iteB (decide ((n39 : Int) < 0))
  (K 32 w10)
  (ldI .i64 (a7.add 1) w10 fun n40 => iteB (decide ((n40 : Int) > 0))
  (K 32 w10)
  (K 0 w10))))))))))))

def c_lang_argument (p_0_0 : Int) (p_0_1 : Int) (p_0_2 : Int) (p_0_3 : Int) (p_0_4 : Slc) (at_1 : Int) (w : World) (K : Int → World → Prop) : Prop := Calls Tryz.prog 67 #[.agg #[.int .i64 p_0_0, .int .i64 p_0_1, .int .i64 p_0_2, .int .i64 p_0_3, .slice p_0_4.a p_0_4.l p_0_4.c], .int .i64 at_1] w (onRet (fun v w' => ∃ (y0 : Int), v = .int .i64 y0 ∧ K y0 w'))

theorem sim_lang_argument {p_0_0 : Int} {p_0_1 : Int} {p_0_2 : Int} {p_0_3 : Int} {p_0_4 : Slc} {at_1 : Int} {w : World} {K : Int → World → Prop} (h : sh_lang_argument p_0_0 p_0_1 p_0_2 p_0_3 p_0_4 at_1 w K) : c_lang_argument p_0_0 p_0_1 p_0_2 p_0_3 p_0_4 at_1 w K := by
  have e : sh_lang_argument p_0_0 p_0_1 p_0_2 p_0_3 p_0_4 at_1 w K = shF Tryz.prog 67 ⟨[], [], []⟩ [.agg #[.int .i64 p_0_0, .int .i64 p_0_1, .int .i64 p_0_2, .int .i64 p_0_3, .slice p_0_4.a p_0_4.l p_0_4.c], .int .i64 at_1] w (fun v w' => decV (.int .i64) v fun y0 => K y0 w') := by kernel_rfl
  exact Calls.mono (calls_of _ e h) (onRet_mono (fun _ _ h => decV_spec h))

-- 68 prelude/lang.moves; callees []
def sh_lang_moves (op_0 : Int) (w : World) (K : Int → Int → World → Prop) : Prop :=
  iteB ((op_0 : Int) == 34)
  (K (IntKind.i64.wrap ((IntKind.i64.wrap (0 + 1)) + 1)) 0 w)
  (iteB ((op_0 : Int) == 2)
  (K (IntKind.i64.wrap (0 + 1)) 0 w)
  (iteB ((op_0 : Int) == 5)
  (K (IntKind.i64.wrap (0 + 1)) 0 w)
  (iteB ((op_0 : Int) == 31)
  (K (IntKind.i64.wrap (0 + 1)) 0 w)
  (iteB ((op_0 : Int) == 32)
  (K (IntKind.i64.wrap (0 + 1)) 0 w)
  (iteB ((op_0 : Int) == 35)
  (K (IntKind.i64.wrap (0 + 1)) 0 w)
  (iteB ((op_0 : Int) == 36)
  (K (IntKind.i64.wrap (0 + 1)) 0 w)
  (iteB ((op_0 : Int) == 3)
  (K (IntKind.i64.wrap (0 + 1)) (IntKind.i64.wrap ((IntKind.i64.wrap (0 + 1)) + 1)) w)
  (iteB ((op_0 : Int) == 9)
  (K (IntKind.i64.wrap (0 + 1)) (IntKind.i64.wrap (0 + 1)) w)
  (iteB ((op_0 : Int) == 20)
  (K (IntKind.i64.wrap (0 + 1)) (IntKind.i64.wrap (0 + 1)) w)
  (iteB ((op_0 : Int) == 21)
  (K (IntKind.i64.wrap (0 + 1)) (IntKind.i64.wrap (0 + 1)) w)
  (iteB ((op_0 : Int) == 1)
  (K 0 (IntKind.i64.wrap (0 + 1)) w)
  (iteB ((op_0 : Int) == 4)
  (K 0 (IntKind.i64.wrap (0 + 1)) w)
  (iteB ((op_0 : Int) == 6)
  (K 0 (IntKind.i64.wrap (0 + 1)) w)
  (iteB ((op_0 : Int) == 7)
  (K 0 (IntKind.i64.wrap (0 + 1)) w)
  (iteB ((op_0 : Int) == 8)
  (K 0 (IntKind.i64.wrap (0 + 1)) w)
  (iteB ((op_0 : Int) == 0)
  (K 0 0 w)
  (iteB ((op_0 : Int) == 30)
  (K 0 0 w)
  (iteB ((op_0 : Int) == 33)
  (K 0 0 w)
  (K 2 1 w)))))))))))))))))))

def c_lang_moves (op_0 : Int) (w : World) (K : Int → Int → World → Prop) : Prop := Calls Tryz.prog 68 #[.int .i64 op_0] w (onRet (fun v w' => ∃ (y0 : Int), ∃ (y1 : Int), v = .tuple #[.int .i64 y0, .int .i64 y1] ∧ K y0 y1 w'))

theorem sim_lang_moves {op_0 : Int} {w : World} {K : Int → Int → World → Prop} (h : sh_lang_moves op_0 w K) : c_lang_moves op_0 w K := by
  have e : sh_lang_moves op_0 w K = shF Tryz.prog 68 ⟨[], [], []⟩ [.int .i64 op_0] w (fun v w' => decT [(false, [(.int .i64)]), (false, [(.int .i64)])] v fun s => (fun (y0 : Int) (y1 : Int) => K y0 y1 w') s.1 s.2.1) := by kernel_rfl
  exact Calls.mono (calls_of _ e h) (onRet_mono (fun _ _ h => by obtain ⟨s, h1, h2⟩ := decT_spec h; exact ⟨s.1, s.2.1, h1, h2⟩))

-- 39 prelude/lang.ways; callees []
def sh_lang_ways (in_0_0 : Int) (in_0_1 : Int) (at_1 : Int) (w : World) (K : Slc → World → Prop) : Prop :=
  newP #[.int .i64 in_0_0, .int .i64 in_0_1] 102 w fun a1 w2 => ldI .i64 a1 w2 fun n3 => iteB ((n3 : Int) == 0)
  (K ⟨none, 0, 0⟩ w2)
  (iteB ((n3 : Int) == 36)
  (K ⟨none, 0, 0⟩ w2)
  (iteB ((n3 : Int) == 30)
  (ldI .i64 (a1.add 1) w2 fun n4 => newP #[.int .i64 n4] 3 w2 fun a5 w6 => K ⟨(some a5), 1, 1⟩ w6)
  (iteB ((n3 : Int) == 31)
  (ldI .i64 (a1.add 1) w2 fun n7 => newP #[.int .i64 n7, .int .i64 (IntKind.i64.wrap (at_1 + 1))] 3 w2 fun a8 w9 => K ⟨(some a8), 2, 2⟩ w9)
  (newP #[.int .i64 (IntKind.i64.wrap (at_1 + 1))] 3 w2 fun a10 w11 => K ⟨(some a10), 1, 1⟩ w11))))

def c_lang_ways (in_0_0 : Int) (in_0_1 : Int) (at_1 : Int) (w : World) (K : Slc → World → Prop) : Prop := Calls Tryz.prog 39 #[.agg #[.int .i64 in_0_0, .int .i64 in_0_1], .int .i64 at_1] w (onRet (fun v w' => ∃ (y0 : Slc), v = .slice y0.a y0.l y0.c ∧ K y0 w'))

theorem sim_lang_ways {in_0_0 : Int} {in_0_1 : Int} {at_1 : Int} {w : World} {K : Slc → World → Prop} (h : sh_lang_ways in_0_0 in_0_1 at_1 w K) : c_lang_ways in_0_0 in_0_1 at_1 w K := by
  have e : sh_lang_ways in_0_0 in_0_1 at_1 w K = shF Tryz.prog 39 ⟨[], [], []⟩ [.agg #[.int .i64 in_0_0, .int .i64 in_0_1], .int .i64 at_1] w (fun v w' => decV .sl v fun y0 => K y0 w') := by kernel_rfl
  exact Calls.mono (calls_of _ e h) (onRet_mono (fun _ _ h => decV_spec h))

-- 42 prelude/lang.look; callees ['lang_sizes', 'lang_within', 'lang_argument', 'lang_moves', 'lang_ways']
def sh_lang_look (c_lang_sizes : Int → Int → Int → Int → Slc → World → (Int → World → Prop) → Prop) (c_lang_within : Int → Int → World → (Bool → World → Prop) → Prop) (c_lang_argument : Int → Int → Int → Int → Slc → Int → World → (Int → World → Prop) → Prop) (c_lang_moves : Int → World → (Int → Int → World → Prop) → Prop) (c_lang_ways : Int → Int → Int → World → (Slc → World → Prop) → Prop) (x_0_0 : Int) (x_0_1 : Int) (x_0_2 : Int) (x_0_3 : Int) (x_0_4 : Slc) (w : World) (K : Slc → Int → World → Prop) : Prop :=
  newP #[.int .i64 x_0_0, .int .i64 x_0_1, .int .i64 x_0_2, .int .i64 x_0_3, .slice x_0_4.a x_0_4.l x_0_4.c] 50 w fun a1 w2 => ldI .i64 a1 w2 fun n3 => ldI .i64 (a1.add 1) w2 fun n4 => ldI .i64 (a1.add 2) w2 fun n5 => ldI .i64 (a1.add 3) w2 fun n6 => ldS (a1.add 4) w2 fun s7 => c_lang_sizes n3 n4 n5 n6 s7 w2 fun r8 w9 => iteB ((r8 : Int) != 0)
  (K ⟨none, 0, 0⟩ r8 w9)
  (ldS (a1.add 4) w9 fun s10 => loopP (σ := Int × Unit) (fun st12 next11 w13 => (fun (x14 : Int) => iteB (decide ((x14 : Int) < (s10.l : Int)))
  (idxP s10.a s10.l x14 2 fun a15 => ldI .i64 a15 w13 fun n16 => ldI .i64 (a15.add 1) w13 fun n17 => newP #[.int .i64 0, .int .i64 0] 102 w13 fun a18 w19 => stP a18 (.int .i64 n16) w19 fun w20 => stP (a18.add 1) (.int .i64 n17) w20 fun w21 => ldI .i64 a18 w21 fun n22 => c_lang_within n22 36 w21 fun r23 w24 => iteB (!r23)
  (K ⟨none, 0, 0⟩ 31 w24)
  (ldI .i64 a1 w24 fun n25 => ldI .i64 (a1.add 1) w24 fun n26 => ldI .i64 (a1.add 2) w24 fun n27 => ldI .i64 (a1.add 3) w24 fun n28 => ldS (a1.add 4) w24 fun s29 => c_lang_argument n25 n26 n27 n28 s29 x14 w24 fun r30 w31 => iteB ((r30 : Int) != 0)
  (K ⟨none, 0, 0⟩ r30 w31)
  (next11 ((IntKind.i64.wrap (x14 + 1)), ()) w31)))
  (ldS (a1.add 4) w13 fun s32 => mkP Tryz.prog 99 (.int .i64 (IntKind.i64.wrap ((s32.l : Int) + 1))) (.int .i64 (IntKind.i64.wrap ((s32.l : Int) + 1))) w13 fun s33 w34 => loopP (σ := Int × Unit) (fun st36 next35 w37 => (fun (x38 : Int) => iteB (decide ((x38 : Int) < (s33.l : Int)))
  (idxP s33.a s33.l x38 1 fun a39 => stP a39 (.int .i64 (-1)) w37 fun w40 => next35 ((IntKind.i64.wrap (x38 + 1)), ()) w40)
  (idxP s33.a s33.l 0 1 fun a41 => stP a41 (.int .i64 0) w37 fun w42 => ldS (a1.add 4) w42 fun s43 => loopP (σ := Bool × Int × Unit) (fun st45 next44 w46 => (fun (x47 : Bool) (x48 : Int) => iteB (decide ((x48 : Int) < (s43.l : Int)))
  (idxP s43.a s43.l x48 2 fun a49 => ldI .i64 a49 w46 fun n50 => ldI .i64 (a49.add 1) w46 fun n51 => newP #[.int .i64 0, .int .i64 0] 102 w46 fun a52 w53 => stP a52 (.int .i64 n50) w53 fun w54 => stP (a52.add 1) (.int .i64 n51) w54 fun w55 => idxP s33.a s33.l x48 1 fun a56 => ldI .i64 a56 w55 fun n57 => iteB (decide ((n57 : Int) < 0))
  (next44 (x47, (IntKind.i64.wrap (x48 + 1)), ()) w55)
  (ldI .i64 a52 w55 fun n58 => c_lang_moves n58 w55 fun r59 r60 w61 => iteB (decide ((n57 : Int) < r59))
  (K ⟨none, 0, 0⟩ 34 w61)
  (iteB (decide (((IntKind.i64.wrap ((IntKind.i64.wrap (n57 - r59)) + r60)) : Int) > 32))
  (K ⟨none, 0, 0⟩ 34 w61)
  (ldI .i64 a52 w61 fun n62 => ldI .i64 (a52.add 1) w61 fun n63 => c_lang_ways n62 n63 x48 w61 fun r64 w65 => loopP (σ := Bool × Int × Unit) (fun st67 next66 w68 => (fun (x69 : Bool) (x70 : Int) => iteB (decide ((x70 : Int) < (r64.l : Int)))
  (idxP r64.a r64.l x70 1 fun a71 => ldI .i64 a71 w68 fun n72 => idxP s33.a s33.l n72 1 fun a73 => ldI .i64 a73 w68 fun n74 => iteB (decide ((n74 : Int) ≥ 0))
  (idxP s33.a s33.l n72 1 fun a75 => ldI .i64 a75 w68 fun n76 => iteB ((n76 : Int) != (IntKind.i64.wrap ((IntKind.i64.wrap (n57 - r59)) + r60)))
  (K ⟨none, 0, 0⟩ 34 w68)
  (idxP s33.a s33.l n72 1 fun a77 => stP a77 (.int .i64 (IntKind.i64.wrap ((IntKind.i64.wrap (n57 - r59)) + r60))) w68 fun w78 => next66 (x69, (IntKind.i64.wrap (x70 + 1)), ()) w78))
  (idxP s33.a s33.l n72 1 fun a79 => stP a79 (.int .i64 (IntKind.i64.wrap ((IntKind.i64.wrap (n57 - r59)) + r60))) w68 fun w80 => next66 (x69, (IntKind.i64.wrap (x70 + 1)), ()) w80))
  (next44 (x69, (IntKind.i64.wrap (x48 + 1)), ()) w68)) st67.1 st67.2.1) (x47, 0, ()) w65))))
  (iteB x47
  (K ⟨none, 0, 0⟩ 34 w46)
  (K s33 0 w46))) st45.1 st45.2.1) (false, 0, ()) w42)) st36.1) (0, ()) w34)) st12.1) (0, ()) w9)

def c_lang_look (x_0_0 : Int) (x_0_1 : Int) (x_0_2 : Int) (x_0_3 : Int) (x_0_4 : Slc) (w : World) (K : Slc → Int → World → Prop) : Prop := Calls Tryz.prog 42 #[.agg #[.int .i64 x_0_0, .int .i64 x_0_1, .int .i64 x_0_2, .int .i64 x_0_3, .slice x_0_4.a x_0_4.l x_0_4.c]] w (onRet (fun v w' => ∃ (y0 : Slc), ∃ (y1 : Int), v = .tuple #[.slice y0.a y0.l y0.c, .int .i64 y1] ∧ K y0 y1 w'))

theorem sim_lang_look {x_0_0 : Int} {x_0_1 : Int} {x_0_2 : Int} {x_0_3 : Int} {x_0_4 : Slc} {w : World} {K : Slc → Int → World → Prop} (h : sh_lang_look c_lang_sizes c_lang_within c_lang_argument c_lang_moves c_lang_ways x_0_0 x_0_1 x_0_2 x_0_3 x_0_4 w K) : c_lang_look x_0_0 x_0_1 x_0_2 x_0_3 x_0_4 w K := by
  have e : sh_lang_look c_lang_sizes c_lang_within c_lang_argument c_lang_moves c_lang_ways x_0_0 x_0_1 x_0_2 x_0_3 x_0_4 w K = shF Tryz.prog 42 ⟨[], [(5, [(26, (.int .i64))], [1, 24, 25]), (15, [(49, (.int .i64))], [1, 8, 48]), (22, [(10, .b), (61, (.int .i64))], [8, 59, 60]), (30, [(10, .b), (93, (.int .i64))], [8, 13, 14, 15, 59, 60, 61, 91, 92])], []⟩ [.agg #[.int .i64 x_0_0, .int .i64 x_0_1, .int .i64 x_0_2, .int .i64 x_0_3, .slice x_0_4.a x_0_4.l x_0_4.c]] w (fun v w' => decT [(false, [.sl]), (false, [(.int .i64)])] v fun s => (fun (y0 : Slc) (y1 : Int) => K y0 y1 w') s.1 s.2.1) := by kernel_rfl
  exact Calls.mono (calls_of _ e h) (onRet_mono (fun _ _ h => by obtain ⟨s, h1, h2⟩ := decT_spec h; exact ⟨s.1, s.2.1, h1, h2⟩))

-- 20 prelude/lang.Verify; callees ['lang_look']
def sh_lang_Verify (c_lang_look : Int → Int → Int → Int → Slc → World → (Slc → Int → World → Prop) → Prop) (p_0_0 : Int) (p_0_1 : Int) (p_0_2 : Int) (p_0_3 : Int) (p_0_4 : Slc) (w : World) (K : Int → World → Prop) : Prop :=
  newP #[.int .i64 p_0_0, .int .i64 p_0_1, .int .i64 p_0_2, .int .i64 p_0_3, .slice p_0_4.a p_0_4.l p_0_4.c] 50 w fun a1 w2 => ldI .i64 a1 w2 fun n3 => ldI .i64 (a1.add 1) w2 fun n4 => ldI .i64 (a1.add 2) w2 fun n5 => ldI .i64 (a1.add 3) w2 fun n6 => ldS (a1.add 4) w2 fun s7 => c_lang_look n3 n4 n5 n6 s7 w2 fun r8 r9 w10 => K r9 w10

def c_lang_Verify (p_0_0 : Int) (p_0_1 : Int) (p_0_2 : Int) (p_0_3 : Int) (p_0_4 : Slc) (w : World) (K : Int → World → Prop) : Prop := Calls Tryz.prog 20 #[.agg #[.int .i64 p_0_0, .int .i64 p_0_1, .int .i64 p_0_2, .int .i64 p_0_3, .slice p_0_4.a p_0_4.l p_0_4.c]] w (onRet (fun v w' => ∃ (y0 : Int), v = .int .i64 y0 ∧ K y0 w'))

theorem sim_lang_Verify {p_0_0 : Int} {p_0_1 : Int} {p_0_2 : Int} {p_0_3 : Int} {p_0_4 : Slc} {w : World} {K : Int → World → Prop} (h : sh_lang_Verify c_lang_look p_0_0 p_0_1 p_0_2 p_0_3 p_0_4 w K) : c_lang_Verify p_0_0 p_0_1 p_0_2 p_0_3 p_0_4 w K := by
  have e : sh_lang_Verify c_lang_look p_0_0 p_0_1 p_0_2 p_0_3 p_0_4 w K = shF Tryz.prog 20 ⟨[], [], []⟩ [.agg #[.int .i64 p_0_0, .int .i64 p_0_1, .int .i64 p_0_2, .int .i64 p_0_3, .slice p_0_4.a p_0_4.l p_0_4.c]] w (fun v w' => decV (.int .i64) v fun y0 => K y0 w') := by kernel_rfl
  exact Calls.mono (calls_of _ e h) (onRet_mono (fun _ _ h => decV_spec h))

-- 6 prelude/lang.Check; callees ['lang_isName', 'lang_Verify']
def sh_lang_Check (c_lang_isName : ByteArray → World → (Bool → World → Prop) → Prop) (c_lang_Verify : Int → Int → Int → Int → Slc → World → (Int → World → Prop) → Prop) (lib_0 : Slc) (w : World) (K : Int → Int → World → Prop) : Prop :=
  iteB (decide (((lib_0.l : Int) : Int) > 64))
  (K 0 36 w)
  ((∃ (r1 : Option Nat), ∃ w2, (Instr.makeMap 65 none).run Tryz.prog w = .ok (.map r1) w2 ∧ (loopP (σ := Int × Unit) (fun st4 next3 w5 => (fun (x6 : Int) => iteB (decide ((x6 : Int) < (lib_0.l : Int)))
  (idxP lib_0.a lib_0.l x6 6 fun a7 => ldStr a7 w5 fun s8 => ldI .i64 (a7.add 1) w5 fun n9 => ldI .i64 (a7.add 2) w5 fun n10 => ldI .i64 (a7.add 3) w5 fun n11 => ldI .i64 (a7.add 4) w5 fun n12 => ldS (a7.add 5) w5 fun s13 => newP #[.string ByteArray.empty, .int .i64 0, .int .i64 0, .int .i64 0, .int .i64 0, .slice none 0 0] 52 w5 fun a14 w15 => stP a14 (.string s8) w15 fun w16 => stP (a14.add 1) (.int .i64 n9) w16 fun w17 => stP (a14.add 2) (.int .i64 n10) w17 fun w18 => stP (a14.add 3) (.int .i64 n11) w18 fun w19 => stP (a14.add 4) (.int .i64 n12) w19 fun w20 => stP (a14.add 5) (.slice s13.a s13.l s13.c) w20 fun w21 => ldStr a14 w21 fun s22 => (∃ (r23 : Int), ∃ (r24 : Bool), ∃ w25, (Instr.lookup 65 (.map r1) (.string s22) true).run Tryz.prog w21 = .ok (.tuple #[.int .i64 r23, .bool r24]) w25 ∧ (iteB r24
  (K x6 35 w25)
  (ldStr a14 w25 fun s26 => c_lang_isName s26 w25 fun r27 w28 => iteB (!r27)
  (K x6 35 w28)
  (ldStr a14 w28 fun s29 => opU Tryz.prog (Instr.mapUpdate 65 (.map r1) (.string s29) (.int .i64 x6)) w28 fun w30 => ldI .i64 (a14.add 1) w30 fun n31 => ldI .i64 ((a14.add 1).add 1) w30 fun n32 => ldI .i64 ((a14.add 1).add 2) w30 fun n33 => ldI .i64 ((a14.add 1).add 3) w30 fun n34 => ldS ((a14.add 1).add 4) w30 fun s35 => c_lang_Verify n31 n32 n33 n34 s35 w30 fun r36 w37 => iteB ((r36 : Int) != 0)
  (K x6 r36 w37)
  (next3 ((IntKind.i64.wrap (x6 + 1)), ()) w37))))))
  (K 0 0 w5)) st4.1) (0, ()) w2)))

def c_lang_Check (lib_0 : Slc) (w : World) (K : Int → Int → World → Prop) : Prop := Calls Tryz.prog 6 #[.slice lib_0.a lib_0.l lib_0.c] w (onRet (fun v w' => ∃ (y0 : Int), ∃ (y1 : Int), v = .tuple #[.int .i64 y0, .int .i64 y1] ∧ K y0 y1 w'))

theorem sim_lang_Check {lib_0 : Slc} {w : World} {K : Int → Int → World → Prop} (h : sh_lang_Check c_lang_isName c_lang_Verify lib_0 w K) : c_lang_Check lib_0 w K := by
  have e : sh_lang_Check c_lang_isName c_lang_Verify lib_0 w K = shF Tryz.prog 6 ⟨[], [(5, [(16, (.int .i64))], [4, 14, 15])], []⟩ [.slice lib_0.a lib_0.l lib_0.c] w (fun v w' => decT [(false, [(.int .i64)]), (false, [(.int .i64)])] v fun s => (fun (y0 : Int) (y1 : Int) => K y0 y1 w') s.1 s.2.1) := by kernel_rfl
  exact Calls.mono (calls_of _ e h) (onRet_mono (fun _ _ h => by obtain ⟨s, h1, h2⟩ := decT_spec h; exact ⟨s.1, s.2.1, h1, h2⟩))

-- 31 prelude/preludelaw06.ints; callees []
def sh_preludelaw06_ints (l_0 : Slc) (w : World) (K : Slc → World → Prop) : Prop :=
  iteB ((l_0.a).isNone)
  (K ⟨none, 0, 0⟩ w)
  (mkP Tryz.prog 43 (.int .i64 (IntKind.i64.wrap ((l_0.l : Int) + 3))) (.int .i64 (IntKind.i64.wrap ((l_0.l : Int) + 3))) w fun s1 w2 => cpP Tryz.prog #[43, 43] 3 [.slice s1.a s1.l s1.c, .slice l_0.a l_0.l l_0.c] w2 fun n4 w3 => loopP (σ := Int × Unit) (fun st6 next5 w7 => (fun (i_8 : Int) => iteB (decide ((i_8 : Int) < (s1.l : Int)))
  (idxP s1.a s1.l i_8 1 fun a9 => stP a9 (.int .i64 (-31)) w7 fun w10 => next5 ((IntKind.i64.wrap (i_8 + 1)), ()) w10)
  (slP s1.a s1.l s1.c none (some (l_0.l : Int)) 1 fun p11 l12 c13 => K ⟨p11, l12, c13⟩ w7)) st6.1) ((l_0.l : Int), ()) w3)

def c_preludelaw06_ints (l_0 : Slc) (w : World) (K : Slc → World → Prop) : Prop := Calls Tryz.prog 31 #[.slice l_0.a l_0.l l_0.c] w (onRet (fun v w' => ∃ (y0 : Slc), v = .slice y0.a y0.l y0.c ∧ K y0 w'))

theorem sim_preludelaw06_ints {l_0 : Slc} {w : World} {K : Slc → World → Prop} (h : sh_preludelaw06_ints l_0 w K) : c_preludelaw06_ints l_0 w K := by
  have e : sh_preludelaw06_ints l_0 w K = shF Tryz.prog 31 ⟨[], [(6, [(4, (.int .i64))], [0, 3])], []⟩ [.slice l_0.a l_0.l l_0.c] w (fun v w' => decV .sl v fun y0 => K y0 w') := by kernel_rfl
  exact Calls.mono (calls_of _ e h) (onRet_mono (fun _ _ h => decV_spec h))

-- 32 prelude/preludelaw06.keyList; callees []
def sh_preludelaw06_keyList (l_0 : Slc) (w : World) (K : Slc → World → Prop) : Prop :=
  iteB ((l_0.a).isNone)
  (K ⟨none, 0, 0⟩ w)
  (mkP Tryz.prog 44 (.int .i64 (IntKind.i64.wrap ((l_0.l : Int) + 3))) (.int .i64 (IntKind.i64.wrap ((l_0.l : Int) + 3))) w fun s1 w2 => cpP Tryz.prog #[44, 44] 3 [.slice s1.a s1.l s1.c, .slice l_0.a l_0.l l_0.c] w2 fun n4 w3 => loopP (σ := Int × Unit) (fun st6 next5 w7 => (fun (i_8 : Int) => iteB (decide ((i_8 : Int) < (s1.l : Int)))
  (idxP s1.a s1.l i_8 2 fun a9 => stP a9 (.int .i64 (-31)) w7 fun w10 => stP (a9.add 1) (.int .i64 0) w10 fun w11 => next5 ((IntKind.i64.wrap (i_8 + 1)), ()) w11)
  (slP s1.a s1.l s1.c none (some (l_0.l : Int)) 2 fun p12 l13 c14 => K ⟨p12, l13, c14⟩ w7)) st6.1) ((l_0.l : Int), ()) w3)

def c_preludelaw06_keyList (l_0 : Slc) (w : World) (K : Slc → World → Prop) : Prop := Calls Tryz.prog 32 #[.slice l_0.a l_0.l l_0.c] w (onRet (fun v w' => ∃ (y0 : Slc), v = .slice y0.a y0.l y0.c ∧ K y0 w'))

theorem sim_preludelaw06_keyList {l_0 : Slc} {w : World} {K : Slc → World → Prop} (h : sh_preludelaw06_keyList l_0 w K) : c_preludelaw06_keyList l_0 w K := by
  have e : sh_preludelaw06_keyList l_0 w K = shF Tryz.prog 32 ⟨[], [(6, [(4, (.int .i64))], [0, 3])], []⟩ [.slice l_0.a l_0.l l_0.c] w (fun v w' => decV .sl v fun y0 => K y0 w') := by kernel_rfl
  exact Calls.mono (calls_of _ e h) (onRet_mono (fun _ _ h => decV_spec h))

-- 10 prelude/preludelaw06.lent; callees ['preludelaw06_ints', 'preludelaw06_keyList']
def sh_preludelaw06_lent (c_preludelaw06_ints : Slc → World → (Slc → World → Prop) → Prop) (c_preludelaw06_keyList : Slc → World → (Slc → World → Prop) → Prop) (b_0 : Slc) (w : World) (K : Slc → World → Prop) : Prop :=
  iteB ((b_0.a).isNone)
  (K ⟨none, 0, 0⟩ w)
  (mkP Tryz.prog 31 (.int .i64 (IntKind.i64.wrap ((b_0.l : Int) + 3))) (.int .i64 (IntKind.i64.wrap ((b_0.l : Int) + 3))) w fun s1 w2 => loopP (σ := Int × Unit) (fun st4 next3 w5 => (fun (i_6 : Int) => iteB (decide ((i_6 : Int) < (s1.l : Int)))
  (idxP s1.a s1.l i_6 4 fun a7 => stP a7 (.int .i64 (-31)) w5 fun w8 => stP (a7.add 1) (.slice none 0 0) w8 fun w9 => stP (a7.add 2) (.slice none 0 0) w9 fun w10 => stP (a7.add 3) (.slice none 0 0) w10 fun w11 => next3 ((IntKind.i64.wrap (i_6 + 1)), ()) w11)
  (loopP (σ := Int × Unit) (fun st13 next12 w14 => (fun (i_15 : Int) => iteB (decide ((i_15 : Int) < (b_0.l : Int)))
  (idxP b_0.a b_0.l i_15 4 fun a16 => ldI .i64 a16 w14.drew fun n17 => idxP b_0.a b_0.l i_15 4 fun a18 => ldS (a18.add 1) w14.drew fun s19 => idxP b_0.a b_0.l i_15 4 fun a20 => ldS (a20.add 2) w14.drew fun s21 => idxP b_0.a b_0.l i_15 4 fun a22 => ldS (a22.add 3) w14.drew fun s23 => c_preludelaw06_ints s19 w14.drew fun r24 w25 => w25.cell? (a22.add 3) = some (.slice s23.a s23.l s23.c) ∧ w25.cell? (a20.add 2) = some (.slice s21.a s21.l s21.c) ∧ w25.cell? a16 = some (.int .i64 n17) ∧ (c_preludelaw06_keyList s21 w25 fun r26 w27 => w27.cell? (a22.add 3) = some (.slice s23.a s23.l s23.c) ∧ w27.cell? a16 = some (.int .i64 n17) ∧ (c_preludelaw06_keyList s23 w27 fun r28 w29 => w29.cell? a16 = some (.int .i64 n17) ∧ (idxP s1.a s1.l i_15 4 fun a30 => stP a30 (.int .i64 n17) w29 fun w31 => stP (a30.add 1) (.slice r24.a r24.l r24.c) w31 fun w32 => stP (a30.add 2) (.slice r26.a r26.l r26.c) w32 fun w33 => stP (a30.add 3) (.slice r28.a r28.l r28.c) w33 fun w34 => next12 ((IntKind.i64.wrap (i_15 + 1)), ()) w34))))
  (slP s1.a s1.l s1.c none (some (b_0.l : Int)) 4 fun p35 l36 c37 => K ⟨p35, l36, c37⟩ w14)) st13.1) (0, ()) w5)) st4.1) (0, ()) w2)

def c_preludelaw06_lent (b_0 : Slc) (w : World) (K : Slc → World → Prop) : Prop := Calls Tryz.prog 10 #[.slice b_0.a b_0.l b_0.c] w (onRet (fun v w' => ∃ (y0 : Slc), v = .slice y0.a y0.l y0.c ∧ K y0 w'))

theorem sim_preludelaw06_lent {b_0 : Slc} {w : World} {K : Slc → World → Prop} (h : sh_preludelaw06_lent c_preludelaw06_ints c_preludelaw06_keyList b_0 w K) : c_preludelaw06_lent b_0 w K := by
  have e : sh_preludelaw06_lent c_preludelaw06_ints c_preludelaw06_keyList b_0 w K = shF Tryz.prog 10 ⟨[(11, .of [0, 1, 2, 3, 4, 5, 6, 7, 8, 9, 10, 11, 13, 14, 15, 16, 17, 19, 20, 21, 22, 23, 12, 18, 24, 25, 26, 27])], [(5, [(4, (.int .i64))], [0, 3]), (9, [(5, (.int .i64))], [0, 3])], []⟩ [.slice b_0.a b_0.l b_0.c] w (fun v w' => decV .sl v fun y0 => K y0 w') := by kernel_rfl
  exact Calls.mono (calls_of _ e h) (onRet_mono (fun _ _ h => decV_spec h))

-- 33 slices.Clone[[]prelude/api.Key,prelude/api.Key]; callees []
def sh_slices_Clone_api_Key_api_Key (s_0 : Slc) (w : World) (K : Slc → World → Prop) : Prop :=
  iteB ((s_0.a).isNone)
  (K ⟨none, 0, 0⟩ w)
  (newP #[] 87 w fun a1 w2 => apP Tryz.prog #[44, 44] 44 [.slice (some a1) 0 0, .slice s_0.a s_0.l s_0.c] w2 fun s4 w3 => K s4 w3)

def c_slices_Clone_api_Key_api_Key (s_0 : Slc) (w : World) (K : Slc → World → Prop) : Prop := Calls Tryz.prog 33 #[.slice s_0.a s_0.l s_0.c] w (onRet (fun v w' => ∃ (y0 : Slc), v = .slice y0.a y0.l y0.c ∧ K y0 w'))

theorem sim_slices_Clone_api_Key_api_Key {s_0 : Slc} {w : World} {K : Slc → World → Prop} (h : sh_slices_Clone_api_Key_api_Key s_0 w K) : c_slices_Clone_api_Key_api_Key s_0 w K := by
  have e : sh_slices_Clone_api_Key_api_Key s_0 w K = shF Tryz.prog 33 ⟨[], [], []⟩ [.slice s_0.a s_0.l s_0.c] w (fun v w' => decV .sl v fun y0 => K y0 w') := by kernel_rfl
  exact Calls.mono (calls_of _ e h) (onRet_mono (fun _ _ h => decV_spec h))

-- 12 prelude/batch.Writes; callees ['slices_Clone_api_Key_api_Key']
def sh_batch_Writes (c_slices_Clone_api_Key_api_Key : Slc → World → (Slc → World → Prop) → Prop) (b_0 : Slc) (w : World) (K : Slc → World → Prop) : Prop :=
  mkP Tryz.prog 41 (.int .i64 0) (.int .i64 (b_0.l : Int)) w fun s1 w2 => loopP (σ := Slc × Int × Unit) (fun st4 next3 w5 => (fun (l_6 : Slc) (x7 : Int) => iteB (decide ((x7 : Int) < (b_0.l : Int)))
  (idxP b_0.a b_0.l x7 4 fun a8 => ldI .i64 a8 w5 fun n9 => ldS (a8.add 1) w5 fun s10 => ldS (a8.add 2) w5 fun s11 => ldS (a8.add 3) w5 fun s12 => newP #[.int .i64 0, .slice none 0 0, .slice none 0 0, .slice none 0 0] 46 w5 fun a13 w14 => stP a13 (.int .i64 n9) w14 fun w15 => stP (a13.add 1) (.slice s10.a s10.l s10.c) w15 fun w16 => stP (a13.add 2) (.slice s11.a s11.l s11.c) w16 fun w17 => stP (a13.add 3) (.slice s12.a s12.l s12.c) w17 fun w18 => ldS (a13.add 3) w18 fun s19 => c_slices_Clone_api_Key_api_Key s19 w18 fun r20 w21 => newP #[.slice r20.a r20.l r20.c] 44 w21 fun a22 w23 => apP Tryz.prog #[41, 41] 41 [.slice l_6.a l_6.l l_6.c, .slice (some a22) 1 1] w23 fun s25 w24 => next3 (s25, (IntKind.i64.wrap (x7 + 1)), ()) w24)
  (K l_6 w5)) st4.1 st4.2.1) (s1, 0, ()) w2

def c_batch_Writes (b_0 : Slc) (w : World) (K : Slc → World → Prop) : Prop := Calls Tryz.prog 12 #[.slice b_0.a b_0.l b_0.c] w (onRet (fun v w' => ∃ (y0 : Slc), v = .slice y0.a y0.l y0.c ∧ K y0 w'))

theorem sim_batch_Writes {b_0 : Slc} {w : World} {K : Slc → World → Prop} (h : sh_batch_Writes c_slices_Clone_api_Key_api_Key b_0 w K) : c_batch_Writes b_0 w K := by
  have e : sh_batch_Writes c_slices_Clone_api_Key_api_Key b_0 w K = shF Tryz.prog 12 ⟨[], [(3, [(3, .sl), (11, (.int .i64))], [9, 10])], []⟩ [.slice b_0.a b_0.l b_0.c] w (fun v w' => decV .sl v fun y0 => K y0 w') := by kernel_rfl
  exact Calls.mono (calls_of _ e h) (onRet_mono (fun _ _ h => decV_spec h))

-- 13 prelude/keys.Rises; callees ['keys_Check', 'keys_Compare']
def sh_keys_Rises (c_keys_Check : Int → Int → World → (Int → World → Prop) → Prop) (c_keys_Compare : Int → Int → Int → Int → World → (Int → World → Prop) → Prop) (l_0 : Slc) (w : World) (K : Bool → World → Prop) : Prop :=
  loopP (σ := Int × Unit) (fun st2 next1 w3 => (fun (x4 : Int) => iteB (decide ((x4 : Int) < (l_0.l : Int)))
  (idxP l_0.a l_0.l x4 2 fun a5 => ldI .i64 a5 w3 fun n6 => ldI .i64 (a5.add 1) w3 fun n7 => newP #[.int .i64 0, .int .i64 0] 87 w3 fun a8 w9 => stP a8 (.int .i64 n6) w9 fun w10 => stP (a8.add 1) (.int .i64 n7) w10 fun w11 => ldI .i64 a8 w11.drew fun n12 => ldI .i64 (a8.add 1) w11.drew fun n13 => c_keys_Check n12 n13 w11.drew fun r14 w15 => iteB ((r14 : Int) != 0)
  (K false w15)
  (iteB (decide ((x4 : Int) > 0))
  (idxP l_0.a l_0.l (IntKind.i64.wrap (x4 - 1)) 2 fun a16 => ldI .i64 a16 w15 fun n17 => ldI .i64 (a16.add 1) w15 fun n18 => ldI .i64 a8 w15 fun n19 => ldI .i64 (a8.add 1) w15 fun n20 => c_keys_Compare n17 n18 n19 n20 w15 fun r21 w22 => iteB (decide ((r21 : Int) ≥ 0))
  (K false w22)
  (next1 ((IntKind.i64.wrap (x4 + 1)), ()) w22))
  (next1 ((IntKind.i64.wrap (x4 + 1)), ()) w15)))
  (K true w3)) st2.1) (0, ()) w

def c_keys_Rises (l_0 : Slc) (w : World) (K : Bool → World → Prop) : Prop := Calls Tryz.prog 13 #[.slice l_0.a l_0.l l_0.c] w (onRet (fun v w' => ∃ (y0 : Bool), v = .bool y0 ∧ K y0 w'))

theorem sim_keys_Rises {l_0 : Slc} {w : World} {K : Bool → World → Prop} (h : sh_keys_Rises c_keys_Check c_keys_Compare l_0 w K) : c_keys_Rises l_0 w K := by
  have e : sh_keys_Rises c_keys_Check c_keys_Compare l_0 w K = shF Tryz.prog 13 ⟨[(4, .of [0, 1, 2, 3, 4, 5, 6, 7, 8, 9, 10, 11, 12, 13, 14, 15, 16])], [(2, [(7, (.int .i64))], [0, 5, 6])], []⟩ [.slice l_0.a l_0.l l_0.c] w (fun v w' => decV .b v fun y0 => K y0 w') := by kernel_rfl
  exact Calls.mono (calls_of _ e h) (onRet_mono (fun _ _ h => decV_spec h))

-- 56 slices.Clone[[]prelude/api.Instr,prelude/api.Instr]; callees []
def sh_slices_Clone_api_Instr_api_Instr (s_0 : Slc) (w : World) (K : Slc → World → Prop) : Prop :=
  iteB ((s_0.a).isNone)
  (K ⟨none, 0, 0⟩ w)
  (newP #[] 102 w fun a1 w2 => apP Tryz.prog #[48, 48] 48 [.slice (some a1) 0 0, .slice s_0.a s_0.l s_0.c] w2 fun s4 w3 => K s4 w3)

def c_slices_Clone_api_Instr_api_Instr (s_0 : Slc) (w : World) (K : Slc → World → Prop) : Prop := Calls Tryz.prog 56 #[.slice s_0.a s_0.l s_0.c] w (onRet (fun v w' => ∃ (y0 : Slc), v = .slice y0.a y0.l y0.c ∧ K y0 w'))

theorem sim_slices_Clone_api_Instr_api_Instr {s_0 : Slc} {w : World} {K : Slc → World → Prop} (h : sh_slices_Clone_api_Instr_api_Instr s_0 w K) : c_slices_Clone_api_Instr_api_Instr s_0 w K := by
  have e : sh_slices_Clone_api_Instr_api_Instr s_0 w K = shF Tryz.prog 56 ⟨[], [], []⟩ [.slice s_0.a s_0.l s_0.c] w (fun v w' => decV .sl v fun y0 => K y0 w') := by kernel_rfl
  exact Calls.mono (calls_of _ e h) (onRet_mono (fun _ _ h => decV_spec h))

-- 57 slices.Clone[[]int64,int64]; callees []
def sh_slices_Clone_int64_int64 (s_0 : Slc) (w : World) (K : Slc → World → Prop) : Prop :=
  iteB ((s_0.a).isNone)
  (K ⟨none, 0, 0⟩ w)
  (newP #[] 2 w fun a1 w2 => apP Tryz.prog #[43, 43] 43 [.slice (some a1) 0 0, .slice s_0.a s_0.l s_0.c] w2 fun s4 w3 => K s4 w3)

def c_slices_Clone_int64_int64 (s_0 : Slc) (w : World) (K : Slc → World → Prop) : Prop := Calls Tryz.prog 57 #[.slice s_0.a s_0.l s_0.c] w (onRet (fun v w' => ∃ (y0 : Slc), v = .slice y0.a y0.l y0.c ∧ K y0 w'))

theorem sim_slices_Clone_int64_int64 {s_0 : Slc} {w : World} {K : Slc → World → Prop} (h : sh_slices_Clone_int64_int64 s_0 w K) : c_slices_Clone_int64_int64 s_0 w K := by
  have e : sh_slices_Clone_int64_int64 s_0 w K = shF Tryz.prog 57 ⟨[], [], []⟩ [.slice s_0.a s_0.l s_0.c] w (fun v w' => decV .sl v fun y0 => K y0 w') := by kernel_rfl
  exact Calls.mono (calls_of _ e h) (onRet_mono (fun _ _ h => decV_spec h))

-- 58 slices.Clone[[]prelude/api.Cell,prelude/api.Cell]; callees []
def sh_slices_Clone_api_Cell_api_Cell (s_0 : Slc) (w : World) (K : Slc → World → Prop) : Prop :=
  iteB ((s_0.a).isNone)
  (K ⟨none, 0, 0⟩ w)
  (newP #[] 25 w fun a1 w2 => apP Tryz.prog #[53, 53] 53 [.slice (some a1) 0 0, .slice s_0.a s_0.l s_0.c] w2 fun s4 w3 => K s4 w3)

def c_slices_Clone_api_Cell_api_Cell (s_0 : Slc) (w : World) (K : Slc → World → Prop) : Prop := Calls Tryz.prog 58 #[.slice s_0.a s_0.l s_0.c] w (onRet (fun v w' => ∃ (y0 : Slc), v = .slice y0.a y0.l y0.c ∧ K y0 w'))

theorem sim_slices_Clone_api_Cell_api_Cell {s_0 : Slc} {w : World} {K : Slc → World → Prop} (h : sh_slices_Clone_api_Cell_api_Cell s_0 w K) : c_slices_Clone_api_Cell_api_Cell s_0 w K := by
  have e : sh_slices_Clone_api_Cell_api_Cell s_0 w K = shF Tryz.prog 58 ⟨[], [], []⟩ [.slice s_0.a s_0.l s_0.c] w (fun v w' => decV .sl v fun y0 => K y0 w') := by kernel_rfl
  exact Calls.mono (calls_of _ e h) (onRet_mono (fun _ _ h => decV_spec h))

-- 75 prelude/vm.plain; callees []
def sh_vm_plain (f_0 : Value) (w : World) (K : Fnv → World → Prop) : Prop :=
  newP f_0.cells 152 w fun a1 w2 => K ⟨.func 106, #[], #[.pointer (some a1)]⟩ w2

def c_vm_plain (f_0 : Value) (w : World) (K : Fnv → World → Prop) : Prop := Calls Tryz.prog 75 #[f_0] w (onRet (fun v w' => ∃ (y0 : Fnv), v = .func y0.f y0.fs y0.cs ∧ K y0 w'))

theorem sim_vm_plain {f_0 : Value} {w : World} {K : Fnv → World → Prop} (h : sh_vm_plain f_0 w K) : c_vm_plain f_0 w K := by
  have e : sh_vm_plain f_0 w K = shF Tryz.prog 75 ⟨[], [], []⟩ [f_0] w (fun v w' => decV .fn v fun y0 => K y0 w') := by kernel_rfl
  exact Calls.mono (calls_of _ e h) (onRet_mono (fun _ _ h => decV_spec h))

-- 79 prelude/vm.divides; callees []
def sh_vm_divides (f_0 : Value) (w : World) (K : Fnv → World → Prop) : Prop :=
  newP f_0.cells 152 w fun a1 w2 => K ⟨.func 107, #[], #[.pointer (some a1)]⟩ w2

def c_vm_divides (f_0 : Value) (w : World) (K : Fnv → World → Prop) : Prop := Calls Tryz.prog 79 #[f_0] w (onRet (fun v w' => ∃ (y0 : Fnv), v = .func y0.f y0.fs y0.cs ∧ K y0 w'))

theorem sim_vm_divides {f_0 : Value} {w : World} {K : Fnv → World → Prop} (h : sh_vm_divides f_0 w K) : c_vm_divides f_0 w K := by
  have e : sh_vm_divides f_0 w K = shF Tryz.prog 79 ⟨[], [], []⟩ [f_0] w (fun v w' => decV .fn v fun y0 => K y0 w') := by kernel_rfl
  exact Calls.mono (calls_of _ e h) (onRet_mono (fun _ _ h => decV_spec h))

-- 85 prelude/vm.shifts; callees []
def sh_vm_shifts (f_0 : Value) (w : World) (K : Fnv → World → Prop) : Prop :=
  newP f_0.cells 152 w fun a1 w2 => K ⟨.func 108, #[], #[.pointer (some a1)]⟩ w2

def c_vm_shifts (f_0 : Value) (w : World) (K : Fnv → World → Prop) : Prop := Calls Tryz.prog 85 #[f_0] w (onRet (fun v w' => ∃ (y0 : Fnv), v = .func y0.f y0.fs y0.cs ∧ K y0 w'))

theorem sim_vm_shifts {f_0 : Value} {w : World} {K : Fnv → World → Prop} (h : sh_vm_shifts f_0 w K) : c_vm_shifts f_0 w K := by
  have e : sh_vm_shifts f_0 w K = shF Tryz.prog 85 ⟨[], [], []⟩ [f_0] w (fun v w' => decV .fn v fun y0 => K y0 w') := by kernel_rfl
  exact Calls.mono (calls_of _ e h) (onRet_mono (fun _ _ h => decV_spec h))

-- 88 prelude/vm.asks; callees []
def sh_vm_asks (f_0 : Value) (w : World) (K : Fnv → World → Prop) : Prop :=
  newP f_0.cells 154 w fun a1 w2 => K ⟨.func 109, #[], #[.pointer (some a1)]⟩ w2

def c_vm_asks (f_0 : Value) (w : World) (K : Fnv → World → Prop) : Prop := Calls Tryz.prog 88 #[f_0] w (onRet (fun v w' => ∃ (y0 : Fnv), v = .func y0.f y0.fs y0.cs ∧ K y0 w'))

theorem sim_vm_asks {f_0 : Value} {w : World} {K : Fnv → World → Prop} (h : sh_vm_asks f_0 w K) : c_vm_asks f_0 w K := by
  have e : sh_vm_asks f_0 w K = shF Tryz.prog 88 ⟨[], [], []⟩ [f_0] w (fun v w' => decV .fn v fun y0 => K y0 w') := by kernel_rfl
  exact Calls.mono (calls_of _ e h) (onRet_mono (fun _ _ h => decV_spec h))

-- 59 prelude/vm.pairs; callees ['vm_plain', 'vm_divides', 'vm_shifts', 'vm_asks']
def sh_vm_pairs (c_vm_plain : Value → World → (Fnv → World → Prop) → Prop) (c_vm_divides : Value → World → (Fnv → World → Prop) → Prop) (c_vm_shifts : Value → World → (Fnv → World → Prop) → Prop) (c_vm_asks : Value → World → (Fnv → World → Prop) → Prop) (w : World) (K : Value → Value → Value → Value → Value → Value → Value → Value → Value → Value → Value → Value → Value → Value → Value → Value → Value → Value → Value → Value → Value → Value → Value → Value → Value → Value → Value → Value → Value → Value → Value → Value → Value → Value → Value → Value → Value → World → Prop) : Prop :=
  newP #[.nilFunc, .nilFunc, .nilFunc, .nilFunc, .nilFunc, .nilFunc, .nilFunc, .nilFunc, .nilFunc, .nilFunc, .nilFunc, .nilFunc, .nilFunc, .nilFunc, .nilFunc, .nilFunc, .nilFunc, .nilFunc, .nilFunc, .nilFunc, .nilFunc, .nilFunc, .nilFunc, .nilFunc, .nilFunc, .nilFunc, .nilFunc, .nilFunc, .nilFunc, .nilFunc, .nilFunc, .nilFunc, .nilFunc, .nilFunc, .nilFunc, .nilFunc, .nilFunc] 130 w fun a1 w2 => c_vm_plain (.func (.func 76) #[] #[]) w2 fun r3 w4 => c_vm_plain (.func (.func 77) #[] #[]) w4 fun r5 w6 => c_vm_plain (.func (.func 78) #[] #[]) w6 fun r7 w8 => c_vm_divides (.func (.func 80) #[] #[]) w8 fun r9 w10 => c_vm_divides (.func (.func 81) #[] #[]) w10 fun r11 w12 => c_vm_plain (.func (.func 82) #[] #[]) w12 fun r13 w14 => c_vm_plain (.func (.func 83) #[] #[]) w14 fun r15 w16 => c_vm_plain (.func (.func 84) #[] #[]) w16 fun r17 w18 => c_vm_shifts (.func (.func 86) #[] #[]) w18 fun r19 w20 => c_vm_shifts (.func (.func 87) #[] #[]) w20 fun r21 w22 => c_vm_asks (.func (.func 89) #[] #[]) w22 fun r23 w24 => c_vm_asks (.func (.func 90) #[] #[]) w24 fun r25 w26 => c_vm_asks (.func (.func 91) #[] #[]) w26 fun r27 w28 => c_vm_asks (.func (.func 92) #[] #[]) w28 fun r29 w30 => c_vm_asks (.func (.func 93) #[] #[]) w30 fun r31 w32 => c_vm_asks (.func (.func 94) #[] #[]) w32 fun r33 w34 => c_vm_plain (.func (.func 95) #[] #[]) w34 fun r35 w36 => c_vm_plain (.func (.func 96) #[] #[]) w36 fun r37 w38 => stP a1 .nilFunc w38 fun w39 => stP (a1.add 1) .nilFunc w39 fun w40 => stP (a1.add 2) .nilFunc w40 fun w41 => stP (a1.add 3) .nilFunc w41 fun w42 => stP (a1.add 4) .nilFunc w42 fun w43 => stP (a1.add 5) .nilFunc w43 fun w44 => stP (a1.add 6) .nilFunc w44 fun w45 => stP (a1.add 7) .nilFunc w45 fun w46 => stP (a1.add 8) .nilFunc w46 fun w47 => stP (a1.add 9) .nilFunc w47 fun w48 => stP (a1.add 10) (.func r3.f r3.fs r3.cs) w48 fun w49 => stP (a1.add 11) (.func r5.f r5.fs r5.cs) w49 fun w50 => stP (a1.add 12) (.func r7.f r7.fs r7.cs) w50 fun w51 => stP (a1.add 13) (.func r9.f r9.fs r9.cs) w51 fun w52 => stP (a1.add 14) (.func r11.f r11.fs r11.cs) w52 fun w53 => stP (a1.add 15) (.func r13.f r13.fs r13.cs) w53 fun w54 => stP (a1.add 16) (.func r15.f r15.fs r15.cs) w54 fun w55 => stP (a1.add 17) (.func r17.f r17.fs r17.cs) w55 fun w56 => stP (a1.add 18) (.func r19.f r19.fs r19.cs) w56 fun w57 => stP (a1.add 19) (.func r21.f r21.fs r21.cs) w57 fun w58 => stP (a1.add 20) .nilFunc w58 fun w59 => stP (a1.add 21) .nilFunc w59 fun w60 => stP (a1.add 22) (.func r23.f r23.fs r23.cs) w60 fun w61 => stP (a1.add 23) (.func r25.f r25.fs r25.cs) w61 fun w62 => stP (a1.add 24) (.func r27.f r27.fs r27.cs) w62 fun w63 => stP (a1.add 25) (.func r29.f r29.fs r29.cs) w63 fun w64 => stP (a1.add 26) (.func r31.f r31.fs r31.cs) w64 fun w65 => stP (a1.add 27) (.func r33.f r33.fs r33.cs) w65 fun w66 => stP (a1.add 28) (.func r35.f r35.fs r35.cs) w66 fun w67 => stP (a1.add 29) (.func r37.f r37.fs r37.cs) w67 fun w68 => stP (a1.add 30) .nilFunc w68 fun w69 => stP (a1.add 31) .nilFunc w69 fun w70 => stP (a1.add 32) .nilFunc w70 fun w71 => stP (a1.add 33) .nilFunc w71 fun w72 => stP (a1.add 34) .nilFunc w72 fun w73 => stP (a1.add 35) .nilFunc w73 fun w74 => stP (a1.add 36) .nilFunc w74 fun w75 => ldV a1 w75 fun v76 => ldV (a1.add 1) w75 fun v77 => ldV (a1.add 2) w75 fun v78 => ldV (a1.add 3) w75 fun v79 => ldV (a1.add 4) w75 fun v80 => ldV (a1.add 5) w75 fun v81 => ldV (a1.add 6) w75 fun v82 => ldV (a1.add 7) w75 fun v83 => ldV (a1.add 8) w75 fun v84 => ldV (a1.add 9) w75 fun v85 => ldV (a1.add 10) w75 fun v86 => ldV (a1.add 11) w75 fun v87 => ldV (a1.add 12) w75 fun v88 => ldV (a1.add 13) w75 fun v89 => ldV (a1.add 14) w75 fun v90 => ldV (a1.add 15) w75 fun v91 => ldV (a1.add 16) w75 fun v92 => ldV (a1.add 17) w75 fun v93 => ldV (a1.add 18) w75 fun v94 => ldV (a1.add 19) w75 fun v95 => ldV (a1.add 20) w75 fun v96 => ldV (a1.add 21) w75 fun v97 => ldV (a1.add 22) w75 fun v98 => ldV (a1.add 23) w75 fun v99 => ldV (a1.add 24) w75 fun v100 => ldV (a1.add 25) w75 fun v101 => ldV (a1.add 26) w75 fun v102 => ldV (a1.add 27) w75 fun v103 => ldV (a1.add 28) w75 fun v104 => ldV (a1.add 29) w75 fun v105 => ldV (a1.add 30) w75 fun v106 => ldV (a1.add 31) w75 fun v107 => ldV (a1.add 32) w75 fun v108 => ldV (a1.add 33) w75 fun v109 => ldV (a1.add 34) w75 fun v110 => ldV (a1.add 35) w75 fun v111 => ldV (a1.add 36) w75 fun v112 => K v76 v77 v78 v79 v80 v81 v82 v83 v84 v85 v86 v87 v88 v89 v90 v91 v92 v93 v94 v95 v96 v97 v98 v99 v100 v101 v102 v103 v104 v105 v106 v107 v108 v109 v110 v111 v112 w75

def c_vm_pairs (w : World) (K : Value → Value → Value → Value → Value → Value → Value → Value → Value → Value → Value → Value → Value → Value → Value → Value → Value → Value → Value → Value → Value → Value → Value → Value → Value → Value → Value → Value → Value → Value → Value → Value → Value → Value → Value → Value → Value → World → Prop) : Prop := Calls Tryz.prog 59 #[] w (onRet (fun v w' => ∃ (y0 : Value), ∃ (y1 : Value), ∃ (y2 : Value), ∃ (y3 : Value), ∃ (y4 : Value), ∃ (y5 : Value), ∃ (y6 : Value), ∃ (y7 : Value), ∃ (y8 : Value), ∃ (y9 : Value), ∃ (y10 : Value), ∃ (y11 : Value), ∃ (y12 : Value), ∃ (y13 : Value), ∃ (y14 : Value), ∃ (y15 : Value), ∃ (y16 : Value), ∃ (y17 : Value), ∃ (y18 : Value), ∃ (y19 : Value), ∃ (y20 : Value), ∃ (y21 : Value), ∃ (y22 : Value), ∃ (y23 : Value), ∃ (y24 : Value), ∃ (y25 : Value), ∃ (y26 : Value), ∃ (y27 : Value), ∃ (y28 : Value), ∃ (y29 : Value), ∃ (y30 : Value), ∃ (y31 : Value), ∃ (y32 : Value), ∃ (y33 : Value), ∃ (y34 : Value), ∃ (y35 : Value), ∃ (y36 : Value), v = .agg #[y0, y1, y2, y3, y4, y5, y6, y7, y8, y9, y10, y11, y12, y13, y14, y15, y16, y17, y18, y19, y20, y21, y22, y23, y24, y25, y26, y27, y28, y29, y30, y31, y32, y33, y34, y35, y36] ∧ K y0 y1 y2 y3 y4 y5 y6 y7 y8 y9 y10 y11 y12 y13 y14 y15 y16 y17 y18 y19 y20 y21 y22 y23 y24 y25 y26 y27 y28 y29 y30 y31 y32 y33 y34 y35 y36 w'))

theorem sim_vm_pairs {w : World} {K : Value → Value → Value → Value → Value → Value → Value → Value → Value → Value → Value → Value → Value → Value → Value → Value → Value → Value → Value → Value → Value → Value → Value → Value → Value → Value → Value → Value → Value → Value → Value → Value → Value → Value → Value → Value → Value → World → Prop} (h : sh_vm_pairs c_vm_plain c_vm_divides c_vm_shifts c_vm_asks w K) : c_vm_pairs  w K := by
  have e : sh_vm_pairs c_vm_plain c_vm_divides c_vm_shifts c_vm_asks w K = shF Tryz.prog 59 ⟨[], [], []⟩ [] w (fun v w' => decA [.any, .any, .any, .any, .any, .any, .any, .any, .any, .any, .any, .any, .any, .any, .any, .any, .any, .any, .any, .any, .any, .any, .any, .any, .any, .any, .any, .any, .any, .any, .any, .any, .any, .any, .any, .any, .any] v fun s => (fun (y0 : Value) (y1 : Value) (y2 : Value) (y3 : Value) (y4 : Value) (y5 : Value) (y6 : Value) (y7 : Value) (y8 : Value) (y9 : Value) (y10 : Value) (y11 : Value) (y12 : Value) (y13 : Value) (y14 : Value) (y15 : Value) (y16 : Value) (y17 : Value) (y18 : Value) (y19 : Value) (y20 : Value) (y21 : Value) (y22 : Value) (y23 : Value) (y24 : Value) (y25 : Value) (y26 : Value) (y27 : Value) (y28 : Value) (y29 : Value) (y30 : Value) (y31 : Value) (y32 : Value) (y33 : Value) (y34 : Value) (y35 : Value) (y36 : Value) => K y0 y1 y2 y3 y4 y5 y6 y7 y8 y9 y10 y11 y12 y13 y14 y15 y16 y17 y18 y19 y20 y21 y22 y23 y24 y25 y26 y27 y28 y29 y30 y31 y32 y33 y34 y35 y36 w') s.1 s.2.1 s.2.2.1 s.2.2.2.1 s.2.2.2.2.1 s.2.2.2.2.2.1 s.2.2.2.2.2.2.1 s.2.2.2.2.2.2.2.1 s.2.2.2.2.2.2.2.2.1 s.2.2.2.2.2.2.2.2.2.1 s.2.2.2.2.2.2.2.2.2.2.1 s.2.2.2.2.2.2.2.2.2.2.2.1 s.2.2.2.2.2.2.2.2.2.2.2.2.1 s.2.2.2.2.2.2.2.2.2.2.2.2.2.1 s.2.2.2.2.2.2.2.2.2.2.2.2.2.2.1 s.2.2.2.2.2.2.2.2.2.2.2.2.2.2.2.1 s.2.2.2.2.2.2.2.2.2.2.2.2.2.2.2.2.1 s.2.2.2.2.2.2.2.2.2.2.2.2.2.2.2.2.2.1 s.2.2.2.2.2.2.2.2.2.2.2.2.2.2.2.2.2.2.1 s.2.2.2.2.2.2.2.2.2.2.2.2.2.2.2.2.2.2.2.1 s.2.2.2.2.2.2.2.2.2.2.2.2.2.2.2.2.2.2.2.2.1 s.2.2.2.2.2.2.2.2.2.2.2.2.2.2.2.2.2.2.2.2.2.1 s.2.2.2.2.2.2.2.2.2.2.2.2.2.2.2.2.2.2.2.2.2.2.1 s.2.2.2.2.2.2.2.2.2.2.2.2.2.2.2.2.2.2.2.2.2.2.2.1 s.2.2.2.2.2.2.2.2.2.2.2.2.2.2.2.2.2.2.2.2.2.2.2.2.1 s.2.2.2.2.2.2.2.2.2.2.2.2.2.2.2.2.2.2.2.2.2.2.2.2.2.1 s.2.2.2.2.2.2.2.2.2.2.2.2.2.2.2.2.2.2.2.2.2.2.2.2.2.2.1 s.2.2.2.2.2.2.2.2.2.2.2.2.2.2.2.2.2.2.2.2.2.2.2.2.2.2.2.1 s.2.2.2.2.2.2.2.2.2.2.2.2.2.2.2.2.2.2.2.2.2.2.2.2.2.2.2.2.1 s.2.2.2.2.2.2.2.2.2.2.2.2.2.2.2.2.2.2.2.2.2.2.2.2.2.2.2.2.2.1 s.2.2.2.2.2.2.2.2.2.2.2.2.2.2.2.2.2.2.2.2.2.2.2.2.2.2.2.2.2.2.1 s.2.2.2.2.2.2.2.2.2.2.2.2.2.2.2.2.2.2.2.2.2.2.2.2.2.2.2.2.2.2.2.1 s.2.2.2.2.2.2.2.2.2.2.2.2.2.2.2.2.2.2.2.2.2.2.2.2.2.2.2.2.2.2.2.2.1 s.2.2.2.2.2.2.2.2.2.2.2.2.2.2.2.2.2.2.2.2.2.2.2.2.2.2.2.2.2.2.2.2.2.1 s.2.2.2.2.2.2.2.2.2.2.2.2.2.2.2.2.2.2.2.2.2.2.2.2.2.2.2.2.2.2.2.2.2.2.1 s.2.2.2.2.2.2.2.2.2.2.2.2.2.2.2.2.2.2.2.2.2.2.2.2.2.2.2.2.2.2.2.2.2.2.2.1 s.2.2.2.2.2.2.2.2.2.2.2.2.2.2.2.2.2.2.2.2.2.2.2.2.2.2.2.2.2.2.2.2.2.2.2.2.1) := by kernel_rfl
  exact Calls.mono (calls_of _ e h) (onRet_mono (fun _ _ h => by obtain ⟨s, h1, h2⟩ := decA_spec h; exact ⟨s.1, s.2.1, s.2.2.1, s.2.2.2.1, s.2.2.2.2.1, s.2.2.2.2.2.1, s.2.2.2.2.2.2.1, s.2.2.2.2.2.2.2.1, s.2.2.2.2.2.2.2.2.1, s.2.2.2.2.2.2.2.2.2.1, s.2.2.2.2.2.2.2.2.2.2.1, s.2.2.2.2.2.2.2.2.2.2.2.1, s.2.2.2.2.2.2.2.2.2.2.2.2.1, s.2.2.2.2.2.2.2.2.2.2.2.2.2.1, s.2.2.2.2.2.2.2.2.2.2.2.2.2.2.1, s.2.2.2.2.2.2.2.2.2.2.2.2.2.2.2.1, s.2.2.2.2.2.2.2.2.2.2.2.2.2.2.2.2.1, s.2.2.2.2.2.2.2.2.2.2.2.2.2.2.2.2.2.1, s.2.2.2.2.2.2.2.2.2.2.2.2.2.2.2.2.2.2.1, s.2.2.2.2.2.2.2.2.2.2.2.2.2.2.2.2.2.2.2.1, s.2.2.2.2.2.2.2.2.2.2.2.2.2.2.2.2.2.2.2.2.1, s.2.2.2.2.2.2.2.2.2.2.2.2.2.2.2.2.2.2.2.2.2.1, s.2.2.2.2.2.2.2.2.2.2.2.2.2.2.2.2.2.2.2.2.2.2.1, s.2.2.2.2.2.2.2.2.2.2.2.2.2.2.2.2.2.2.2.2.2.2.2.1, s.2.2.2.2.2.2.2.2.2.2.2.2.2.2.2.2.2.2.2.2.2.2.2.2.1, s.2.2.2.2.2.2.2.2.2.2.2.2.2.2.2.2.2.2.2.2.2.2.2.2.2.1, s.2.2.2.2.2.2.2.2.2.2.2.2.2.2.2.2.2.2.2.2.2.2.2.2.2.2.1, s.2.2.2.2.2.2.2.2.2.2.2.2.2.2.2.2.2.2.2.2.2.2.2.2.2.2.2.1, s.2.2.2.2.2.2.2.2.2.2.2.2.2.2.2.2.2.2.2.2.2.2.2.2.2.2.2.2.1, s.2.2.2.2.2.2.2.2.2.2.2.2.2.2.2.2.2.2.2.2.2.2.2.2.2.2.2.2.2.1, s.2.2.2.2.2.2.2.2.2.2.2.2.2.2.2.2.2.2.2.2.2.2.2.2.2.2.2.2.2.2.1, s.2.2.2.2.2.2.2.2.2.2.2.2.2.2.2.2.2.2.2.2.2.2.2.2.2.2.2.2.2.2.2.1, s.2.2.2.2.2.2.2.2.2.2.2.2.2.2.2.2.2.2.2.2.2.2.2.2.2.2.2.2.2.2.2.2.1, s.2.2.2.2.2.2.2.2.2.2.2.2.2.2.2.2.2.2.2.2.2.2.2.2.2.2.2.2.2.2.2.2.2.1, s.2.2.2.2.2.2.2.2.2.2.2.2.2.2.2.2.2.2.2.2.2.2.2.2.2.2.2.2.2.2.2.2.2.2.1, s.2.2.2.2.2.2.2.2.2.2.2.2.2.2.2.2.2.2.2.2.2.2.2.2.2.2.2.2.2.2.2.2.2.2.2.1, s.2.2.2.2.2.2.2.2.2.2.2.2.2.2.2.2.2.2.2.2.2.2.2.2.2.2.2.2.2.2.2.2.2.2.2.2.1, h1, h2⟩))

-- 36 prelude/vm.New; callees ['lang_Verify', 'slices_Clone_api_Instr_api_Instr', 'slices_Clone_int64_int64', 'slices_Clone_api_Cell_api_Cell', 'vm_pairs']
def sh_vm_New (c_lang_Verify : Int → Int → Int → Int → Slc → World → (Int → World → Prop) → Prop) (c_slices_Clone_api_Instr_api_Instr : Slc → World → (Slc → World → Prop) → Prop) (c_slices_Clone_int64_int64 : Slc → World → (Slc → World → Prop) → Prop) (c_slices_Clone_api_Cell_api_Cell : Slc → World → (Slc → World → Prop) → Prop) (c_vm_pairs : World → (Value → Value → Value → Value → Value → Value → Value → Value → Value → Value → Value → Value → Value → Value → Value → Value → Value → Value → Value → Value → Value → Value → Value → Value → Value → Value → Value → Value → Value → Value → Value → Value → Value → Value → Value → Value → Value → World → Prop) → Prop) (p_0_0 : Int) (p_0_1 : Int) (p_0_2 : Int) (p_0_3 : Int) (p_0_4 : Slc) (args_1 : Slc) (reads_2 : Slc) (w : World) (K : Option Addr → Int → World → Prop) : Prop :=
  newP #[.int .i64 p_0_0, .int .i64 p_0_1, .int .i64 p_0_2, .int .i64 p_0_3, .slice p_0_4.a p_0_4.l p_0_4.c] 50 w fun a1 w2 => ldI .i64 a1 w2 fun n3 => ldI .i64 (a1.add 1) w2 fun n4 => ldI .i64 (a1.add 2) w2 fun n5 => ldI .i64 (a1.add 3) w2 fun n6 => ldS (a1.add 4) w2 fun s7 => c_lang_Verify n3 n4 n5 n6 s7 w2 fun r8 w9 => iteB ((r8 : Int) != 0)
  (K none r8 w9)
  (ldI .i64 a1 w9 fun n10 => iteB (((args_1.l : Int) : Int) != n10)
  (K none 50 w9)
  (ldI .i64 (a1.add 1) w9 fun n11 => iteB (((reads_2.l : Int) : Int) != n11)
  (K none 50 w9)
  (ldS (a1.add 4) w9 fun s12 => c_slices_Clone_api_Instr_api_Instr s12 w9 fun r13 w14 => stP (a1.add 4) (.slice r13.a r13.l r13.c) w14 fun w15 => ldI .i64 a1 w15.drew fun n16 => ldI .i64 (a1.add 1) w15.drew fun n17 => ldI .i64 (a1.add 2) w15.drew fun n18 => ldI .i64 (a1.add 3) w15.drew fun n19 => ldS (a1.add 4) w15.drew fun s20 => c_slices_Clone_int64_int64 args_1 w15.drew fun r21 w22 => (w22.cell? a1 = some (.int .i64 n16) ∧ w22.cell? (a1.add 1) = some (.int .i64 n17) ∧ w22.cell? (a1.add 2) = some (.int .i64 n18) ∧ w22.cell? (a1.add 3) = some (.int .i64 n19) ∧ w22.cell? (a1.add 4) = some (.slice s20.a s20.l s20.c) ∧ True) ∧ (c_slices_Clone_api_Cell_api_Cell reads_2 w22 fun r23 w24 => (w24.cell? a1 = some (.int .i64 n16) ∧ w24.cell? (a1.add 1) = some (.int .i64 n17) ∧ w24.cell? (a1.add 2) = some (.int .i64 n18) ∧ w24.cell? (a1.add 3) = some (.int .i64 n19) ∧ w24.cell? (a1.add 4) = some (.slice s20.a s20.l s20.c) ∧ True) ∧ (c_vm_pairs  w24 fun r25 r26 r27 r28 r29 r30 r31 r32 r33 r34 r35 r36 r37 r38 r39 r40 r41 r42 r43 r44 r45 r46 r47 r48 r49 r50 r51 r52 r53 r54 r55 r56 r57 r58 r59 r60 r61 w62 => (w62.cell? a1 = some (.int .i64 n16) ∧ w62.cell? (a1.add 1) = some (.int .i64 n17) ∧ w62.cell? (a1.add 2) = some (.int .i64 n18) ∧ w62.cell? (a1.add 3) = some (.int .i64 n19) ∧ w62.cell? (a1.add 4) = some (.slice s20.a s20.l s20.c) ∧ True) ∧ (newP #[.int .i64 n16, .int .i64 n17, .int .i64 n18, .int .i64 n19, .slice s20.a s20.l s20.c, .slice r21.a r21.l r21.c, .slice r23.a r23.l r23.c, r25, r26, r27, r28, r29, r30, r31, r32, r33, r34, r35, r36, r37, r38, r39, r40, r41, r42, r43, r44, r45, r46, r47, r48, r49, r50, r51, r52, r53, r54, r55, r56, r57, r58, r59, r60, r61, .slice none 0 0, .slice none 0 0, .slice none 0 0, .slice none 0 0, .int .i64 0, .int .i64 0, .bool false, .int .i64 0, .int .i64 0] 133 w62 fun a63 w64 => ldI .i64 (a1.add 3) w64 fun n65 => mkP Tryz.prog 43 (.int .i64 n65) (.int .i64 n65) w64 fun s66 w67 => nnP (some a63) fun a68 => stP (a68.add 45) (.slice s66.a s66.l s66.c) w67 fun w69 => ldI .i64 (a1.add 2) w69 fun n70 => mkP Tryz.prog 54 (.int .i64 n70) (.int .i64 n70) w69 fun s71 w72 => nnP (some a63) fun a73 => stP (a73.add 47) (.slice s71.a s71.l s71.c) w72 fun w74 => ldS (a1.add 4) w74 fun s75 => nnP (some a63) fun a76 => stP (a76.add 50) (.bool (((s75.l : Int) : Int) == 0)) w74 fun w77 => K (some a63) 0 w77))))))

def c_vm_New (p_0_0 : Int) (p_0_1 : Int) (p_0_2 : Int) (p_0_3 : Int) (p_0_4 : Slc) (args_1 : Slc) (reads_2 : Slc) (w : World) (K : Option Addr → Int → World → Prop) : Prop := Calls Tryz.prog 36 #[.agg #[.int .i64 p_0_0, .int .i64 p_0_1, .int .i64 p_0_2, .int .i64 p_0_3, .slice p_0_4.a p_0_4.l p_0_4.c], .slice args_1.a args_1.l args_1.c, .slice reads_2.a reads_2.l reads_2.c] w (onRet (fun v w' => ∃ (y0 : Option Addr), ∃ (y1 : Int), v = .tuple #[.pointer y0, .int .i64 y1] ∧ K y0 y1 w'))

theorem sim_vm_New {p_0_0 : Int} {p_0_1 : Int} {p_0_2 : Int} {p_0_3 : Int} {p_0_4 : Slc} {args_1 : Slc} {reads_2 : Slc} {w : World} {K : Option Addr → Int → World → Prop} (h : sh_vm_New c_lang_Verify c_slices_Clone_api_Instr_api_Instr c_slices_Clone_int64_int64 c_slices_Clone_api_Cell_api_Cell c_vm_pairs p_0_0 p_0_1 p_0_2 p_0_3 p_0_4 args_1 reads_2 w K) : c_vm_New p_0_0 p_0_1 p_0_2 p_0_3 p_0_4 args_1 reads_2 w K := by
  have e : sh_vm_New c_lang_Verify c_slices_Clone_api_Instr_api_Instr c_slices_Clone_int64_int64 c_slices_Clone_api_Cell_api_Cell c_vm_pairs p_0_0 p_0_1 p_0_2 p_0_3 p_0_4 args_1 reads_2 w K = shF Tryz.prog 36 ⟨[(7, .of [0, 1, 3, 2, 4, 5, 6, 7, 8])], [], []⟩ [.agg #[.int .i64 p_0_0, .int .i64 p_0_1, .int .i64 p_0_2, .int .i64 p_0_3, .slice p_0_4.a p_0_4.l p_0_4.c], .slice args_1.a args_1.l args_1.c, .slice reads_2.a reads_2.l reads_2.c] w (fun v w' => decT [(false, [.ptr]), (false, [(.int .i64)])] v fun s => (fun (y0 : Option Addr) (y1 : Int) => K y0 y1 w') s.1 s.2.1) := by kernel_rfl
  exact Calls.mono (calls_of _ e h) (onRet_mono (fun _ _ h => by obtain ⟨s, h1, h2⟩ := decT_spec h; exact ⟨s.1, s.2.1, h1, h2⟩))

-- 63 (*prelude/vm.Machine).fail; callees []
def sh_vm_Machine_fail (m_0 : Option Addr) (e_1 : Int) (user_2 : Int) (w : World) (K : World → Prop) : Prop :=
  nnP m_0 fun a1 => stP (a1.add 50) (.bool true) w fun w2 => nnP m_0 fun a3 => stP (a3.add 51) (.int .i64 e_1) w2 fun w4 => nnP m_0 fun a5 => stP (a5.add 52) (.int .i64 user_2) w4 fun w6 => nnP m_0 fun a7 => stP (a7.add 44) (.slice none 0 0) w6 fun w8 => nnP m_0 fun a9 => stP (a9.add 46) (.slice none 0 0) w8 fun w10 => nnP m_0 fun a11 => ldI .i64 (a11.add 3) w10 fun n12 => mkP Tryz.prog 43 (.int .i64 n12) (.int .i64 n12) w10 fun s13 w14 => nnP m_0 fun a15 => stP (a15.add 45) (.slice s13.a s13.l s13.c) w14 fun w16 => nnP m_0 fun a17 => ldI .i64 (a17.add 2) w16 fun n18 => mkP Tryz.prog 54 (.int .i64 n18) (.int .i64 n18) w16 fun s19 w20 => nnP m_0 fun a21 => stP (a21.add 47) (.slice s19.a s19.l s19.c) w20 fun w22 => K w22

def c_vm_Machine_fail (m_0 : Option Addr) (e_1 : Int) (user_2 : Int) (w : World) (K : World → Prop) : Prop := Calls Tryz.prog 63 #[.pointer m_0, .int .i64 e_1, .int .i64 user_2] w (onRet (fun v w' => v = .tuple #[] ∧ K w'))

theorem sim_vm_Machine_fail {m_0 : Option Addr} {e_1 : Int} {user_2 : Int} {w : World} {K : World → Prop} (h : sh_vm_Machine_fail m_0 e_1 user_2 w K) : c_vm_Machine_fail m_0 e_1 user_2 w K := by
  have e : sh_vm_Machine_fail m_0 e_1 user_2 w K = shF Tryz.prog 63 ⟨[], [], []⟩ [.pointer m_0, .int .i64 e_1, .int .i64 user_2] w (fun v w' => decU v (K w')) := by kernel_rfl
  exact Calls.mono (calls_of _ e h) (onRet_mono (fun _ _ h => decU_spec h))

-- 60 (*prelude/vm.Machine).pop; callees []
def sh_vm_Machine_pop (m_0 : Option Addr) (w : World) (K : Int → World → Prop) : Prop :=
  nnP m_0 fun a1 => ldS (a1.add 44) w.drew fun s2 => nnP m_0 fun a3 => ldS (a3.add 44) w.drew fun s4 => idxP s2.a s2.l (IntKind.i64.wrap ((s4.l : Int) - 1)) 1 fun a5 => ldI .i64 a5 w.drew fun n6 => nnP m_0 fun a7 => ldS (a7.add 44) w.drew.drew fun s8 => nnP m_0 fun a9 => ldS (a9.add 44) w.drew.drew fun s10 => slP s8.a s8.l s8.c none (some (IntKind.i64.wrap ((s10.l : Int) - 1))) 1 fun p11 l12 c13 => nnP m_0 fun a14 => stP (a14.add 44) (.slice p11 l12 c13) w.drew.drew fun w15 => K n6 w15

def c_vm_Machine_pop (m_0 : Option Addr) (w : World) (K : Int → World → Prop) : Prop := Calls Tryz.prog 60 #[.pointer m_0] w (onRet (fun v w' => ∃ (y0 : Int), v = .int .i64 y0 ∧ K y0 w'))

theorem sim_vm_Machine_pop {m_0 : Option Addr} {w : World} {K : Int → World → Prop} (h : sh_vm_Machine_pop m_0 w K) : c_vm_Machine_pop m_0 w K := by
  have e : sh_vm_Machine_pop m_0 w K = shF Tryz.prog 60 ⟨[(1, .of [0, 1, 2, 3, 4, 5, 6, 7, 8, 9, 10, 11, 12]), (2, .of [0, 1, 2, 3, 4, 5, 6, 7, 8, 9, 10, 11, 12, 13, 14])], [], []⟩ [.pointer m_0] w (fun v w' => decV (.int .i64) v fun y0 => K y0 w') := by kernel_rfl
  exact Calls.mono (calls_of _ e h) (onRet_mono (fun _ _ h => decV_spec h))

-- 97 (*prelude/vm.Machine).write; callees []
def sh_vm_Machine_write (m_0 : Option Addr) (i_1 : Int) (p_2_0 : Int) (p_2_1 : Int) (w : World) (K : Int → World → Prop) : Prop :=
  newP #[.int .i64 p_2_0, .int .i64 p_2_1] 139 w fun a1 w2 => iteB (decide ((i_1 : Int) < 0))
  (K 203 w2)
  (nnP m_0 fun a3 => ldS (a3.add 47) w2 fun s4 => iteB (decide ((i_1 : Int) ≥ (s4.l : Int)))
  (K 203 w2)
  (nnP m_0 fun a5 => ldS (a5.add 47) w2.drew fun s6 => ldI .i64 a1 w2.drew fun n7 => ldI .i64 (a1.add 1) w2.drew fun n8 => idxP s6.a s6.l i_1 2 fun a9 => stP a9 (.int .i64 n7) w2.drew fun w10 => stP (a9.add 1) (.int .i64 n8) w10 fun w11 => K 0 w11))

def c_vm_Machine_write (m_0 : Option Addr) (i_1 : Int) (p_2_0 : Int) (p_2_1 : Int) (w : World) (K : Int → World → Prop) : Prop := Calls Tryz.prog 97 #[.pointer m_0, .int .i64 i_1, .agg #[.int .i64 p_2_0, .int .i64 p_2_1]] w (onRet (fun v w' => ∃ (y0 : Int), v = .int .i64 y0 ∧ K y0 w'))

theorem sim_vm_Machine_write {m_0 : Option Addr} {i_1 : Int} {p_2_0 : Int} {p_2_1 : Int} {w : World} {K : Int → World → Prop} (h : sh_vm_Machine_write m_0 i_1 p_2_0 p_2_1 w K) : c_vm_Machine_write m_0 i_1 p_2_0 p_2_1 w K := by
  have e : sh_vm_Machine_write m_0 i_1 p_2_0 p_2_1 w K = shF Tryz.prog 97 ⟨[(3, .of [0, 1, 2, 3, 4, 5, 6, 7])], [], []⟩ [.pointer m_0, .int .i64 i_1, .agg #[.int .i64 p_2_0, .int .i64 p_2_1]] w (fun v w' => decV (.int .i64) v fun y0 => K y0 w') := by kernel_rfl
  exact Calls.mono (calls_of _ e h) (onRet_mono (fun _ _ h => decV_spec h))

-- 61 (*prelude/vm.Machine).tell; callees ['vm_Machine_pop', 'vm_Machine_write']
def sh_vm_Machine_tell (c_vm_Machine_pop : Option Addr → World → (Int → World → Prop) → Prop) (c_vm_Machine_write : Option Addr → Int → Int → Int → World → (Int → World → Prop) → Prop) (m_0 : Option Addr) (in_1_0 : Int) (in_1_1 : Int) (w : World) (K : Int → World → Prop) : Prop :=
  newP #[.int .i64 in_1_0, .int .i64 in_1_1] 102 w fun a1 w2 => ldI .i64 a1 w2 fun n3 => iteB ((n3 : Int) == 32)
  (ldI .i64 (a1.add 1) w2.drew fun n4 => c_vm_Machine_pop m_0 w2.drew fun r5 w6 => w6.cell? (a1.add 1) = some (.int .i64 n4) ∧ (c_vm_Machine_write m_0 n4 1 r5 w6 fun r7 w8 => K r7 w8))
  (iteB ((n3 : Int) == 33)
  (ldI .i64 (a1.add 1) w2 fun n9 => c_vm_Machine_write m_0 n9 2 0 w2 fun r10 w11 => K r10 w11)
  (iteB ((n3 : Int) == 34)
  (c_vm_Machine_pop m_0 w2 fun r12 w13 => c_vm_Machine_pop m_0 w13 fun r14 w15 => c_vm_Machine_write m_0 r14 1 r12 w15 fun r16 w17 => K r16 w17)
  (nnP m_0 fun a18 => ldS (a18.add 46) w2 fun s19 => iteB (decide (((s19.l : Int) : Int) ≥ 16))
  (K 204 w2)
  (nnP m_0 fun a20 => ldS (a20.add 46) w2.drew fun s21 => c_vm_Machine_pop m_0 w2.drew fun r22 w23 => w23.cell? (a20.add 46) = some (.slice s21.a s21.l s21.c) ∧ (newP #[.int .i64 r22] 2 w23 fun a24 w25 => w25.cell? (a20.add 46) = some (.slice s21.a s21.l s21.c) ∧ (apP Tryz.prog #[43, 43] 43 [.slice s21.a s21.l s21.c, .slice (some a24) 1 1] w25 fun s27 w26 => nnP m_0 fun a28 => stP (a28.add 46) (.slice s27.a s27.l s27.c) w26 fun w29 => K 0 w29))))))

def c_vm_Machine_tell (m_0 : Option Addr) (in_1_0 : Int) (in_1_1 : Int) (w : World) (K : Int → World → Prop) : Prop := Calls Tryz.prog 61 #[.pointer m_0, .agg #[.int .i64 in_1_0, .int .i64 in_1_1]] w (onRet (fun v w' => ∃ (y0 : Int), v = .int .i64 y0 ∧ K y0 w'))

theorem sim_vm_Machine_tell {m_0 : Option Addr} {in_1_0 : Int} {in_1_1 : Int} {w : World} {K : Int → World → Prop} (h : sh_vm_Machine_tell c_vm_Machine_pop c_vm_Machine_write m_0 in_1_0 in_1_1 w K) : c_vm_Machine_tell m_0 in_1_0 in_1_1 w K := by
  have e : sh_vm_Machine_tell c_vm_Machine_pop c_vm_Machine_write m_0 in_1_0 in_1_1 w K = shF Tryz.prog 61 ⟨[(3, .of [0, 1, 2, 3, 4, 5, 6, 7]), (11, .of [0, 1, 2, 3, 4, 5, 6, 7, 8, 9, 10, 11])], [], []⟩ [.pointer m_0, .agg #[.int .i64 in_1_0, .int .i64 in_1_1]] w (fun v w' => decV (.int .i64) v fun y0 => K y0 w') := by kernel_rfl
  exact Calls.mono (calls_of _ e h) (onRet_mono (fun _ _ h => decV_spec h))

-- 100 (*prelude/vm.Machine).push; callees []
def sh_vm_Machine_push (m_0 : Option Addr) (v_1 : Int) (w : World) (K : World → Prop) : Prop :=
  nnP m_0 fun a1 => ldS (a1.add 44) w fun s2 => newP #[.int .i64 v_1] 2 w fun a3 w4 => apP Tryz.prog #[43, 43] 43 [.slice s2.a s2.l s2.c, .slice (some a3) 1 1] w4 fun s6 w5 => nnP m_0 fun a7 => stP (a7.add 44) (.slice s6.a s6.l s6.c) w5 fun w8 => K w8

def c_vm_Machine_push (m_0 : Option Addr) (v_1 : Int) (w : World) (K : World → Prop) : Prop := Calls Tryz.prog 100 #[.pointer m_0, .int .i64 v_1] w (onRet (fun v w' => v = .tuple #[] ∧ K w'))

theorem sim_vm_Machine_push {m_0 : Option Addr} {v_1 : Int} {w : World} {K : World → Prop} (h : sh_vm_Machine_push m_0 v_1 w K) : c_vm_Machine_push m_0 v_1 w K := by
  have e : sh_vm_Machine_push m_0 v_1 w K = shF Tryz.prog 100 ⟨[], [], []⟩ [.pointer m_0, .int .i64 v_1] w (fun v w' => decU v (K w')) := by kernel_rfl
  exact Calls.mono (calls_of _ e h) (onRet_mono (fun _ _ h => decU_spec h))

-- 98 (*prelude/vm.Machine).read; callees []
def sh_vm_Machine_read (m_0 : Option Addr) (i_1 : Int) (w : World) (K : Int → Int → World → Prop) : Prop :=
  iteB (decide ((i_1 : Int) < 0))
  (K 0 203 w)
  (nnP m_0 fun a1 => ldS (a1.add 6) w fun s2 => iteB (decide ((i_1 : Int) ≥ (s2.l : Int)))
  (K 0 203 w)
  (nnP m_0 fun a3 => ldS (a3.add 6) w fun s4 => idxP s4.a s4.l i_1 2 fun a5 => ldB a5 w fun t6 => iteB (!t6)
  (K 0 0 w)
  (nnP m_0 fun a7 => ldS (a7.add 6) w fun s8 => idxP s8.a s8.l i_1 2 fun a9 => ldI .i64 (a9.add 1) w fun n10 => K n10 0 w)))

def c_vm_Machine_read (m_0 : Option Addr) (i_1 : Int) (w : World) (K : Int → Int → World → Prop) : Prop := Calls Tryz.prog 98 #[.pointer m_0, .int .i64 i_1] w (onRet (fun v w' => ∃ (y0 : Int), ∃ (y1 : Int), v = .tuple #[.int .i64 y0, .int .i64 y1] ∧ K y0 y1 w'))

theorem sim_vm_Machine_read {m_0 : Option Addr} {i_1 : Int} {w : World} {K : Int → Int → World → Prop} (h : sh_vm_Machine_read m_0 i_1 w K) : c_vm_Machine_read m_0 i_1 w K := by
  have e : sh_vm_Machine_read m_0 i_1 w K = shF Tryz.prog 98 ⟨[], [], []⟩ [.pointer m_0, .int .i64 i_1] w (fun v w' => decT [(false, [(.int .i64)]), (false, [(.int .i64)])] v fun s => (fun (y0 : Int) (y1 : Int) => K y0 y1 w') s.1 s.2.1) := by kernel_rfl
  exact Calls.mono (calls_of _ e h) (onRet_mono (fun _ _ h => by obtain ⟨s, h1, h2⟩ := decT_spec h; exact ⟨s.1, s.2.1, h1, h2⟩))

-- 99 prelude/vm.truth; callees []
def sh_vm_truth (b_0 : Bool) (w : World) (K : Int → World → Prop) : Prop :=
  iteB b_0
  (K 1 w)
  (K 0 w)

def c_vm_truth (b_0 : Bool) (w : World) (K : Int → World → Prop) : Prop := Calls Tryz.prog 99 #[.bool b_0] w (onRet (fun v w' => ∃ (y0 : Int), v = .int .i64 y0 ∧ K y0 w'))

theorem sim_vm_truth {b_0 : Bool} {w : World} {K : Int → World → Prop} (h : sh_vm_truth b_0 w K) : c_vm_truth b_0 w K := by
  have e : sh_vm_truth b_0 w K = shF Tryz.prog 99 ⟨[], [], []⟩ [.bool b_0] w (fun v w' => decV (.int .i64) v fun y0 => K y0 w') := by kernel_rfl
  exact Calls.mono (calls_of _ e h) (onRet_mono (fun _ _ h => decV_spec h))

-- 62 (*prelude/vm.Machine).reckon; callees ['vm_Machine_pop', 'vm_Machine_push', 'vm_Machine_read', 'vm_truth']
def sh_vm_Machine_reckon (c_vm_Machine_pop : Option Addr → World → (Int → World → Prop) → Prop) (c_vm_Machine_push : Option Addr → Int → World → (World → Prop) → Prop) (c_vm_Machine_read : Option Addr → Int → World → (Int → Int → World → Prop) → Prop) (c_vm_truth : Bool → World → (Int → World → Prop) → Prop) (x_0 : Option Addr) (x_1_0 : Int) (x_1_1 : Int) (w : World) (K : Int → World → Prop) : Prop :=
  newP #[.int .i64 x_1_0, .int .i64 x_1_1] 102 w fun a1 w2 => ldI .i64 a1 w2 fun n3 => iteB ((n3 : Int) == 2)
  (c_vm_Machine_pop x_0 w2 fun r4 w5 => K 0 w5)
  (iteB ((n3 : Int) == 5)
  (nnP x_0 fun a6 => ldS (a6.add 45) w2.drew fun s7 => ldI .i64 (a1.add 1) w2.drew fun n8 => c_vm_Machine_pop x_0 w2.drew fun r9 w10 => w10.cell? (a1.add 1) = some (.int .i64 n8) ∧ w10.cell? (a6.add 45) = some (.slice s7.a s7.l s7.c) ∧ (idxP s7.a s7.l n8 1 fun a11 => stP a11 (.int .i64 r9) w10 fun w12 => K 0 w12))
  (iteB ((n3 : Int) == 1)
  (ldI .i64 (a1.add 1) w2 fun n13 => c_vm_Machine_push x_0 n13 w2 fun w14 => K 0 w14)
  (iteB ((n3 : Int) == 3)
  (nnP x_0 fun a15 => ldS (a15.add 44) w2.drew fun s16 => nnP x_0 fun a17 => ldS (a17.add 44) w2.drew fun s18 => idxP s16.a s16.l (IntKind.i64.wrap ((s18.l : Int) - 1)) 1 fun a19 => ldI .i64 a19 w2.drew fun n20 => c_vm_Machine_push x_0 n20 w2.drew fun w21 => K 0 w21)
  (iteB ((n3 : Int) == 4)
  (nnP x_0 fun a22 => ldS (a22.add 45) w2.drew fun s23 => ldI .i64 (a1.add 1) w2.drew fun n24 => idxP s23.a s23.l n24 1 fun a25 => ldI .i64 a25 w2.drew fun n26 => c_vm_Machine_push x_0 n26 w2.drew fun w27 => K 0 w27)
  (iteB ((n3 : Int) == 6)
  (nnP x_0 fun a28 => ldS (a28.add 5) w2.drew fun s29 => ldI .i64 (a1.add 1) w2.drew fun n30 => idxP s29.a s29.l n30 1 fun a31 => ldI .i64 a31 w2.drew fun n32 => c_vm_Machine_push x_0 n32 w2.drew fun w33 => K 0 w33)
  (iteB ((n3 : Int) == 7)
  (ldI .i64 (a1.add 1) w2 fun n34 => c_vm_Machine_read x_0 n34 w2 fun r35 r36 w37 => c_vm_Machine_push x_0 r35 w37 fun w38 => K r36 w38)
  (iteB ((n3 : Int) == 8)
  (nnP x_0 fun a39 => ldS (a39.add 6) w2.drew fun s40 => ldI .i64 (a1.add 1) w2.drew fun n41 => idxP s40.a s40.l n41 2 fun a42 => ldB a42 w2.drew fun t43 => c_vm_truth t43 w2.drew fun r44 w45 => c_vm_Machine_push x_0 r44 w45 fun w46 => K 0 w46)
  (iteB ((n3 : Int) == 9)
  (c_vm_Machine_pop x_0 w2 fun r47 w48 => c_vm_Machine_read x_0 r47 w48 fun r49 r50 w51 => c_vm_Machine_push x_0 r49 w51 fun w52 => K r50 w52)
  (iteB ((n3 : Int) == 20)
  (c_vm_Machine_pop x_0 w2 fun r53 w54 => c_vm_Machine_push x_0 (IntKind.i64.wrap (0 - r53)) w54 fun w55 => K 0 w55)
  (iteB ((n3 : Int) == 21)
  (c_vm_Machine_pop x_0 w2 fun r56 w57 => c_vm_truth ((r56 : Int) == 0) w57 fun r58 w59 => c_vm_Machine_push x_0 r58 w59 fun w60 => K 0 w60)
  (c_vm_Machine_pop x_0 w2 fun r61 w62 => ldI .i64 a1 w62.drew fun n63 => nnP x_0 fun a64 => arrP 37 n63 (ldV ((a64.add 7).add (Int.toNat n63 * 1)) w62.drew fun v65 => c_vm_Machine_pop x_0 w62.drew fun r66 w67 => w67.cell? ((a64.add 7).add (Int.toNat n63 * 1)) = some (v65) ∧ w67.cell? a1 = some (.int .i64 n63) ∧ (cvP Tryz.prog v65 [.int .i64 r66, .int .i64 r61] w67 fun v71 w70 => ∃ (r68 : Int), ∃ (r69 : Int), v71 = .tuple #[.int .i64 r68, .int .i64 r69] ∧ (c_vm_Machine_push x_0 r68 w70 fun w72 => K r69 w72))))))))))))))

def c_vm_Machine_reckon (x_0 : Option Addr) (x_1_0 : Int) (x_1_1 : Int) (w : World) (K : Int → World → Prop) : Prop := Calls Tryz.prog 62 #[.pointer x_0, .agg #[.int .i64 x_1_0, .int .i64 x_1_1]] w (onRet (fun v w' => ∃ (y0 : Int), v = .int .i64 y0 ∧ K y0 w'))

theorem sim_vm_Machine_reckon {x_0 : Option Addr} {x_1_0 : Int} {x_1_1 : Int} {w : World} {K : Int → World → Prop} (h : sh_vm_Machine_reckon c_vm_Machine_pop c_vm_Machine_push c_vm_Machine_read c_vm_truth x_0 x_1_0 x_1_1 w K) : c_vm_Machine_reckon x_0 x_1_0 x_1_1 w K := by
  have e : sh_vm_Machine_reckon c_vm_Machine_pop c_vm_Machine_push c_vm_Machine_read c_vm_truth x_0 x_1_0 x_1_1 w K = shF Tryz.prog 62 ⟨[(10, .of [0, 1, 2, 3, 4, 5, 6, 7, 8, 9]), (15, .of [0, 1, 2, 3, 4, 5, 6, 7, 8, 9, 10, 11, 12]), (17, .of [0, 1, 2, 3, 4, 5, 6, 7, 8]), (19, .of [0, 1, 2, 3, 4, 5, 6, 7, 8]), (23, .of [0, 1, 2, 3, 4, 5, 6, 7, 8, 9, 10]), (5, .of [0, 1, 2, 3, 4, 5, 6, 7, 9, 8, 10, 11, 12, 13, 14, 15])], [], []⟩ [.pointer x_0, .agg #[.int .i64 x_1_0, .int .i64 x_1_1]] w (fun v w' => decV (.int .i64) v fun y0 => K y0 w') := by kernel_rfl
  exact Calls.mono (calls_of _ e h) (onRet_mono (fun _ _ h => decV_spec h))

-- 37 (*prelude/vm.Machine).Step; callees ['vm_Machine_fail', 'vm_Machine_pop', 'vm_Machine_tell', 'vm_Machine_reckon']
def sh_vm_Machine_Step (c_vm_Machine_fail : Option Addr → Int → Int → World → (World → Prop) → Prop) (c_vm_Machine_pop : Option Addr → World → (Int → World → Prop) → Prop) (c_vm_Machine_tell : Option Addr → Int → Int → World → (Int → World → Prop) → Prop) (c_vm_Machine_reckon : Option Addr → Int → Int → World → (Int → World → Prop) → Prop) (x_0 : Option Addr) (w : World) (K : Bool → World → Prop) : Prop :=
  nnP x_0 fun a1 => ldB (a1.add 50) w fun t2 => iteB t2
  (K false w)
  (nnP x_0 fun a3 => ldS (a3.add 4) w.drew fun s4 => nnP x_0 fun a5 => ldI .i64 (a5.add 48) w.drew fun n6 => idxP s4.a s4.l n6 2 fun a7 => ldI .i64 a7 w.drew fun n8 => ldI .i64 (a7.add 1) w.drew fun n9 => newP #[.int .i64 0, .int .i64 0] 102 w.drew fun a10 w11 => (w11.cell? a7 = some (.int .i64 n8) ∧ w11.cell? (a7.add 1) = some (.int .i64 n9) ∧ True) ∧ w11.cell? (a5.add 48) = some (.int .i64 n6) ∧ w11.cell? (a3.add 4) = some (.slice s4.a s4.l s4.c) ∧ (stP a10 (.int .i64 n8) w11 fun w12 => stP (a10.add 1) (.int .i64 n9) w12 fun w13 => nnP x_0 fun a14 => ldI .i64 (a14.add 49) w13 fun n15 => nnP x_0 fun a16 => stP (a16.add 49) (.int .i64 (IntKind.i64.wrap (n15 + 1))) w13 fun w17 => nnP x_0 fun a18 => ldI .i64 (a18.add 48) w17 fun n19 => ldI .i64 a10 w17 fun n20 => iteB ((n20 : Int) == 0)
  (nnP x_0 fun a21 => stP (a21.add 50) (.bool true) w17 fun w22 => K true w22)
  (iteB ((n20 : Int) == 30)
  (ldI .i64 (a10.add 1) w17 fun n23 => iteB ((0 : Int) != 0)
  (c_vm_Machine_fail x_0 0 0 w17 fun w24 => K true w24)
  (nnP x_0 fun a25 => stP (a25.add 48) (.int .i64 n23) w17 fun w26 => nnP x_0 fun a27 => ldS (a27.add 4) w26 fun s28 => nnP x_0 fun a29 => stP (a29.add 50) (.bool ((n23 : Int) == (s28.l : Int))) w26 fun w30 => K true w30))
  (iteB ((n20 : Int) == 31)
  (c_vm_Machine_pop x_0 w17 fun r31 w32 => iteB ((r31 : Int) == 0)
  (ldI .i64 (a10.add 1) w32 fun n33 => iteB ((0 : Int) != 0)
  (c_vm_Machine_fail x_0 0 0 w32 fun w34 => K true w34)
  (nnP x_0 fun a35 => stP (a35.add 48) (.int .i64 n33) w32 fun w36 => nnP x_0 fun a37 => ldS (a37.add 4) w36 fun s38 => nnP x_0 fun a39 => stP (a39.add 50) (.bool ((n33 : Int) == (s38.l : Int))) w36 fun w40 => K true w40))
  (iteB ((0 : Int) != 0)
  (c_vm_Machine_fail x_0 0 0 w32 fun w41 => K true w41)
  (nnP x_0 fun a42 => stP (a42.add 48) (.int .i64 (IntKind.i64.wrap (n19 + 1))) w32 fun w43 => nnP x_0 fun a44 => ldS (a44.add 4) w43 fun s45 => nnP x_0 fun a46 => stP (a46.add 50) (.bool (((IntKind.i64.wrap (n19 + 1)) : Int) == (s45.l : Int))) w43 fun w47 => K true w47)))
  (iteB ((n20 : Int) == 36)
  (c_vm_Machine_pop x_0 w17 fun r48 w49 => iteB ((200 : Int) != 0)
  (c_vm_Machine_fail x_0 200 r48 w49 fun w50 => K true w50)
  (nnP x_0 fun a51 => stP (a51.add 48) (.int .i64 (IntKind.i64.wrap (n19 + 1))) w49 fun w52 => nnP x_0 fun a53 => ldS (a53.add 4) w52 fun s54 => nnP x_0 fun a55 => stP (a55.add 50) (.bool (((IntKind.i64.wrap (n19 + 1)) : Int) == (s54.l : Int))) w52 fun w56 => K true w56))
  (iteB ((n20 : Int) == 32)
  (ldI .i64 a10 w17 fun n57 => ldI .i64 (a10.add 1) w17 fun n58 => c_vm_Machine_tell x_0 n57 n58 w17 fun r59 w60 => iteB ((r59 : Int) != 0)
  (c_vm_Machine_fail x_0 r59 0 w60 fun w61 => K true w61)
  (nnP x_0 fun a62 => stP (a62.add 48) (.int .i64 (IntKind.i64.wrap (n19 + 1))) w60 fun w63 => nnP x_0 fun a64 => ldS (a64.add 4) w63 fun s65 => nnP x_0 fun a66 => stP (a66.add 50) (.bool (((IntKind.i64.wrap (n19 + 1)) : Int) == (s65.l : Int))) w63 fun w67 => K true w67))
  (iteB ((n20 : Int) == 33)
  (ldI .i64 a10 w17 fun n68 => ldI .i64 (a10.add 1) w17 fun n69 => c_vm_Machine_tell x_0 n68 n69 w17 fun r70 w71 => iteB ((r70 : Int) != 0)
  (c_vm_Machine_fail x_0 r70 0 w71 fun w72 => K true w72)
  (nnP x_0 fun a73 => stP (a73.add 48) (.int .i64 (IntKind.i64.wrap (n19 + 1))) w71 fun w74 => nnP x_0 fun a75 => ldS (a75.add 4) w74 fun s76 => nnP x_0 fun a77 => stP (a77.add 50) (.bool (((IntKind.i64.wrap (n19 + 1)) : Int) == (s76.l : Int))) w74 fun w78 => K true w78))
  (iteB ((n20 : Int) == 34)
  (ldI .i64 a10 w17 fun n79 => ldI .i64 (a10.add 1) w17 fun n80 => c_vm_Machine_tell x_0 n79 n80 w17 fun r81 w82 => iteB ((r81 : Int) != 0)
  (c_vm_Machine_fail x_0 r81 0 w82 fun w83 => K true w83)
  (nnP x_0 fun a84 => stP (a84.add 48) (.int .i64 (IntKind.i64.wrap (n19 + 1))) w82 fun w85 => nnP x_0 fun a86 => ldS (a86.add 4) w85 fun s87 => nnP x_0 fun a88 => stP (a88.add 50) (.bool (((IntKind.i64.wrap (n19 + 1)) : Int) == (s87.l : Int))) w85 fun w89 => K true w89))
  (iteB ((n20 : Int) == 35)
  (ldI .i64 a10 w17 fun n90 => ldI .i64 (a10.add 1) w17 fun n91 => c_vm_Machine_tell x_0 n90 n91 w17 fun r92 w93 => iteB ((r92 : Int) != 0)
  (c_vm_Machine_fail x_0 r92 0 w93 fun w94 => K true w94)
  (nnP x_0 fun a95 => stP (a95.add 48) (.int .i64 (IntKind.i64.wrap (n19 + 1))) w93 fun w96 => nnP x_0 fun a97 => ldS (a97.add 4) w96 fun s98 => nnP x_0 fun a99 => stP (a99.add 50) (.bool (((IntKind.i64.wrap (n19 + 1)) : Int) == (s98.l : Int))) w96 fun w100 => K true w100))
  (ldI .i64 a10 w17 fun n101 => ldI .i64 (a10.add 1) w17 fun n102 => c_vm_Machine_reckon x_0 n101 n102 w17 fun r103 w104 => iteB ((r103 : Int) != 0)
  (c_vm_Machine_fail x_0 r103 0 w104 fun w105 => K true w105)
  (nnP x_0 fun a106 => stP (a106.add 48) (.int .i64 (IntKind.i64.wrap (n19 + 1))) w104 fun w107 => nnP x_0 fun a108 => ldS (a108.add 4) w107 fun s109 => nnP x_0 fun a110 => stP (a110.add 50) (.bool (((IntKind.i64.wrap (n19 + 1)) : Int) == (s109.l : Int))) w107 fun w111 => K true w111)))))))))))

def c_vm_Machine_Step (x_0 : Option Addr) (w : World) (K : Bool → World → Prop) : Prop := Calls Tryz.prog 37 #[.pointer x_0] w (onRet (fun v w' => ∃ (y0 : Bool), v = .bool y0 ∧ K y0 w'))

theorem sim_vm_Machine_Step {x_0 : Option Addr} {w : World} {K : Bool → World → Prop} (h : sh_vm_Machine_Step c_vm_Machine_fail c_vm_Machine_pop c_vm_Machine_tell c_vm_Machine_reckon x_0 w K) : c_vm_Machine_Step x_0 w K := by
  have e : sh_vm_Machine_Step c_vm_Machine_fail c_vm_Machine_pop c_vm_Machine_tell c_vm_Machine_reckon x_0 w K = shF Tryz.prog 37 ⟨[(3, .of [0, 1, 2, 3, 4, 5, 6, 7, 8, 9, 10, 11, 12])], [], []⟩ [.pointer x_0] w (fun v w' => decV .b v fun y0 => K y0 w') := by kernel_rfl
  exact Calls.mono (calls_of _ e h) (onRet_mono (fun _ _ h => decV_spec h))

-- 64 slices.Clone[[]prelude/api.Put,prelude/api.Put]; callees []
def sh_slices_Clone_api_Put_api_Put (s_0 : Slc) (w : World) (K : Slc → World → Prop) : Prop :=
  iteB ((s_0.a).isNone)
  (K ⟨none, 0, 0⟩ w)
  (newP #[] 139 w fun a1 w2 => apP Tryz.prog #[54, 54] 54 [.slice (some a1) 0 0, .slice s_0.a s_0.l s_0.c] w2 fun s4 w3 => K s4 w3)

def c_slices_Clone_api_Put_api_Put (s_0 : Slc) (w : World) (K : Slc → World → Prop) : Prop := Calls Tryz.prog 64 #[.slice s_0.a s_0.l s_0.c] w (onRet (fun v w' => ∃ (y0 : Slc), v = .slice y0.a y0.l y0.c ∧ K y0 w'))

theorem sim_slices_Clone_api_Put_api_Put {s_0 : Slc} {w : World} {K : Slc → World → Prop} (h : sh_slices_Clone_api_Put_api_Put s_0 w K) : c_slices_Clone_api_Put_api_Put s_0 w K := by
  have e : sh_slices_Clone_api_Put_api_Put s_0 w K = shF Tryz.prog 64 ⟨[], [], []⟩ [.slice s_0.a s_0.l s_0.c] w (fun v w' => decV .sl v fun y0 => K y0 w') := by kernel_rfl
  exact Calls.mono (calls_of _ e h) (onRet_mono (fun _ _ h => decV_spec h))

-- 38 (*prelude/vm.Machine).Effect; callees ['slices_Clone_int64_int64', 'slices_Clone_api_Put_api_Put']
def sh_vm_Machine_Effect (c_slices_Clone_int64_int64 : Slc → World → (Slc → World → Prop) → Prop) (c_slices_Clone_api_Put_api_Put : Slc → World → (Slc → World → Prop) → Prop) (m_0 : Option Addr) (w : World) (K : Bool → Int → Int → Slc → Slc → Int → World → Prop) : Prop :=
  newP #[.bool false, .int .i64 0, .int .i64 0, .slice none 0 0, .slice none 0 0, .int .i64 0] 56 w fun a1 w2 => nnP m_0 fun a3 => ldB (a3.add 50) w2 fun t4 => iteB (!t4)
  (stP a1 (.bool false) w2 fun w5 => stP (a1.add 1) (.int .i64 0) w5 fun w6 => stP (a1.add 2) (.int .i64 0) w6 fun w7 => stP (a1.add 3) (.slice none 0 0) w7 fun w8 => stP (a1.add 4) (.slice none 0 0) w8 fun w9 => stP (a1.add 5) (.int .i64 0) w9 fun w10 => ldB a1 w10 fun t11 => ldI .i64 (a1.add 1) w10 fun n12 => ldI .i64 (a1.add 2) w10 fun n13 => ldS (a1.add 3) w10 fun s14 => ldS (a1.add 4) w10 fun s15 => ldI .i64 (a1.add 5) w10 fun n16 => K t11 n12 n13 s14 s15 n16 w10)
  (nnP m_0 fun a17 => ldI .i64 (a17.add 51) w2.drew fun n18 => nnP m_0 fun a19 => ldI .i64 (a19.add 51) w2.drew fun n20 => nnP m_0 fun a21 => ldI .i64 (a21.add 52) w2.drew fun n22 => nnP m_0 fun a23 => ldS (a23.add 46) w2.drew fun s24 => nnP m_0 fun a25 => ldS (a25.add 47) w2.drew fun s26 => nnP m_0 fun a27 => ldI .i64 (a27.add 49) w2.drew fun n28 => c_slices_Clone_int64_int64 s24 w2.drew fun r29 w30 => w30.cell? (a27.add 49) = some (.int .i64 n28) ∧ w30.cell? (a25.add 47) = some (.slice s26.a s26.l s26.c) ∧ w30.cell? (a21.add 52) = some (.int .i64 n22) ∧ w30.cell? (a19.add 51) = some (.int .i64 n20) ∧ w30.cell? (a17.add 51) = some (.int .i64 n18) ∧ (c_slices_Clone_api_Put_api_Put s26 w30 fun r31 w32 => w32.cell? (a27.add 49) = some (.int .i64 n28) ∧ w32.cell? (a21.add 52) = some (.int .i64 n22) ∧ w32.cell? (a19.add 51) = some (.int .i64 n20) ∧ w32.cell? (a17.add 51) = some (.int .i64 n18) ∧ (stP a1 (.bool ((n18 : Int) == 0)) w32 fun w33 => stP (a1.add 1) (.int .i64 n20) w33 fun w34 => stP (a1.add 2) (.int .i64 n22) w34 fun w35 => stP (a1.add 3) (.slice r29.a r29.l r29.c) w35 fun w36 => stP (a1.add 4) (.slice r31.a r31.l r31.c) w36 fun w37 => stP (a1.add 5) (.int .i64 n28) w37 fun w38 => ldB a1 w38 fun t39 => ldI .i64 (a1.add 1) w38 fun n40 => ldI .i64 (a1.add 2) w38 fun n41 => ldS (a1.add 3) w38 fun s42 => ldS (a1.add 4) w38 fun s43 => ldI .i64 (a1.add 5) w38 fun n44 => K t39 n40 n41 s42 s43 n44 w38)))

def c_vm_Machine_Effect (m_0 : Option Addr) (w : World) (K : Bool → Int → Int → Slc → Slc → Int → World → Prop) : Prop := Calls Tryz.prog 38 #[.pointer m_0] w (onRet (fun v w' => ∃ (y0 : Bool), ∃ (y1 : Int), ∃ (y2 : Int), ∃ (y3 : Slc), ∃ (y4 : Slc), ∃ (y5 : Int), v = .agg #[.bool y0, .int .i64 y1, .int .i64 y2, .slice y3.a y3.l y3.c, .slice y4.a y4.l y4.c, .int .i64 y5] ∧ K y0 y1 y2 y3 y4 y5 w'))

theorem sim_vm_Machine_Effect {m_0 : Option Addr} {w : World} {K : Bool → Int → Int → Slc → Slc → Int → World → Prop} (h : sh_vm_Machine_Effect c_slices_Clone_int64_int64 c_slices_Clone_api_Put_api_Put m_0 w K) : c_vm_Machine_Effect m_0 w K := by
  have e : sh_vm_Machine_Effect c_slices_Clone_int64_int64 c_slices_Clone_api_Put_api_Put m_0 w K = shF Tryz.prog 38 ⟨[(3, .of [0, 1, 2, 3, 4, 5, 6, 7, 8, 9, 10, 11, 12, 13, 14, 15, 16, 18, 19, 20, 21, 23, 24, 25, 26, 17, 22, 27, 28])], [], []⟩ [.pointer m_0] w (fun v w' => decA [.b, (.int .i64), (.int .i64), .sl, .sl, (.int .i64)] v fun s => (fun (y0 : Bool) (y1 : Int) (y2 : Int) (y3 : Slc) (y4 : Slc) (y5 : Int) => K y0 y1 y2 y3 y4 y5 w') s.1 s.2.1 s.2.2.1 s.2.2.2.1 s.2.2.2.2.1 s.2.2.2.2.2.1) := by kernel_rfl
  exact Calls.mono (calls_of _ e h) (onRet_mono (fun _ _ h => by obtain ⟨s, h1, h2⟩ := decA_spec h; exact ⟨s.1, s.2.1, s.2.2.1, s.2.2.2.1, s.2.2.2.2.1, s.2.2.2.2.2.1, h1, h2⟩))

-- 14 prelude/vm.Run; callees ['vm_New', 'vm_Machine_Step', 'vm_Machine_Effect']
def sh_vm_Run (c_vm_New : Int → Int → Int → Int → Slc → Slc → Slc → World → (Option Addr → Int → World → Prop) → Prop) (c_vm_Machine_Step : Option Addr → World → (Bool → World → Prop) → Prop) (c_vm_Machine_Effect : Option Addr → World → (Bool → Int → Int → Slc → Slc → Int → World → Prop) → Prop) (p_0_0 : Int) (p_0_1 : Int) (p_0_2 : Int) (p_0_3 : Int) (p_0_4 : Slc) (args_1 : Slc) (reads_2 : Slc) (w : World) (K : Bool → Int → Int → Slc → Slc → Int → Int → World → Prop) : Prop :=
  newP #[.int .i64 p_0_0, .int .i64 p_0_1, .int .i64 p_0_2, .int .i64 p_0_3, .slice p_0_4.a p_0_4.l p_0_4.c] 50 w fun a1 w2 => newP #[.bool false, .int .i64 0, .int .i64 0, .slice none 0 0, .slice none 0 0, .int .i64 0] 56 w2 fun a3 w4 => ldI .i64 a1 w4 fun n5 => ldI .i64 (a1.add 1) w4 fun n6 => ldI .i64 (a1.add 2) w4 fun n7 => ldI .i64 (a1.add 3) w4 fun n8 => ldS (a1.add 4) w4 fun s9 => c_vm_New n5 n6 n7 n8 s9 args_1 reads_2 w4 fun r10 r11 w12 => iteB ((r11 : Int) != 0)
  (stP a3 (.bool false) w12 fun w13 => stP (a3.add 1) (.int .i64 0) w13 fun w14 => stP (a3.add 2) (.int .i64 0) w14 fun w15 => stP (a3.add 3) (.slice none 0 0) w15 fun w16 => stP (a3.add 4) (.slice none 0 0) w16 fun w17 => stP (a3.add 5) (.int .i64 0) w17 fun w18 => ldB a3 w18 fun t19 => ldI .i64 (a3.add 1) w18 fun n20 => ldI .i64 (a3.add 2) w18 fun n21 => ldS (a3.add 3) w18 fun s22 => ldS (a3.add 4) w18 fun s23 => ldI .i64 (a3.add 5) w18 fun n24 => K t19 n20 n21 s22 s23 n24 r11 w18)
  (loopP (σ := Unit) (fun st26 next25 w27 => c_vm_Machine_Step r10 w27 fun r28 w29 => iteB r28
  (next25 (()) w29)
  (c_vm_Machine_Effect r10 w29 fun r30 r31 r32 r33 r34 r35 w36 => stP a3 (.bool r30) w36 fun w37 => stP (a3.add 1) (.int .i64 r31) w37 fun w38 => stP (a3.add 2) (.int .i64 r32) w38 fun w39 => stP (a3.add 3) (.slice r33.a r33.l r33.c) w39 fun w40 => stP (a3.add 4) (.slice r34.a r34.l r34.c) w40 fun w41 => stP (a3.add 5) (.int .i64 r35) w41 fun w42 => ldB a3 w42 fun t43 => ldI .i64 (a3.add 1) w42 fun n44 => ldI .i64 (a3.add 2) w42 fun n45 => ldS (a3.add 3) w42 fun s46 => ldS (a3.add 4) w42 fun s47 => ldI .i64 (a3.add 5) w42 fun n48 => K t43 n44 n45 s46 s47 n48 0 w42)) (()) w12)

def c_vm_Run (p_0_0 : Int) (p_0_1 : Int) (p_0_2 : Int) (p_0_3 : Int) (p_0_4 : Slc) (args_1 : Slc) (reads_2 : Slc) (w : World) (K : Bool → Int → Int → Slc → Slc → Int → Int → World → Prop) : Prop := Calls Tryz.prog 14 #[.agg #[.int .i64 p_0_0, .int .i64 p_0_1, .int .i64 p_0_2, .int .i64 p_0_3, .slice p_0_4.a p_0_4.l p_0_4.c], .slice args_1.a args_1.l args_1.c, .slice reads_2.a reads_2.l reads_2.c] w (onRet (fun v w' => ∃ (y0 : Bool), ∃ (y1 : Int), ∃ (y2 : Int), ∃ (y3 : Slc), ∃ (y4 : Slc), ∃ (y5 : Int), ∃ (y6 : Int), v = .tuple #[.agg #[.bool y0, .int .i64 y1, .int .i64 y2, .slice y3.a y3.l y3.c, .slice y4.a y4.l y4.c, .int .i64 y5], .int .i64 y6] ∧ K y0 y1 y2 y3 y4 y5 y6 w'))

theorem sim_vm_Run {p_0_0 : Int} {p_0_1 : Int} {p_0_2 : Int} {p_0_3 : Int} {p_0_4 : Slc} {args_1 : Slc} {reads_2 : Slc} {w : World} {K : Bool → Int → Int → Slc → Slc → Int → Int → World → Prop} (h : sh_vm_Run c_vm_New c_vm_Machine_Step c_vm_Machine_Effect p_0_0 p_0_1 p_0_2 p_0_3 p_0_4 args_1 reads_2 w K) : c_vm_Run p_0_0 p_0_1 p_0_2 p_0_3 p_0_4 args_1 reads_2 w K := by
  have e : sh_vm_Run c_vm_New c_vm_Machine_Step c_vm_Machine_Effect p_0_0 p_0_1 p_0_2 p_0_3 p_0_4 args_1 reads_2 w K = shF Tryz.prog 14 ⟨[], [(5, [], [6, 8, 10])], []⟩ [.agg #[.int .i64 p_0_0, .int .i64 p_0_1, .int .i64 p_0_2, .int .i64 p_0_3, .slice p_0_4.a p_0_4.l p_0_4.c], .slice args_1.a args_1.l args_1.c, .slice reads_2.a reads_2.l reads_2.c] w (fun v w' => decT [(true, [.b, (.int .i64), (.int .i64), .sl, .sl, (.int .i64)]), (false, [(.int .i64)])] v fun s => (fun (y0 : Bool) (y1 : Int) (y2 : Int) (y3 : Slc) (y4 : Slc) (y5 : Int) (y6 : Int) => K y0 y1 y2 y3 y4 y5 y6 w') s.1 s.2.1 s.2.2.1 s.2.2.2.1 s.2.2.2.2.1 s.2.2.2.2.2.1 s.2.2.2.2.2.2.1) := by kernel_rfl
  exact Calls.mono (calls_of _ e h) (onRet_mono (fun _ _ h => by obtain ⟨s, h1, h2⟩ := decT_spec h; exact ⟨s.1, s.2.1, s.2.2.1, s.2.2.2.1, s.2.2.2.2.1, s.2.2.2.2.2.1, s.2.2.2.2.2.2.1, h1, h2⟩))

-- 15 prelude/lang.Longest; callees ['lang_Verify', 'lang_ways']
def sh_lang_Longest (c_lang_Verify : Int → Int → Int → Int → Slc → World → (Int → World → Prop) → Prop) (c_lang_ways : Int → Int → Int → World → (Slc → World → Prop) → Prop) (p_0_0 : Int) (p_0_1 : Int) (p_0_2 : Int) (p_0_3 : Int) (p_0_4 : Slc) (w : World) (K : Int → Int → World → Prop) : Prop :=
  newP #[.int .i64 p_0_0, .int .i64 p_0_1, .int .i64 p_0_2, .int .i64 p_0_3, .slice p_0_4.a p_0_4.l p_0_4.c] 50 w fun a1 w2 => ldI .i64 a1 w2 fun n3 => ldI .i64 (a1.add 1) w2 fun n4 => ldI .i64 (a1.add 2) w2 fun n5 => ldI .i64 (a1.add 3) w2 fun n6 => ldS (a1.add 4) w2 fun s7 => c_lang_Verify n3 n4 n5 n6 s7 w2 fun r8 w9 => iteB ((r8 : Int) != 0)
  (K 0 r8 w9)
  (ldS (a1.add 4) w9 fun s10 => mkP Tryz.prog 99 (.int .i64 (IntKind.i64.wrap ((s10.l : Int) + 1))) (.int .i64 (IntKind.i64.wrap ((s10.l : Int) + 1))) w9 fun s11 w12 => ldS (a1.add 4) w12 fun s13 => loopP (σ := Int × Unit) (fun st15 next14 w16 => (fun (at_17 : Int) => iteB (decide ((at_17 : Int) ≥ 0))
  (ldS (a1.add 4) w16 fun s18 => idxP s18.a s18.l at_17 2 fun a19 => ldI .i64 a19 w16 fun n20 => ldI .i64 (a19.add 1) w16 fun n21 => c_lang_ways n20 n21 at_17 w16 fun r22 w23 => loopP (σ := Int × Unit) (fun st25 next24 w26 => (fun (x27 : Int) => iteB (decide ((x27 : Int) < (r22.l : Int)))
  (idxP r22.a r22.l x27 1 fun a28 => ldI .i64 a28 w26 fun n29 => idxP s11.a s11.l at_17 1 fun a30 => ldI .i64 a30 w26.drew fun n31 => idxP s11.a s11.l n29 1 fun a32 => ldI .i64 a32 w26.drew fun n33 => idxP s11.a s11.l at_17 1 fun a34 => stP a34 (.int .i64 (if (n33 : Int) > n31 then n33 else n31)) w26.drew fun w35 => next24 ((IntKind.i64.wrap (x27 + 1)), ()) w35)
  (idxP s11.a s11.l at_17 1 fun a36 => ldI .i64 a36 w26 fun n37 => idxP s11.a s11.l at_17 1 fun a38 => stP a38 (.int .i64 (IntKind.i64.wrap (n37 + 1))) w26 fun w39 => next14 ((IntKind.i64.wrap (at_17 - 1)), ()) w39)) st25.1) (0, ()) w23)
  (idxP s11.a s11.l 0 1 fun a40 => ldI .i64 a40 w16 fun n41 => K n41 0 w16)) st15.1) ((IntKind.i64.wrap ((s13.l : Int) - 1)), ()) w12)

def c_lang_Longest (p_0_0 : Int) (p_0_1 : Int) (p_0_2 : Int) (p_0_3 : Int) (p_0_4 : Slc) (w : World) (K : Int → Int → World → Prop) : Prop := Calls Tryz.prog 15 #[.agg #[.int .i64 p_0_0, .int .i64 p_0_1, .int .i64 p_0_2, .int .i64 p_0_3, .slice p_0_4.a p_0_4.l p_0_4.c]] w (onRet (fun v w' => ∃ (y0 : Int), ∃ (y1 : Int), v = .tuple #[.int .i64 y0, .int .i64 y1] ∧ K y0 y1 w'))

theorem sim_lang_Longest {p_0_0 : Int} {p_0_1 : Int} {p_0_2 : Int} {p_0_3 : Int} {p_0_4 : Slc} {w : World} {K : Int → Int → World → Prop} (h : sh_lang_Longest c_lang_Verify c_lang_ways p_0_0 p_0_1 p_0_2 p_0_3 p_0_4 w K) : c_lang_Longest p_0_0 p_0_1 p_0_2 p_0_3 p_0_4 w K := by
  have e : sh_lang_Longest c_lang_Verify c_lang_ways p_0_0 p_0_1 p_0_2 p_0_3 p_0_4 w K = shF Tryz.prog 15 ⟨[(11, .of [0, 1, 2, 3, 4, 5, 6, 7, 8, 9, 10, 11, 12])], [(6, [(6, (.int .i64))], [1, 5]), (9, [(35, (.int .i64))], [1, 5, 6, 33, 34])], []⟩ [.agg #[.int .i64 p_0_0, .int .i64 p_0_1, .int .i64 p_0_2, .int .i64 p_0_3, .slice p_0_4.a p_0_4.l p_0_4.c]] w (fun v w' => decT [(false, [(.int .i64)]), (false, [(.int .i64)])] v fun s => (fun (y0 : Int) (y1 : Int) => K y0 y1 w') s.1 s.2.1) := by kernel_rfl
  exact Calls.mono (calls_of _ e h) (onRet_mono (fun _ _ h => by obtain ⟨s, h1, h2⟩ := decT_spec h; exact ⟨s.1, s.2.1, h1, h2⟩))

-- 16 prelude/batch.Weight; callees []
def sh_batch_Weight (b_0 : Slc) (w : World) (K : Int → World → Prop) : Prop :=
  loopP (σ := Int × Int × Unit) (fun st2 next1 w3 => (fun (n_4 : Int) (x5 : Int) => iteB (decide ((x5 : Int) < (b_0.l : Int)))
  (idxP b_0.a b_0.l x5 4 fun a6 => ldI .i64 a6 w3 fun n7 => ldS (a6.add 1) w3 fun s8 => ldS (a6.add 2) w3 fun s9 => ldS (a6.add 3) w3 fun s10 => newP #[.int .i64 0, .slice none 0 0, .slice none 0 0, .slice none 0 0] 46 w3 fun a11 w12 => stP a11 (.int .i64 n7) w12 fun w13 => stP (a11.add 1) (.slice s8.a s8.l s8.c) w13 fun w14 => stP (a11.add 2) (.slice s9.a s9.l s9.c) w14 fun w15 => stP (a11.add 3) (.slice s10.a s10.l s10.c) w15 fun w16 => ldS (a11.add 3) w16 fun s17 => next1 ((IntKind.i64.wrap (n_4 + (s17.l : Int))), (IntKind.i64.wrap (x5 + 1)), ()) w16)
  (K n_4 w3)) st2.1 st2.2.1) (0, 0, ()) w

def c_batch_Weight (b_0 : Slc) (w : World) (K : Int → World → Prop) : Prop := Calls Tryz.prog 16 #[.slice b_0.a b_0.l b_0.c] w (onRet (fun v w' => ∃ (y0 : Int), v = .int .i64 y0 ∧ K y0 w'))

theorem sim_batch_Weight {b_0 : Slc} {w : World} {K : Int → World → Prop} (h : sh_batch_Weight b_0 w K) : c_batch_Weight b_0 w K := by
  have e : sh_batch_Weight b_0 w K = shF Tryz.prog 16 ⟨[], [(3, [(3, (.int .i64)), (8, (.int .i64))], [6, 7])], []⟩ [.slice b_0.a b_0.l b_0.c] w (fun v w' => decV (.int .i64) v fun y0 => K y0 w') := by kernel_rfl
  exact Calls.mono (calls_of _ e h) (onRet_mono (fun _ _ h => decV_spec h))

-- 3 prelude/preludelaw06.BatchRuns; callees ['preluderef04_Parts', 'preludelaw06_works', 'lang_Check', 'batch_Accept', 'preludelaw06_num', 'preludelaw06_lent', 'batch_Encode', 'preludelaw06_sameBytes', 'batch_Writes', 'keys_Rises', 'vm_Run', 'lang_Longest', 'batch_Weight']
def sh_preludelaw06_BatchRuns (c_preluderef04_Parts : Slc → Int → World → (Int → World → Prop) → Prop) (c_preludelaw06_works : World → (Bool → World → Prop) → Prop) (c_lang_Check : Slc → World → (Int → Int → World → Prop) → Prop) (c_batch_Accept : Slc → Slc → World → (Slc → Value → World → Prop) → Prop) (c_preludelaw06_num : Int → World → (Int → World → Prop) → Prop) (c_preludelaw06_lent : Slc → World → (Slc → World → Prop) → Prop) (c_batch_Encode : Slc → World → (Slc → Int → World → Prop) → Prop) (c_preludelaw06_sameBytes : Slc → Slc → World → (Bool → World → Prop) → Prop) (c_batch_Writes : Slc → World → (Slc → World → Prop) → Prop) (c_keys_Rises : Slc → World → (Bool → World → Prop) → Prop) (c_vm_Run : Int → Int → Int → Int → Slc → Slc → Slc → World → (Bool → Int → Int → Slc → Slc → Int → Int → World → Prop) → Prop) (c_lang_Longest : Int → Int → Int → Int → Slc → World → (Int → Int → World → Prop) → Prop) (c_batch_Weight : Slc → World → (Int → World → Prop) → Prop) (x_0 : Slc) (x_1 : Slc) (x_2_0 : Bool) (x_2_1 : Int) (w : World) (K : Bool → World → Prop) : Prop :=
  newP #[.bool x_2_0, .int .i64 x_2_1] 25 w fun a1 w2 => c_preluderef04_Parts x_0 100000 w2 fun r3 w4 => iteB (decide ((r3 : Int) < 0))
  (K true w4)
  (c_preludelaw06_works  w4 fun r5 w6 => iteB (!r5)
  (K false w6)
  (c_lang_Check x_0 w6 fun r7 r8 w9 => newP #[] 5 w9 fun a10 w11 => apP Tryz.prog #[23, 23] 23 [.slice (some a10) 0 0, .slice x_1.a x_1.l x_1.c] w11 fun s13 w12 => c_batch_Accept x_0 s13 w12 fun r14 r15 w16 => nilI r15 fun b17 => iteB (!b17)
  (nilI r15 fun b18 => iteB b18
  (K true w16)
  (K (((r14.l : Int) : Int) == 0) w16))
  (c_preludelaw06_num r8 w16 fun r19 w20 => iteB ((r19 : Int) != 0)
  (nilI r15 fun b21 => iteB b21
  (K true w20)
  (K (((r14.l : Int) : Int) == 0) w20))
  (c_preludelaw06_lent r14 w20 fun r22 w23 => c_batch_Encode r22 w23 fun r24 r25 w26 => c_preludelaw06_num r25 w26 fun r27 w28 => iteB ((r27 : Int) != 0)
  (K false w28)
  (c_preludelaw06_sameBytes r24 x_1 w28 fun r29 w30 => iteB (!r29)
  (K false w30)
  (c_batch_Writes r14 w30 fun r31 w32 => iteB (((r31.l : Int) : Int) != (r14.l : Int))
  (K false w32)
  (loopP (σ := Int × Int × Unit) (fun st34 next33 w35 => (fun (x36 : Int) (x37 : Int) => iteB (decide ((x37 : Int) < (r14.l : Int)))
  (idxP r14.a r14.l x37 4 fun a38 => ldI .i64 a38 w35 fun n39 => iteB (decide ((n39 : Int) < 0))
  (K false w35)
  (idxP r14.a r14.l x37 4 fun a40 => ldI .i64 a40 w35 fun n41 => iteB (decide ((n41 : Int) ≥ (x_0.l : Int)))
  (K false w35)
  (idxP r14.a r14.l x37 4 fun a42 => ldS (a42.add 2) w35 fun s43 => c_keys_Rises s43 w35 fun r44 w45 => iteB (!r44)
  (K false w45)
  (idxP r14.a r14.l x37 4 fun a46 => ldS (a46.add 3) w45 fun s47 => c_keys_Rises s47 w45 fun r48 w49 => iteB (!r48)
  (K false w49)
  (idxP r14.a r14.l x37 4 fun a50 => ldI .i64 a50 w49 fun n51 => idxP x_0.a x_0.l n51 6 fun a52 => ldI .i64 (a52.add 1) w49 fun n53 => ldI .i64 ((a52.add 1).add 1) w49 fun n54 => ldI .i64 ((a52.add 1).add 2) w49 fun n55 => ldI .i64 ((a52.add 1).add 3) w49 fun n56 => ldS ((a52.add 1).add 4) w49 fun s57 => newP #[.int .i64 0, .int .i64 0, .int .i64 0, .int .i64 0, .slice none 0 0] 50 w49 fun a58 w59 => stP a58 (.int .i64 n53) w59 fun w60 => stP (a58.add 1) (.int .i64 n54) w60 fun w61 => stP (a58.add 2) (.int .i64 n55) w61 fun w62 => stP (a58.add 3) (.int .i64 n56) w62 fun w63 => stP (a58.add 4) (.slice s57.a s57.l s57.c) w63 fun w64 => loopP (σ := Slc × Int × Unit) (fun st66 next65 w67 => (fun (x68 : Slc) (x69 : Int) => idxP r14.a r14.l x37 4 fun a70 => ldS (a70.add 2) w67 fun s71 => iteB (decide ((x69 : Int) < (s71.l : Int)))
  (ldB a1 w67 fun t72 => ldI .i64 (a1.add 1) w67 fun n73 => newP #[.bool t72, .int .i64 n73] 25 w67 fun a74 w75 => apP Tryz.prog #[53, 53] 53 [.slice x68.a x68.l x68.c, .slice (some a74) 1 1] w75 fun s77 w76 => next65 (s77, (IntKind.i64.wrap (x69 + 1)), ()) w76)
  (ldI .i64 a58 w67.drew fun n78 => ldI .i64 (a58.add 1) w67.drew fun n79 => ldI .i64 (a58.add 2) w67.drew fun n80 => ldI .i64 (a58.add 3) w67.drew fun n81 => ldS (a58.add 4) w67.drew fun s82 => idxP r14.a r14.l x37 4 fun a83 => ldS (a83.add 1) w67.drew fun s84 => (c_vm_Run n78 n79 n80 n81 s82 s84 x68 w67.drew fun r85 r86 r87 r88 r89 r90 r91 w92 => newP #[.bool false, .int .i64 0, .int .i64 0, .slice none 0 0, .slice none 0 0, .int .i64 0] 56 w92 fun a93 w94 => stP a93 (.bool r85) w94 fun w95 => stP (a93.add 1) (.int .i64 r86) w95 fun w96 => stP (a93.add 2) (.int .i64 r87) w96 fun w97 => stP (a93.add 3) (.slice r88.a r88.l r88.c) w97 fun w98 => stP (a93.add 4) (.slice r89.a r89.l r89.c) w98 fun w99 => stP (a93.add 5) (.int .i64 r90) w99 fun w100 => ldI .i64 a58 w100 fun n101 => ldI .i64 (a58.add 1) w100 fun n102 => ldI .i64 (a58.add 2) w100 fun n103 => ldI .i64 (a58.add 3) w100 fun n104 => ldS (a58.add 4) w100 fun s105 => c_lang_Longest n101 n102 n103 n104 s105 w100 fun r106 r107 w108 => c_preludelaw06_num r91 w108.drew fun r109 w110 => iteB ((r109 : Int) != 0)
  (K false w110)
  (c_preludelaw06_num r107 w110 fun r111 w112 => iteB ((r111 : Int) != 0)
  (K false w112)
  (ldS (a93.add 4) w112 fun s113 => idxP r14.a r14.l x37 4 fun a114 => ldS (a114.add 3) w112 fun s115 => iteB (((s113.l : Int) : Int) != (s115.l : Int))
  (K false w112)
  (ldI .i64 (a93.add 5) w112 fun n116 => iteB (decide ((n116 : Int) > r106))
  (K false w112)
  (idxP r14.a r14.l x37 4 fun a117 => ldS (a117.add 3) w112 fun s118 => next33 ((IntKind.i64.wrap (x36 + (s118.l : Int))), (IntKind.i64.wrap (x37 + 1)), ()) w112))))) ∧ (newP #[.bool false, .int .i64 0, .int .i64 0, .slice none 0 0, .slice none 0 0, .int .i64 0] 56 w67.drew fun a119 w120 => w120.cell? (a83.add 1) = some (.slice s84.a s84.l s84.c) ∧ (w120.cell? a58 = some (.int .i64 n78) ∧ w120.cell? (a58.add 1) = some (.int .i64 n79) ∧ w120.cell? (a58.add 2) = some (.int .i64 n80) ∧ w120.cell? (a58.add 3) = some (.int .i64 n81) ∧ w120.cell? (a58.add 4) = some (.slice s82.a s82.l s82.c) ∧ True) ∧ (c_vm_Run n78 n79 n80 n81 s82 s84 x68 w120 fun r121 r122 r123 r124 r125 r126 r127 w128 => stP a119 (.bool r121) w128 fun w129 => stP (a119.add 1) (.int .i64 r122) w129 fun w130 => stP (a119.add 2) (.int .i64 r123) w130 fun w131 => stP (a119.add 3) (.slice r124.a r124.l r124.c) w131 fun w132 => stP (a119.add 4) (.slice r125.a r125.l r125.c) w132 fun w133 => stP (a119.add 5) (.int .i64 r126) w133 fun w134 => ldI .i64 a58 w134 fun n135 => ldI .i64 (a58.add 1) w134 fun n136 => ldI .i64 (a58.add 2) w134 fun n137 => ldI .i64 (a58.add 3) w134 fun n138 => ldS (a58.add 4) w134 fun s139 => c_lang_Longest n135 n136 n137 n138 s139 w134 fun r140 r141 w142 => c_preludelaw06_num r127 w142.drew fun r143 w144 => iteB ((r143 : Int) != 0)
  (K false w144)
  (c_preludelaw06_num r141 w144 fun r145 w146 => iteB ((r145 : Int) != 0)
  (K false w146)
  (ldS (a119.add 4) w146 fun s147 => idxP r14.a r14.l x37 4 fun a148 => ldS (a148.add 3) w146 fun s149 => iteB (((s147.l : Int) : Int) != (s149.l : Int))
  (K false w146)
  (ldI .i64 (a119.add 5) w146 fun n150 => iteB (decide ((n150 : Int) > r140))
  (K false w146)
  (idxP r14.a r14.l x37 4 fun a151 => ldS (a151.add 3) w146 fun s152 => next33 ((IntKind.i64.wrap (x36 + (s152.l : Int))), (IntKind.i64.wrap (x37 + 1)), ()) w146)))))))) st66.1 st66.2.1) (⟨none, 0, 0⟩, 0, ()) w64)))))
  (c_batch_Weight r14 w35 fun r153 w154 => K ((r153 : Int) == x36) w154)) st34.1 st34.2.1) (0, 0, ()) w32)))))))

def c_preludelaw06_BatchRuns (x_0 : Slc) (x_1 : Slc) (x_2_0 : Bool) (x_2_1 : Int) (w : World) (K : Bool → World → Prop) : Prop := Calls Tryz.prog 3 #[.slice x_0.a x_0.l x_0.c, .slice x_1.a x_1.l x_1.c, .agg #[.bool x_2_0, .int .i64 x_2_1]] w (onRet (fun v w' => ∃ (y0 : Bool), v = .bool y0 ∧ K y0 w'))

theorem sim_preludelaw06_BatchRuns {x_0 : Slc} {x_1 : Slc} {x_2_0 : Bool} {x_2_1 : Int} {w : World} {K : Bool → World → Prop} (h : sh_preludelaw06_BatchRuns c_preluderef04_Parts c_preludelaw06_works c_lang_Check c_batch_Accept c_preludelaw06_num c_preludelaw06_lent c_batch_Encode c_preludelaw06_sameBytes c_batch_Writes c_keys_Rises c_vm_Run c_lang_Longest c_batch_Weight x_0 x_1 x_2_0 x_2_1 w K) : c_preludelaw06_BatchRuns x_0 x_1 x_2_0 x_2_1 w K := by
  have e : sh_preludelaw06_BatchRuns c_preluderef04_Parts c_preludelaw06_works c_lang_Check c_batch_Accept c_preludelaw06_num c_preludelaw06_lent c_batch_Encode c_preludelaw06_sameBytes c_batch_Writes c_keys_Rises c_vm_Run c_lang_Longest c_batch_Weight x_0 x_1 x_2_0 x_2_1 w K = shF Tryz.prog 3 ⟨[(24, (.one 0 (.one 1 (.one 2 (.one 3 (.one 4 (.one 5 (.one 6 (.alt 7 11 (.of [8, 9, 10, 11, 12, 13]) (.of [7, 8, 9, 10, 12, 13])))))))))), (26, .of [0, 1, 2, 3, 4, 5, 6, 7, 8, 9, 10, 11, 12, 13, 14, 15, 16, 17, 18, 19, 20, 21, 22, 23, 24, 25])], [(14, [(13, (.int .i64)), (14, (.int .i64))], [0, 5, 9]), (21, [(16, .sl), (17, (.int .i64))], [0, 5, 9, 13, 14, 15])], []⟩ [.slice x_0.a x_0.l x_0.c, .slice x_1.a x_1.l x_1.c, .agg #[.bool x_2_0, .int .i64 x_2_1]] w (fun v w' => decV .b v fun y0 => K y0 w') := by kernel_rfl
  exact Calls.mono (calls_of _ e h) (onRet_mono (fun _ _ h => decV_spec h))

-- 24 prelude/batch.formed; callees ['keys_Rises']
def sh_batch_formed (c_keys_Rises : Slc → World → (Bool → World → Prop) → Prop) (x_0_0 : Int) (x_0_1 : Slc) (x_0_2 : Slc) (x_0_3 : Slc) (w : World) (K : Int → World → Prop) : Prop :=
  newP #[.int .i64 x_0_0, .slice x_0_1.a x_0_1.l x_0_1.c, .slice x_0_2.a x_0_2.l x_0_2.c, .slice x_0_3.a x_0_3.l x_0_3.c] 46 w fun a1 w2 => ldI .i64 a1 w2 fun n3 => iteB (decide ((n3 : Int) < 0))
  (K 61 w2)
  (ldI .i64 a1 w2 fun n4 => iteB (decide ((n4 : Int) ≥ 64))
  (K 61 w2)
  (ldS (a1.add 1) w2 fun s5 => iteB (decide (((s5.l : Int) : Int) > 16))
  (K 62 w2)
  (ldS (a1.add 2) w2 fun s6 => iteB (decide (((s6.l : Int) : Int) > 16))
  (K 63 w2)
  (ldS (a1.add 3) w2 fun s7 => iteB (decide (((s7.l : Int) : Int) > 16))
  (K 64 w2)
  (ldS (a1.add 2) w2 fun s8 => c_keys_Rises s8 w2 fun r9 w10 => iteB (!r9)
  (K 65 w10)
  (ldS (a1.add 3) w10 fun s11 => c_keys_Rises s11 w10 fun r12 w13 => iteB (!r12)
  (K 65 w13)
  (K 0 w13)))))))

def c_batch_formed (x_0_0 : Int) (x_0_1 : Slc) (x_0_2 : Slc) (x_0_3 : Slc) (w : World) (K : Int → World → Prop) : Prop := Calls Tryz.prog 24 #[.agg #[.int .i64 x_0_0, .slice x_0_1.a x_0_1.l x_0_1.c, .slice x_0_2.a x_0_2.l x_0_2.c, .slice x_0_3.a x_0_3.l x_0_3.c]] w (onRet (fun v w' => ∃ (y0 : Int), v = .int .i64 y0 ∧ K y0 w'))

theorem sim_batch_formed {x_0_0 : Int} {x_0_1 : Slc} {x_0_2 : Slc} {x_0_3 : Slc} {w : World} {K : Int → World → Prop} (h : sh_batch_formed c_keys_Rises x_0_0 x_0_1 x_0_2 x_0_3 w K) : c_batch_formed x_0_0 x_0_1 x_0_2 x_0_3 w K := by
  have e : sh_batch_formed c_keys_Rises x_0_0 x_0_1 x_0_2 x_0_3 w K = shF Tryz.prog 24 ⟨[], [], []⟩ [.agg #[.int .i64 x_0_0, .slice x_0_1.a x_0_1.l x_0_1.c, .slice x_0_2.a x_0_2.l x_0_2.c, .slice x_0_3.a x_0_3.l x_0_3.c]] w (fun v w' => decV (.int .i64) v fun y0 => K y0 w') := by kernel_rfl
  exact Calls.mono (calls_of _ e h) (onRet_mono (fun _ _ h => decV_spec h))

-- 43 prelude/batch.Decode$1; callees []
def shN_batch_Decode_1 (cap_0 : Addr) (cap_1 : Addr) (cap_2 : Addr) (w : World) (K : World → Prop) : Prop :=
  K w

theorem simN_batch_Decode_1 {cap_0 : Addr} {cap_1 : Addr} {cap_2 : Addr} {w : World} {K : World → Prop} (h : shN_batch_Decode_1 cap_0 cap_1 cap_2 w K) : CallsD Tryz.prog 43 #[.pointer (some cap_0), .pointer (some cap_1), .pointer (some cap_2)] .returning w (fun en u' w' => u' = (recov .returning).2 ∧ onRet (fun v w' => v = .tuple #[] ∧ K w') en w') := by
  have e : shN_batch_Decode_1 cap_0 cap_1 cap_2 w K = shFR Tryz.prog 43 ⟨[], [], []⟩ [.pointer (some cap_0), .pointer (some cap_1), .pointer (some cap_2)] (recov .returning).1 w (fun v w' => decU v (K w')) := by kernel_rfl
  exact CallsD.mono (callsR_of (u := .returning) _ e h) (fun en u' w' hx => ⟨hx.1, onRet_mono (fun _ _ h => decU_spec h) _ _ hx.2⟩)

def shR_batch_Decode_1 (x_0 : Int) (x_1 : Int) (cap_0 : Addr) (cap_1 : Addr) (cap_2 : Addr) (w : World) (K : World → Prop) : Prop :=
  (∃ (r1 : Int), ∃ (r2 : Int), ∃ (r3 : Bool), ∃ w4, (Instr.typeAssert (.iface 108 (.agg #[.int .i64 x_0, .int .i64 x_1])) 20 108 true).run Tryz.prog w = .ok (.tuple #[.agg #[.int .i64 r1, .int .i64 r2], .bool r3]) w4 ∧ (newP #[.int .i64 0, .int .i64 0] 108 w4 fun a5 w6 => stP a5 (.int .i64 r1) w6 fun w7 => stP (a5.add 1) (.int .i64 r2) w7 fun w8 => iteB (!r3)
  (panP (.iface 108 (.agg #[.int .i64 x_0, .int .i64 x_1])) noP w8)
  (ldI .i64 a5 w8.drew fun n9 => ldI .i64 (a5.add 1) w8.drew fun n10 => stP cap_0 (.slice none 0 0) w8.drew fun w11 => w11.cell? (a5.add 1) = some (.int .i64 n10) ∧ w11.cell? a5 = some (.int .i64 n9) ∧ (stP cap_1 (.int .i64 n9) w11 fun w12 => w12.cell? (a5.add 1) = some (.int .i64 n10) ∧ (stP cap_2 (.int .i64 n10) w12 fun w13 => K w13)))))

theorem simR_batch_Decode_1 {x_0 : Int} {x_1 : Int} {cap_0 : Addr} {cap_1 : Addr} {cap_2 : Addr} {older : List PanicEntry} {w : World} {K : World → Prop} (h : shR_batch_Decode_1 x_0 x_1 cap_0 cap_1 cap_2 w K) : CallsD Tryz.prog 43 #[.pointer (some cap_0), .pointer (some cap_1), .pointer (some cap_2)] (.panicking ({ v := .iface 108 (.agg #[.int .i64 x_0, .int .i64 x_1]), recovered := false, goexit := false } :: older)) w (fun en u' w' => u' = (recov (.panicking ({ v := .iface 108 (.agg #[.int .i64 x_0, .int .i64 x_1]), recovered := false, goexit := false } :: older))).2 ∧ onRet (fun v w' => v = .tuple #[] ∧ K w') en w') := by
  have e : shR_batch_Decode_1 x_0 x_1 cap_0 cap_1 cap_2 w K = shFR Tryz.prog 43 ⟨[(5, .of [0, 1, 2, 3, 4, 5, 6])], [], []⟩ [.pointer (some cap_0), .pointer (some cap_1), .pointer (some cap_2)] (recov (.panicking ({ v := .iface 108 (.agg #[.int .i64 x_0, .int .i64 x_1]), recovered := false, goexit := false } :: older))).1 w (fun v w' => decU v (K w')) := by kernel_rfl
  exact CallsD.mono (callsR_of (u := (.panicking ({ v := .iface 108 (.agg #[.int .i64 x_0, .int .i64 x_1]), recovered := false, goexit := false } :: older))) _ e h) (fun en u' w' hx => ⟨hx.1, onRet_mono (fun _ _ h => decU_spec h) _ _ hx.2⟩)

-- 50 prelude/batch.fits; callees ['batch_formed']
def sh_batch_fits (c_batch_formed : Int → Slc → Slc → Slc → World → (Int → World → Prop) → Prop) (lib_0 : Slc) (x_1_0 : Int) (x_1_1 : Slc) (x_1_2 : Slc) (x_1_3 : Slc) (w : World) (K : Int → World → Prop) : Prop :=
  newP #[.int .i64 x_1_0, .slice x_1_1.a x_1_1.l x_1_1.c, .slice x_1_2.a x_1_2.l x_1_2.c, .slice x_1_3.a x_1_3.l x_1_3.c] 46 w fun a1 w2 => ldI .i64 a1 w2 fun n3 => iteB (decide ((n3 : Int) < 0))
  (K 61 w2)
  (ldI .i64 a1 w2 fun n4 => iteB (decide ((n4 : Int) ≥ (lib_0.l : Int)))
  (K 61 w2)
  (ldI .i64 a1 w2 fun n5 => idxP lib_0.a lib_0.l n5 6 fun a6 => ldI .i64 (a6.add 1) w2 fun n7 => ldI .i64 ((a6.add 1).add 1) w2 fun n8 => ldI .i64 ((a6.add 1).add 2) w2 fun n9 => ldI .i64 ((a6.add 1).add 3) w2 fun n10 => ldS ((a6.add 1).add 4) w2 fun s11 => newP #[.int .i64 0, .int .i64 0, .int .i64 0, .int .i64 0, .slice none 0 0] 50 w2 fun a12 w13 => stP a12 (.int .i64 n7) w13 fun w14 => stP (a12.add 1) (.int .i64 n8) w14 fun w15 => stP (a12.add 2) (.int .i64 n9) w15 fun w16 => stP (a12.add 3) (.int .i64 n10) w16 fun w17 => stP (a12.add 4) (.slice s11.a s11.l s11.c) w17 fun w18 => ldS (a1.add 1) w18 fun s19 => ldI .i64 a12 w18 fun n20 => iteB (((s19.l : Int) : Int) != n20)
  (K 62 w18)
  (ldS (a1.add 2) w18 fun s21 => ldI .i64 (a12.add 1) w18 fun n22 => iteB (((s21.l : Int) : Int) != n22)
  (K 63 w18)
  (ldS (a1.add 3) w18 fun s23 => ldI .i64 (a12.add 2) w18 fun n24 => iteB (((s23.l : Int) : Int) != n24)
  (K 64 w18)
  (ldI .i64 a1 w18 fun n25 => ldS (a1.add 1) w18 fun s26 => ldS (a1.add 2) w18 fun s27 => ldS (a1.add 3) w18 fun s28 => c_batch_formed n25 s26 s27 s28 w18 fun r29 w30 => K r29 w30)))))

def c_batch_fits (lib_0 : Slc) (x_1_0 : Int) (x_1_1 : Slc) (x_1_2 : Slc) (x_1_3 : Slc) (w : World) (K : Int → World → Prop) : Prop := Calls Tryz.prog 50 #[.slice lib_0.a lib_0.l lib_0.c, .agg #[.int .i64 x_1_0, .slice x_1_1.a x_1_1.l x_1_1.c, .slice x_1_2.a x_1_2.l x_1_2.c, .slice x_1_3.a x_1_3.l x_1_3.c]] w (onRet (fun v w' => ∃ (y0 : Int), v = .int .i64 y0 ∧ K y0 w'))

theorem sim_batch_fits {lib_0 : Slc} {x_1_0 : Int} {x_1_1 : Slc} {x_1_2 : Slc} {x_1_3 : Slc} {w : World} {K : Int → World → Prop} (h : sh_batch_fits c_batch_formed lib_0 x_1_0 x_1_1 x_1_2 x_1_3 w K) : c_batch_fits lib_0 x_1_0 x_1_1 x_1_2 x_1_3 w K := by
  have e : sh_batch_fits c_batch_formed lib_0 x_1_0 x_1_1 x_1_2 x_1_3 w K = shF Tryz.prog 50 ⟨[], [], []⟩ [.slice lib_0.a lib_0.l lib_0.c, .agg #[.int .i64 x_1_0, .slice x_1_1.a x_1_1.l x_1_1.c, .slice x_1_2.a x_1_2.l x_1_2.c, .slice x_1_3.a x_1_3.l x_1_3.c]] w (fun v w' => decV (.int .i64) v fun y0 => K y0 w') := by kernel_rfl
  exact Calls.mono (calls_of _ e h) (onRet_mono (fun _ _ h => decV_spec h))

-- 49 prelude/batch.Check$1; callees ['batch_fits']
def sh_batch_Check_1 (c_batch_fits : Slc → Int → Slc → Slc → Slc → World → (Int → World → Prop) → Prop) (x_0_0 : Int) (x_0_1 : Slc) (x_0_2 : Slc) (x_0_3 : Slc) (cap_0 : Addr) (w : World) (K : Int → World → Prop) : Prop :=
  newP #[.int .i64 x_0_0, .slice x_0_1.a x_0_1.l x_0_1.c, .slice x_0_2.a x_0_2.l x_0_2.c, .slice x_0_3.a x_0_3.l x_0_3.c] 46 w fun a1 w2 => ldS cap_0 w2 fun s3 => ldI .i64 a1 w2 fun n4 => ldS (a1.add 1) w2 fun s5 => ldS (a1.add 2) w2 fun s6 => ldS (a1.add 3) w2 fun s7 => c_batch_fits s3 n4 s5 s6 s7 w2 fun r8 w9 => K r8 w9

def c_batch_Check_1 (x_0_0 : Int) (x_0_1 : Slc) (x_0_2 : Slc) (x_0_3 : Slc) (cap_0 : Addr) (w : World) (K : Int → World → Prop) : Prop := Calls Tryz.prog 49 #[.agg #[.int .i64 x_0_0, .slice x_0_1.a x_0_1.l x_0_1.c, .slice x_0_2.a x_0_2.l x_0_2.c, .slice x_0_3.a x_0_3.l x_0_3.c], .pointer (some cap_0)] w (onRet (fun v w' => ∃ (y0 : Int), v = .int .i64 y0 ∧ K y0 w'))

theorem sim_batch_Check_1 {x_0_0 : Int} {x_0_1 : Slc} {x_0_2 : Slc} {x_0_3 : Slc} {cap_0 : Addr} {w : World} {K : Int → World → Prop} (h : sh_batch_Check_1 c_batch_fits x_0_0 x_0_1 x_0_2 x_0_3 cap_0 w K) : c_batch_Check_1 x_0_0 x_0_1 x_0_2 x_0_3 cap_0 w K := by
  have e : sh_batch_Check_1 c_batch_fits x_0_0 x_0_1 x_0_2 x_0_3 cap_0 w K = shF Tryz.prog 49 ⟨[], [], []⟩ [.agg #[.int .i64 x_0_0, .slice x_0_1.a x_0_1.l x_0_1.c, .slice x_0_2.a x_0_2.l x_0_2.c, .slice x_0_3.a x_0_3.l x_0_3.c], .pointer (some cap_0)] w (fun v w' => decV (.int .i64) v fun y0 => K y0 w') := by kernel_rfl
  exact Calls.mono (calls_of _ e h) (onRet_mono (fun _ _ h => decV_spec h))

-- 76 prelude/vm.pairs$1; callees []
def sh_vm_pairs_1 (x_0 : Int) (y_1 : Int) (w : World) (K : Int → World → Prop) : Prop :=
  K (IntKind.i64.wrap (x_0 + y_1)) w

def c_vm_pairs_1 (x_0 : Int) (y_1 : Int) (w : World) (K : Int → World → Prop) : Prop := Calls Tryz.prog 76 #[.int .i64 x_0, .int .i64 y_1] w (onRet (fun v w' => ∃ (y0 : Int), v = .int .i64 y0 ∧ K y0 w'))

theorem sim_vm_pairs_1 {x_0 : Int} {y_1 : Int} {w : World} {K : Int → World → Prop} (h : sh_vm_pairs_1 x_0 y_1 w K) : c_vm_pairs_1 x_0 y_1 w K := by
  have e : sh_vm_pairs_1 x_0 y_1 w K = shF Tryz.prog 76 ⟨[], [], []⟩ [.int .i64 x_0, .int .i64 y_1] w (fun v w' => decV (.int .i64) v fun y0 => K y0 w') := by kernel_rfl
  exact Calls.mono (calls_of _ e h) (onRet_mono (fun _ _ h => decV_spec h))

-- 77 prelude/vm.pairs$2; callees []
def sh_vm_pairs_2 (x_0 : Int) (y_1 : Int) (w : World) (K : Int → World → Prop) : Prop :=
  K (IntKind.i64.wrap (x_0 - y_1)) w

def c_vm_pairs_2 (x_0 : Int) (y_1 : Int) (w : World) (K : Int → World → Prop) : Prop := Calls Tryz.prog 77 #[.int .i64 x_0, .int .i64 y_1] w (onRet (fun v w' => ∃ (y0 : Int), v = .int .i64 y0 ∧ K y0 w'))

theorem sim_vm_pairs_2 {x_0 : Int} {y_1 : Int} {w : World} {K : Int → World → Prop} (h : sh_vm_pairs_2 x_0 y_1 w K) : c_vm_pairs_2 x_0 y_1 w K := by
  have e : sh_vm_pairs_2 x_0 y_1 w K = shF Tryz.prog 77 ⟨[], [], []⟩ [.int .i64 x_0, .int .i64 y_1] w (fun v w' => decV (.int .i64) v fun y0 => K y0 w') := by kernel_rfl
  exact Calls.mono (calls_of _ e h) (onRet_mono (fun _ _ h => decV_spec h))

-- 78 prelude/vm.pairs$3; callees []
def sh_vm_pairs_3 (x_0 : Int) (y_1 : Int) (w : World) (K : Int → World → Prop) : Prop :=
  K (IntKind.i64.wrap (x_0 * y_1)) w

def c_vm_pairs_3 (x_0 : Int) (y_1 : Int) (w : World) (K : Int → World → Prop) : Prop := Calls Tryz.prog 78 #[.int .i64 x_0, .int .i64 y_1] w (onRet (fun v w' => ∃ (y0 : Int), v = .int .i64 y0 ∧ K y0 w'))

theorem sim_vm_pairs_3 {x_0 : Int} {y_1 : Int} {w : World} {K : Int → World → Prop} (h : sh_vm_pairs_3 x_0 y_1 w K) : c_vm_pairs_3 x_0 y_1 w K := by
  have e : sh_vm_pairs_3 x_0 y_1 w K = shF Tryz.prog 78 ⟨[], [], []⟩ [.int .i64 x_0, .int .i64 y_1] w (fun v w' => decV (.int .i64) v fun y0 => K y0 w') := by kernel_rfl
  exact Calls.mono (calls_of _ e h) (onRet_mono (fun _ _ h => decV_spec h))

-- 80 prelude/vm.pairs$4; callees []
def sh_vm_pairs_4 (x_0 : Int) (y_1 : Int) (w : World) (K : Int → World → Prop) : Prop :=
  dzP y_1 (K (IntKind.i64.wrap (Int.tdiv x_0 y_1)) w)

def c_vm_pairs_4 (x_0 : Int) (y_1 : Int) (w : World) (K : Int → World → Prop) : Prop := Calls Tryz.prog 80 #[.int .i64 x_0, .int .i64 y_1] w (onRet (fun v w' => ∃ (y0 : Int), v = .int .i64 y0 ∧ K y0 w'))

theorem sim_vm_pairs_4 {x_0 : Int} {y_1 : Int} {w : World} {K : Int → World → Prop} (h : sh_vm_pairs_4 x_0 y_1 w K) : c_vm_pairs_4 x_0 y_1 w K := by
  have e : sh_vm_pairs_4 x_0 y_1 w K = shF Tryz.prog 80 ⟨[], [], []⟩ [.int .i64 x_0, .int .i64 y_1] w (fun v w' => decV (.int .i64) v fun y0 => K y0 w') := by kernel_rfl
  exact Calls.mono (calls_of _ e h) (onRet_mono (fun _ _ h => decV_spec h))

-- 81 prelude/vm.pairs$5; callees []
def sh_vm_pairs_5 (x_0 : Int) (y_1 : Int) (w : World) (K : Int → World → Prop) : Prop :=
  dzP y_1 (K (Int.tmod x_0 y_1) w)

def c_vm_pairs_5 (x_0 : Int) (y_1 : Int) (w : World) (K : Int → World → Prop) : Prop := Calls Tryz.prog 81 #[.int .i64 x_0, .int .i64 y_1] w (onRet (fun v w' => ∃ (y0 : Int), v = .int .i64 y0 ∧ K y0 w'))

theorem sim_vm_pairs_5 {x_0 : Int} {y_1 : Int} {w : World} {K : Int → World → Prop} (h : sh_vm_pairs_5 x_0 y_1 w K) : c_vm_pairs_5 x_0 y_1 w K := by
  have e : sh_vm_pairs_5 x_0 y_1 w K = shF Tryz.prog 81 ⟨[], [], []⟩ [.int .i64 x_0, .int .i64 y_1] w (fun v w' => decV (.int .i64) v fun y0 => K y0 w') := by kernel_rfl
  exact Calls.mono (calls_of _ e h) (onRet_mono (fun _ _ h => decV_spec h))

-- 82 prelude/vm.pairs$6; callees []
def sh_vm_pairs_6 (x_0 : Int) (y_1 : Int) (w : World) (K : Int → World → Prop) : Prop :=
  K (bAnd .i64 x_0 y_1) w

def c_vm_pairs_6 (x_0 : Int) (y_1 : Int) (w : World) (K : Int → World → Prop) : Prop := Calls Tryz.prog 82 #[.int .i64 x_0, .int .i64 y_1] w (onRet (fun v w' => ∃ (y0 : Int), v = .int .i64 y0 ∧ K y0 w'))

theorem sim_vm_pairs_6 {x_0 : Int} {y_1 : Int} {w : World} {K : Int → World → Prop} (h : sh_vm_pairs_6 x_0 y_1 w K) : c_vm_pairs_6 x_0 y_1 w K := by
  have e : sh_vm_pairs_6 x_0 y_1 w K = shF Tryz.prog 82 ⟨[], [], []⟩ [.int .i64 x_0, .int .i64 y_1] w (fun v w' => decV (.int .i64) v fun y0 => K y0 w') := by kernel_rfl
  exact Calls.mono (calls_of _ e h) (onRet_mono (fun _ _ h => decV_spec h))

-- 83 prelude/vm.pairs$7; callees []
def sh_vm_pairs_7 (x_0 : Int) (y_1 : Int) (w : World) (K : Int → World → Prop) : Prop :=
  K (bOr .i64 x_0 y_1) w

def c_vm_pairs_7 (x_0 : Int) (y_1 : Int) (w : World) (K : Int → World → Prop) : Prop := Calls Tryz.prog 83 #[.int .i64 x_0, .int .i64 y_1] w (onRet (fun v w' => ∃ (y0 : Int), v = .int .i64 y0 ∧ K y0 w'))

theorem sim_vm_pairs_7 {x_0 : Int} {y_1 : Int} {w : World} {K : Int → World → Prop} (h : sh_vm_pairs_7 x_0 y_1 w K) : c_vm_pairs_7 x_0 y_1 w K := by
  have e : sh_vm_pairs_7 x_0 y_1 w K = shF Tryz.prog 83 ⟨[], [], []⟩ [.int .i64 x_0, .int .i64 y_1] w (fun v w' => decV (.int .i64) v fun y0 => K y0 w') := by kernel_rfl
  exact Calls.mono (calls_of _ e h) (onRet_mono (fun _ _ h => decV_spec h))

-- 84 prelude/vm.pairs$8; callees []
def sh_vm_pairs_8 (x_0 : Int) (y_1 : Int) (w : World) (K : Int → World → Prop) : Prop :=
  K (bXor .i64 x_0 y_1) w

def c_vm_pairs_8 (x_0 : Int) (y_1 : Int) (w : World) (K : Int → World → Prop) : Prop := Calls Tryz.prog 84 #[.int .i64 x_0, .int .i64 y_1] w (onRet (fun v w' => ∃ (y0 : Int), v = .int .i64 y0 ∧ K y0 w'))

theorem sim_vm_pairs_8 {x_0 : Int} {y_1 : Int} {w : World} {K : Int → World → Prop} (h : sh_vm_pairs_8 x_0 y_1 w K) : c_vm_pairs_8 x_0 y_1 w K := by
  have e : sh_vm_pairs_8 x_0 y_1 w K = shF Tryz.prog 84 ⟨[], [], []⟩ [.int .i64 x_0, .int .i64 y_1] w (fun v w' => decV (.int .i64) v fun y0 => K y0 w') := by kernel_rfl
  exact Calls.mono (calls_of _ e h) (onRet_mono (fun _ _ h => decV_spec h))

-- 86 prelude/vm.pairs$9; callees []
def sh_vm_pairs_9 (x_0 : Int) (y_1 : Int) (w : World) (K : Int → World → Prop) : Prop :=
  shP (IntKind.u64.wrap y_1) (K (IntKind.i64.wrap (x_0 * 2 ^ (min (Int.toNat (IntKind.u64.wrap y_1)) (IntKind.bits .i64)))) w)

def c_vm_pairs_9 (x_0 : Int) (y_1 : Int) (w : World) (K : Int → World → Prop) : Prop := Calls Tryz.prog 86 #[.int .i64 x_0, .int .i64 y_1] w (onRet (fun v w' => ∃ (y0 : Int), v = .int .i64 y0 ∧ K y0 w'))

theorem sim_vm_pairs_9 {x_0 : Int} {y_1 : Int} {w : World} {K : Int → World → Prop} (h : sh_vm_pairs_9 x_0 y_1 w K) : c_vm_pairs_9 x_0 y_1 w K := by
  have e : sh_vm_pairs_9 x_0 y_1 w K = shF Tryz.prog 86 ⟨[], [], []⟩ [.int .i64 x_0, .int .i64 y_1] w (fun v w' => decV (.int .i64) v fun y0 => K y0 w') := by kernel_rfl
  exact Calls.mono (calls_of _ e h) (onRet_mono (fun _ _ h => decV_spec h))

-- 87 prelude/vm.pairs$10; callees []
def sh_vm_pairs_10 (x_0 : Int) (y_1 : Int) (w : World) (K : Int → World → Prop) : Prop :=
  shP (IntKind.u64.wrap y_1) (K (Int.fdiv x_0 (2 ^ (min (Int.toNat (IntKind.u64.wrap y_1)) (IntKind.bits .i64)))) w)

def c_vm_pairs_10 (x_0 : Int) (y_1 : Int) (w : World) (K : Int → World → Prop) : Prop := Calls Tryz.prog 87 #[.int .i64 x_0, .int .i64 y_1] w (onRet (fun v w' => ∃ (y0 : Int), v = .int .i64 y0 ∧ K y0 w'))

theorem sim_vm_pairs_10 {x_0 : Int} {y_1 : Int} {w : World} {K : Int → World → Prop} (h : sh_vm_pairs_10 x_0 y_1 w K) : c_vm_pairs_10 x_0 y_1 w K := by
  have e : sh_vm_pairs_10 x_0 y_1 w K = shF Tryz.prog 87 ⟨[], [], []⟩ [.int .i64 x_0, .int .i64 y_1] w (fun v w' => decV (.int .i64) v fun y0 => K y0 w') := by kernel_rfl
  exact Calls.mono (calls_of _ e h) (onRet_mono (fun _ _ h => decV_spec h))

-- 89 prelude/vm.pairs$11; callees []
def sh_vm_pairs_11 (x_0 : Int) (y_1 : Int) (w : World) (K : Bool → World → Prop) : Prop :=
  K ((x_0 : Int) == y_1) w

def c_vm_pairs_11 (x_0 : Int) (y_1 : Int) (w : World) (K : Bool → World → Prop) : Prop := Calls Tryz.prog 89 #[.int .i64 x_0, .int .i64 y_1] w (onRet (fun v w' => ∃ (y0 : Bool), v = .bool y0 ∧ K y0 w'))

theorem sim_vm_pairs_11 {x_0 : Int} {y_1 : Int} {w : World} {K : Bool → World → Prop} (h : sh_vm_pairs_11 x_0 y_1 w K) : c_vm_pairs_11 x_0 y_1 w K := by
  have e : sh_vm_pairs_11 x_0 y_1 w K = shF Tryz.prog 89 ⟨[], [], []⟩ [.int .i64 x_0, .int .i64 y_1] w (fun v w' => decV .b v fun y0 => K y0 w') := by kernel_rfl
  exact Calls.mono (calls_of _ e h) (onRet_mono (fun _ _ h => decV_spec h))

-- 90 prelude/vm.pairs$12; callees []
def sh_vm_pairs_12 (x_0 : Int) (y_1 : Int) (w : World) (K : Bool → World → Prop) : Prop :=
  K ((x_0 : Int) != y_1) w

def c_vm_pairs_12 (x_0 : Int) (y_1 : Int) (w : World) (K : Bool → World → Prop) : Prop := Calls Tryz.prog 90 #[.int .i64 x_0, .int .i64 y_1] w (onRet (fun v w' => ∃ (y0 : Bool), v = .bool y0 ∧ K y0 w'))

theorem sim_vm_pairs_12 {x_0 : Int} {y_1 : Int} {w : World} {K : Bool → World → Prop} (h : sh_vm_pairs_12 x_0 y_1 w K) : c_vm_pairs_12 x_0 y_1 w K := by
  have e : sh_vm_pairs_12 x_0 y_1 w K = shF Tryz.prog 90 ⟨[], [], []⟩ [.int .i64 x_0, .int .i64 y_1] w (fun v w' => decV .b v fun y0 => K y0 w') := by kernel_rfl
  exact Calls.mono (calls_of _ e h) (onRet_mono (fun _ _ h => decV_spec h))

-- 91 prelude/vm.pairs$13; callees []
def sh_vm_pairs_13 (x_0 : Int) (y_1 : Int) (w : World) (K : Bool → World → Prop) : Prop :=
  K (decide ((x_0 : Int) < y_1)) w

def c_vm_pairs_13 (x_0 : Int) (y_1 : Int) (w : World) (K : Bool → World → Prop) : Prop := Calls Tryz.prog 91 #[.int .i64 x_0, .int .i64 y_1] w (onRet (fun v w' => ∃ (y0 : Bool), v = .bool y0 ∧ K y0 w'))

theorem sim_vm_pairs_13 {x_0 : Int} {y_1 : Int} {w : World} {K : Bool → World → Prop} (h : sh_vm_pairs_13 x_0 y_1 w K) : c_vm_pairs_13 x_0 y_1 w K := by
  have e : sh_vm_pairs_13 x_0 y_1 w K = shF Tryz.prog 91 ⟨[], [], []⟩ [.int .i64 x_0, .int .i64 y_1] w (fun v w' => decV .b v fun y0 => K y0 w') := by kernel_rfl
  exact Calls.mono (calls_of _ e h) (onRet_mono (fun _ _ h => decV_spec h))

-- 92 prelude/vm.pairs$14; callees []
def sh_vm_pairs_14 (x_0 : Int) (y_1 : Int) (w : World) (K : Bool → World → Prop) : Prop :=
  K (decide ((x_0 : Int) ≤ y_1)) w

def c_vm_pairs_14 (x_0 : Int) (y_1 : Int) (w : World) (K : Bool → World → Prop) : Prop := Calls Tryz.prog 92 #[.int .i64 x_0, .int .i64 y_1] w (onRet (fun v w' => ∃ (y0 : Bool), v = .bool y0 ∧ K y0 w'))

theorem sim_vm_pairs_14 {x_0 : Int} {y_1 : Int} {w : World} {K : Bool → World → Prop} (h : sh_vm_pairs_14 x_0 y_1 w K) : c_vm_pairs_14 x_0 y_1 w K := by
  have e : sh_vm_pairs_14 x_0 y_1 w K = shF Tryz.prog 92 ⟨[], [], []⟩ [.int .i64 x_0, .int .i64 y_1] w (fun v w' => decV .b v fun y0 => K y0 w') := by kernel_rfl
  exact Calls.mono (calls_of _ e h) (onRet_mono (fun _ _ h => decV_spec h))

-- 93 prelude/vm.pairs$15; callees []
def sh_vm_pairs_15 (x_0 : Int) (y_1 : Int) (w : World) (K : Bool → World → Prop) : Prop :=
  K (decide ((x_0 : Int) > y_1)) w

def c_vm_pairs_15 (x_0 : Int) (y_1 : Int) (w : World) (K : Bool → World → Prop) : Prop := Calls Tryz.prog 93 #[.int .i64 x_0, .int .i64 y_1] w (onRet (fun v w' => ∃ (y0 : Bool), v = .bool y0 ∧ K y0 w'))

theorem sim_vm_pairs_15 {x_0 : Int} {y_1 : Int} {w : World} {K : Bool → World → Prop} (h : sh_vm_pairs_15 x_0 y_1 w K) : c_vm_pairs_15 x_0 y_1 w K := by
  have e : sh_vm_pairs_15 x_0 y_1 w K = shF Tryz.prog 93 ⟨[], [], []⟩ [.int .i64 x_0, .int .i64 y_1] w (fun v w' => decV .b v fun y0 => K y0 w') := by kernel_rfl
  exact Calls.mono (calls_of _ e h) (onRet_mono (fun _ _ h => decV_spec h))

-- 94 prelude/vm.pairs$16; callees []
def sh_vm_pairs_16 (x_0 : Int) (y_1 : Int) (w : World) (K : Bool → World → Prop) : Prop :=
  K (decide ((x_0 : Int) ≥ y_1)) w

def c_vm_pairs_16 (x_0 : Int) (y_1 : Int) (w : World) (K : Bool → World → Prop) : Prop := Calls Tryz.prog 94 #[.int .i64 x_0, .int .i64 y_1] w (onRet (fun v w' => ∃ (y0 : Bool), v = .bool y0 ∧ K y0 w'))

theorem sim_vm_pairs_16 {x_0 : Int} {y_1 : Int} {w : World} {K : Bool → World → Prop} (h : sh_vm_pairs_16 x_0 y_1 w K) : c_vm_pairs_16 x_0 y_1 w K := by
  have e : sh_vm_pairs_16 x_0 y_1 w K = shF Tryz.prog 94 ⟨[], [], []⟩ [.int .i64 x_0, .int .i64 y_1] w (fun v w' => decV .b v fun y0 => K y0 w') := by kernel_rfl
  exact Calls.mono (calls_of _ e h) (onRet_mono (fun _ _ h => decV_spec h))

-- 95 prelude/vm.pairs$17; callees []
def sh_vm_pairs_17 (x_0 : Int) (y_1 : Int) (w : World) (K : Int → World → Prop) : Prop :=
  K (if (y_1 : Int) < x_0 then y_1 else x_0) w

def c_vm_pairs_17 (x_0 : Int) (y_1 : Int) (w : World) (K : Int → World → Prop) : Prop := Calls Tryz.prog 95 #[.int .i64 x_0, .int .i64 y_1] w (onRet (fun v w' => ∃ (y0 : Int), v = .int .i64 y0 ∧ K y0 w'))

theorem sim_vm_pairs_17 {x_0 : Int} {y_1 : Int} {w : World} {K : Int → World → Prop} (h : sh_vm_pairs_17 x_0 y_1 w K) : c_vm_pairs_17 x_0 y_1 w K := by
  have e : sh_vm_pairs_17 x_0 y_1 w K = shF Tryz.prog 95 ⟨[], [], []⟩ [.int .i64 x_0, .int .i64 y_1] w (fun v w' => decV (.int .i64) v fun y0 => K y0 w') := by kernel_rfl
  exact Calls.mono (calls_of _ e h) (onRet_mono (fun _ _ h => decV_spec h))

-- 96 prelude/vm.pairs$18; callees []
def sh_vm_pairs_18 (x_0 : Int) (y_1 : Int) (w : World) (K : Int → World → Prop) : Prop :=
  K (if (y_1 : Int) > x_0 then y_1 else x_0) w

def c_vm_pairs_18 (x_0 : Int) (y_1 : Int) (w : World) (K : Int → World → Prop) : Prop := Calls Tryz.prog 96 #[.int .i64 x_0, .int .i64 y_1] w (onRet (fun v w' => ∃ (y0 : Int), v = .int .i64 y0 ∧ K y0 w'))

theorem sim_vm_pairs_18 {x_0 : Int} {y_1 : Int} {w : World} {K : Int → World → Prop} (h : sh_vm_pairs_18 x_0 y_1 w K) : c_vm_pairs_18 x_0 y_1 w K := by
  have e : sh_vm_pairs_18 x_0 y_1 w K = shF Tryz.prog 96 ⟨[], [], []⟩ [.int .i64 x_0, .int .i64 y_1] w (fun v w' => decV (.int .i64) v fun y0 => K y0 w') := by kernel_rfl
  exact Calls.mono (calls_of _ e h) (onRet_mono (fun _ _ h => decV_spec h))

-- 106 prelude/vm.plain$1; callees []
def sh_vm_plain_1 (x_0 : Int) (y_1 : Int) (cap_0 : Addr) (w : World) (K : Int → Int → World → Prop) : Prop :=
  ldV cap_0 w fun v1 => cvP Tryz.prog v1 [.int .i64 x_0, .int .i64 y_1] w fun v4 w3 => ∃ (r2 : Int), v4 = .int .i64 r2 ∧ (K r2 0 w3)

def c_vm_plain_1 (x_0 : Int) (y_1 : Int) (cap_0 : Addr) (w : World) (K : Int → Int → World → Prop) : Prop := Calls Tryz.prog 106 #[.int .i64 x_0, .int .i64 y_1, .pointer (some cap_0)] w (onRet (fun v w' => ∃ (y0 : Int), ∃ (y1 : Int), v = .tuple #[.int .i64 y0, .int .i64 y1] ∧ K y0 y1 w'))

theorem sim_vm_plain_1 {x_0 : Int} {y_1 : Int} {cap_0 : Addr} {w : World} {K : Int → Int → World → Prop} (h : sh_vm_plain_1 x_0 y_1 cap_0 w K) : c_vm_plain_1 x_0 y_1 cap_0 w K := by
  have e : sh_vm_plain_1 x_0 y_1 cap_0 w K = shF Tryz.prog 106 ⟨[], [], []⟩ [.int .i64 x_0, .int .i64 y_1, .pointer (some cap_0)] w (fun v w' => decT [(false, [(.int .i64)]), (false, [(.int .i64)])] v fun s => (fun (y0 : Int) (y1 : Int) => K y0 y1 w') s.1 s.2.1) := by kernel_rfl
  exact Calls.mono (calls_of _ e h) (onRet_mono (fun _ _ h => by obtain ⟨s, h1, h2⟩ := decT_spec h; exact ⟨s.1, s.2.1, h1, h2⟩))

-- 107 prelude/vm.divides$1; callees []
def sh_vm_divides_1 (x_0 : Int) (y_1 : Int) (cap_0 : Addr) (w : World) (K : Int → Int → World → Prop) : Prop :=
  iteB ((y_1 : Int) == 0)
  (K 0 201 w)
  (ldV cap_0 w fun v1 => cvP Tryz.prog v1 [.int .i64 x_0, .int .i64 y_1] w fun v4 w3 => ∃ (r2 : Int), v4 = .int .i64 r2 ∧ (K r2 0 w3))

def c_vm_divides_1 (x_0 : Int) (y_1 : Int) (cap_0 : Addr) (w : World) (K : Int → Int → World → Prop) : Prop := Calls Tryz.prog 107 #[.int .i64 x_0, .int .i64 y_1, .pointer (some cap_0)] w (onRet (fun v w' => ∃ (y0 : Int), ∃ (y1 : Int), v = .tuple #[.int .i64 y0, .int .i64 y1] ∧ K y0 y1 w'))

theorem sim_vm_divides_1 {x_0 : Int} {y_1 : Int} {cap_0 : Addr} {w : World} {K : Int → Int → World → Prop} (h : sh_vm_divides_1 x_0 y_1 cap_0 w K) : c_vm_divides_1 x_0 y_1 cap_0 w K := by
  have e : sh_vm_divides_1 x_0 y_1 cap_0 w K = shF Tryz.prog 107 ⟨[], [], []⟩ [.int .i64 x_0, .int .i64 y_1, .pointer (some cap_0)] w (fun v w' => decT [(false, [(.int .i64)]), (false, [(.int .i64)])] v fun s => (fun (y0 : Int) (y1 : Int) => K y0 y1 w') s.1 s.2.1) := by kernel_rfl
  exact Calls.mono (calls_of _ e h) (onRet_mono (fun _ _ h => by obtain ⟨s, h1, h2⟩ := decT_spec h; exact ⟨s.1, s.2.1, h1, h2⟩))

-- 108 prelude/vm.shifts$1; callees []
def sh_vm_shifts_1 (x_0 : Int) (y_1 : Int) (cap_0 : Addr) (w : World) (K : Int → Int → World → Prop) : Prop :=
  iteB (decide ((y_1 : Int) < 0))
  (K 0 202 w)
  (ldV cap_0 w fun v1 => cvP Tryz.prog v1 [.int .i64 x_0, .int .i64 y_1] w fun v4 w3 => ∃ (r2 : Int), v4 = .int .i64 r2 ∧ (K r2 0 w3))

def c_vm_shifts_1 (x_0 : Int) (y_1 : Int) (cap_0 : Addr) (w : World) (K : Int → Int → World → Prop) : Prop := Calls Tryz.prog 108 #[.int .i64 x_0, .int .i64 y_1, .pointer (some cap_0)] w (onRet (fun v w' => ∃ (y0 : Int), ∃ (y1 : Int), v = .tuple #[.int .i64 y0, .int .i64 y1] ∧ K y0 y1 w'))

theorem sim_vm_shifts_1 {x_0 : Int} {y_1 : Int} {cap_0 : Addr} {w : World} {K : Int → Int → World → Prop} (h : sh_vm_shifts_1 x_0 y_1 cap_0 w K) : c_vm_shifts_1 x_0 y_1 cap_0 w K := by
  have e : sh_vm_shifts_1 x_0 y_1 cap_0 w K = shF Tryz.prog 108 ⟨[], [], []⟩ [.int .i64 x_0, .int .i64 y_1, .pointer (some cap_0)] w (fun v w' => decT [(false, [(.int .i64)]), (false, [(.int .i64)])] v fun s => (fun (y0 : Int) (y1 : Int) => K y0 y1 w') s.1 s.2.1) := by kernel_rfl
  exact Calls.mono (calls_of _ e h) (onRet_mono (fun _ _ h => by obtain ⟨s, h1, h2⟩ := decT_spec h; exact ⟨s.1, s.2.1, h1, h2⟩))

-- 109 prelude/vm.asks$1; callees ['vm_truth']
def sh_vm_asks_1 (c_vm_truth : Bool → World → (Int → World → Prop) → Prop) (x_0 : Int) (y_1 : Int) (cap_0 : Addr) (w : World) (K : Int → Int → World → Prop) : Prop :=
  ldV cap_0 w fun v1 => cvP Tryz.prog v1 [.int .i64 x_0, .int .i64 y_1] w fun v4 w3 => ∃ (r2 : Bool), v4 = .bool r2 ∧ (c_vm_truth r2 w3 fun r5 w6 => K r5 0 w6)

def c_vm_asks_1 (x_0 : Int) (y_1 : Int) (cap_0 : Addr) (w : World) (K : Int → Int → World → Prop) : Prop := Calls Tryz.prog 109 #[.int .i64 x_0, .int .i64 y_1, .pointer (some cap_0)] w (onRet (fun v w' => ∃ (y0 : Int), ∃ (y1 : Int), v = .tuple #[.int .i64 y0, .int .i64 y1] ∧ K y0 y1 w'))

theorem sim_vm_asks_1 {x_0 : Int} {y_1 : Int} {cap_0 : Addr} {w : World} {K : Int → Int → World → Prop} (h : sh_vm_asks_1 c_vm_truth x_0 y_1 cap_0 w K) : c_vm_asks_1 x_0 y_1 cap_0 w K := by
  have e : sh_vm_asks_1 c_vm_truth x_0 y_1 cap_0 w K = shF Tryz.prog 109 ⟨[], [], []⟩ [.int .i64 x_0, .int .i64 y_1, .pointer (some cap_0)] w (fun v w' => decT [(false, [(.int .i64)]), (false, [(.int .i64)])] v fun s => (fun (y0 : Int) (y1 : Int) => K y0 y1 w') s.1 s.2.1) := by kernel_rfl
  exact Calls.mono (calls_of _ e h) (onRet_mono (fun _ _ h => by obtain ⟨s, h1, h2⟩ := decT_spec h; exact ⟨s.1, s.2.1, h1, h2⟩))

-- NOT 110 (runtime.boundsError).Error: no body
-- NOT 111 (runtime.boundsError).RuntimeError: no body
-- NOT 112 (runtime.errorString).Error: no body
-- NOT 113 (runtime.errorString).RuntimeError: no body
-- NOT 114 (runtime.plainError).Error: no body
-- NOT 115 (runtime.plainError).RuntimeError: no body
-- NOT 116 (runtime.errorAddressString).Error: no body
-- NOT 117 (runtime.errorAddressString).RuntimeError: no body
-- NOT 118 (*runtime.TypeAssertionError).Error: no body
-- NOT 119 (*runtime.TypeAssertionError).RuntimeError: no body
-- NOT 120 (*runtime.PanicNilError).Error: no body
-- NOT 121 (*runtime.PanicNilError).RuntimeError: no body
-- NOT 122 (*internal/abi.Type).Align: no body
-- NOT 123 (internal/runtime/maps.unhashableTypeError).Error: no body
-- NOT 124 (internal/runtime/maps.unhashableTypeError).RuntimeError: no body
-- NOT 125 (prelude/api.Errno).Error: no body
-- NOT 126 (*prelude/api.ByteError).Error: no body
-- NOT 127 (*prelude/api.TxError).Error: no body
-- NOT 128 (*prelude/codec.Writer).Byte: no body
-- NOT 129 (*prelude/vm.Machine).At: no body
-- NOT 130 (internal/abi.Kind).String: no body
end Go.Proofs.YtlnhecbgjjglfaaGreat
