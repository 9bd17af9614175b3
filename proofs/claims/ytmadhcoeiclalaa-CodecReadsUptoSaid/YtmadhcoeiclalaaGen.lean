import Derived.Test.YtmadhcoeiclalaaProg
import Derived.Test.YtmadhcoeiclalaaSh
set_option linter.unusedVariables false
namespace Go.Proofs.Ytmadhcoeiclalaa
open Go Go.Sh
-- 7 prelude/codec.New; callees []
def sh_codec_New (w : World) (K : Option Addr → World → Prop) : Prop :=
  newP #[.slice none 0 0] 67 w fun a1 w2 => K (some a1) w2

def c_codec_New (w : World) (K : Option Addr → World → Prop) : Prop := Calls Try.prog 7 #[] w (onRet (fun v w' => ∃ (y0 : Option Addr), v = .pointer y0 ∧ K y0 w'))

theorem sim_codec_New {w : World} {K : Option Addr → World → Prop} (h : sh_codec_New w K) : c_codec_New  w K := by
  have e : sh_codec_New w K = shF Try.prog 7 ⟨[], [], []⟩ [] w (fun v w' => decV .ptr v fun y0 => K y0 w') := by kernel_rfl
  exact Calls.mono (calls_of _ e h) (onRet_mono (fun _ _ h => decV_spec h))

-- 15 prelude/preludelaw01.roomy; callees []
def sh_preludelaw01_roomy (b_0 : Slc) (w : World) (K : Slc → Slc → World → Prop) : Prop :=
  mkP Try.prog 26 (.int .i64 (IntKind.i64.wrap ((b_0.l : Int) + 3))) (.int .i64 (IntKind.i64.wrap ((b_0.l : Int) + 3))) w fun s1 w2 => cpP Try.prog #[26, 26] 3 [.slice s1.a s1.l s1.c, .slice b_0.a b_0.l b_0.c] w2 fun n4 w3 => loopP (σ := Int × Unit) (fun st6 next5 w7 => (fun (i_8 : Int) => iteB (decide ((i_8 : Int) < (s1.l : Int)))
  (idxP s1.a s1.l i_8 1 fun a9 => stP a9 (.int .u8 171) w7 fun w10 => next5 ((IntKind.i64.wrap (i_8 + 1)), ()) w10)
  (slP s1.a s1.l s1.c none (some (b_0.l : Int)) 1 fun p11 l12 c13 => K ⟨p11, l12, c13⟩ s1 w7)) st6.1) ((b_0.l : Int), ()) w3

def c_preludelaw01_roomy (b_0 : Slc) (w : World) (K : Slc → Slc → World → Prop) : Prop := Calls Try.prog 15 #[.slice b_0.a b_0.l b_0.c] w (onRet (fun v w' => ∃ (y0 : Slc), ∃ (y1 : Slc), v = .tuple #[.slice y0.a y0.l y0.c, .slice y1.a y1.l y1.c] ∧ K y0 y1 w'))

theorem sim_preludelaw01_roomy {b_0 : Slc} {w : World} {K : Slc → Slc → World → Prop} (h : sh_preludelaw01_roomy b_0 w K) : c_preludelaw01_roomy b_0 w K := by
  have e : sh_preludelaw01_roomy b_0 w K = shF Try.prog 15 ⟨[], [(4, [(5, (.int .i64))], [0, 4])], []⟩ [.slice b_0.a b_0.l b_0.c] w (fun v w' => decT [(false, [.sl]), (false, [.sl])] v fun s => (fun (y0 : Slc) (y1 : Slc) => K y0 y1 w') s.1 s.2.1) := by kernel_rfl
  exact Calls.mono (calls_of _ e h) (onRet_mono (fun _ _ h => by obtain ⟨s, h1, h2⟩ := decT_spec h; exact ⟨s.1, s.2.1, h1, h2⟩))

-- 28 (*prelude/codec.Writer).Byte; callees []
def sh_codec_Writer_Byte (w_0 : Option Addr) (b_1 : Int) (w : World) (K : World → Prop) : Prop :=
  nnP w_0 fun a1 => ldS a1 w fun s2 => newP #[.int .u8 b_1] 5 w fun a3 w4 => apP Try.prog #[26, 26] 26 [.slice s2.a s2.l s2.c, .slice (some a3) 1 1] w4 fun s6 w5 => nnP w_0 fun a7 => stP a7 (.slice s6.a s6.l s6.c) w5 fun w8 => K w8

def c_codec_Writer_Byte (w_0 : Option Addr) (b_1 : Int) (w : World) (K : World → Prop) : Prop := Calls Try.prog 28 #[.pointer w_0, .int .u8 b_1] w (onRet (fun v w' => v = .tuple #[] ∧ K w'))

theorem sim_codec_Writer_Byte {w_0 : Option Addr} {b_1 : Int} {w : World} {K : World → Prop} (h : sh_codec_Writer_Byte w_0 b_1 w K) : c_codec_Writer_Byte w_0 b_1 w K := by
  have e : sh_codec_Writer_Byte w_0 b_1 w K = shF Try.prog 28 ⟨[], [], []⟩ [.pointer w_0, .int .u8 b_1] w (fun v w' => decU v (K w')) := by kernel_rfl
  exact Calls.mono (calls_of _ e h) (onRet_mono (fun _ _ h => decU_spec h))

-- 11 prelude/preludelaw01.same; callees []
def sh_preludelaw01_same (a_0 : Slc) (b_1 : Slc) (w : World) (K : Bool → World → Prop) : Prop :=
  iteB (((a_0.l : Int) : Int) != (b_1.l : Int))
  (K false w)
  (loopP (σ := Int × Unit) (fun st2 next1 w3 => (fun (i_4 : Int) => iteB (decide ((i_4 : Int) < (a_0.l : Int)))
  (idxP a_0.a a_0.l i_4 1 fun a5 => ldI .u8 a5 w3.drew fun n6 => idxP b_1.a b_1.l i_4 1 fun a7 => ldI .u8 a7 w3.drew fun n8 => iteB ((n6 : Int) != n8)
  (K false w3.drew)
  (next1 ((IntKind.i64.wrap (i_4 + 1)), ()) w3.drew))
  (K true w3)) st2.1) (0, ()) w)

def c_preludelaw01_same (a_0 : Slc) (b_1 : Slc) (w : World) (K : Bool → World → Prop) : Prop := Calls Try.prog 11 #[.slice a_0.a a_0.l a_0.c, .slice b_1.a b_1.l b_1.c] w (onRet (fun v w' => ∃ (y0 : Bool), v = .bool y0 ∧ K y0 w'))

theorem sim_preludelaw01_same {a_0 : Slc} {b_1 : Slc} {w : World} {K : Bool → World → Prop} (h : sh_preludelaw01_same a_0 b_1 w K) : c_preludelaw01_same a_0 b_1 w K := by
  have e : sh_preludelaw01_same a_0 b_1 w K = shF Try.prog 11 ⟨[(6, [0, 1, 2, 3, 4, 5, 6, 7, 8])], [(4, [(5, (.int .i64))], [0, 1])], []⟩ [.slice a_0.a a_0.l a_0.c, .slice b_1.a b_1.l b_1.c] w (fun v w' => decV .b v fun y0 => K y0 w') := by kernel_rfl
  exact Calls.mono (calls_of _ e h) (onRet_mono (fun _ _ h => decV_spec h))

-- 17 prelude/preludelaw01.intact; callees ['preludelaw01_same']
def sh_preludelaw01_intact (c_preludelaw01_same : Slc → Slc → World → (Bool → World → Prop) → Prop) (full_0 : Slc) (b_1 : Slc) (w : World) (K : Bool → World → Prop) : Prop :=
  loopP (σ := Int × Unit) (fun st2 next1 w3 => (fun (i_4 : Int) => iteB (decide ((i_4 : Int) < (full_0.l : Int)))
  (idxP full_0.a full_0.l i_4 1 fun a5 => ldI .u8 a5 w3 fun n6 => iteB ((n6 : Int) != 171)
  (K false w3)
  (next1 ((IntKind.i64.wrap (i_4 + 1)), ()) w3))
  (slP full_0.a full_0.l full_0.c none (some (b_1.l : Int)) 1 fun p7 l8 c9 => c_preludelaw01_same ⟨p7, l8, c9⟩ b_1 w3 fun r10 w11 => K r10 w11)) st2.1) ((b_1.l : Int), ()) w

def c_preludelaw01_intact (full_0 : Slc) (b_1 : Slc) (w : World) (K : Bool → World → Prop) : Prop := Calls Try.prog 17 #[.slice full_0.a full_0.l full_0.c, .slice b_1.a b_1.l b_1.c] w (onRet (fun v w' => ∃ (y0 : Bool), v = .bool y0 ∧ K y0 w'))

theorem sim_preludelaw01_intact {full_0 : Slc} {b_1 : Slc} {w : World} {K : Bool → World → Prop} (h : sh_preludelaw01_intact c_preludelaw01_same full_0 b_1 w K) : c_preludelaw01_intact full_0 b_1 w K := by
  have e : sh_preludelaw01_intact c_preludelaw01_same full_0 b_1 w K = shF Try.prog 17 ⟨[], [(2, [(5, (.int .i64))], [0, 1])], []⟩ [.slice full_0.a full_0.l full_0.c, .slice b_1.a b_1.l b_1.c] w (fun v w' => decV .b v fun y0 => K y0 w') := by kernel_rfl
  exact Calls.mono (calls_of _ e h) (onRet_mono (fun _ _ h => decV_spec h))

-- 30 (*prelude/codec.Writer).Uint; callees []
def sh_codec_Writer_Uint (w_0 : Option Addr) (n_1 : Int) (w : World) (K : World → Prop) : Prop :=
  loopP (σ := Int × Unit) (fun st2 next1 w3 => (fun (n_4 : Int) => iteB (decide ((n_4 : Int) ≥ 128))
  (nnP w_0 fun a5 => ldS a5 w3 fun s6 => newP #[.int .u8 (bOr .u8 (IntKind.u8.wrap n_4) 128)] 5 w3 fun a7 w8 => apP Try.prog #[26, 26] 26 [.slice s6.a s6.l s6.c, .slice (some a7) 1 1] w8 fun s10 w9 => nnP w_0 fun a11 => stP a11 (.slice s10.a s10.l s10.c) w9 fun w12 => shP 7 (next1 ((Int.fdiv n_4 (2 ^ (min (Int.toNat 7) (IntKind.bits .u64)))), ()) w12))
  (nnP w_0 fun a13 => ldS a13 w3 fun s14 => newP #[.int .u8 (IntKind.u8.wrap n_4)] 5 w3 fun a15 w16 => apP Try.prog #[26, 26] 26 [.slice s14.a s14.l s14.c, .slice (some a15) 1 1] w16 fun s18 w17 => nnP w_0 fun a19 => stP a19 (.slice s18.a s18.l s18.c) w17 fun w20 => K w20)) st2.1) (n_1, ()) w

def c_codec_Writer_Uint (w_0 : Option Addr) (n_1 : Int) (w : World) (K : World → Prop) : Prop := Calls Try.prog 30 #[.pointer w_0, .int .u64 n_1] w (onRet (fun v w' => v = .tuple #[] ∧ K w'))

theorem sim_codec_Writer_Uint {w_0 : Option Addr} {n_1 : Int} {w : World} {K : World → Prop} (h : sh_codec_Writer_Uint w_0 n_1 w K) : c_codec_Writer_Uint w_0 n_1 w K := by
  have e : sh_codec_Writer_Uint w_0 n_1 w K = shF Try.prog 30 ⟨[], [(0, [(1, (.int .u64))], [0])], []⟩ [.pointer w_0, .int .u64 n_1] w (fun v w' => decU v (K w')) := by kernel_rfl
  exact Calls.mono (calls_of _ e h) (onRet_mono (fun _ _ h => decU_spec h))

-- 33 (*prelude/codec.Writer).Int; callees ['codec_Writer_Uint']
def sh_codec_Writer_Int (c_codec_Writer_Uint : Option Addr → Int → World → (World → Prop) → Prop) (w_0 : Option Addr) (n_1 : Int) (w : World) (K : World → Prop) : Prop :=
  shP 1 (shP 63 (c_codec_Writer_Uint w_0 (bXor .u64 (IntKind.u64.wrap ((IntKind.u64.wrap n_1) * 2 ^ (min (Int.toNat 1) (IntKind.bits .u64)))) (IntKind.u64.wrap (Int.fdiv n_1 (2 ^ (min (Int.toNat 63) (IntKind.bits .i64)))))) w fun w1 => K w1))

def c_codec_Writer_Int (w_0 : Option Addr) (n_1 : Int) (w : World) (K : World → Prop) : Prop := Calls Try.prog 33 #[.pointer w_0, .int .i64 n_1] w (onRet (fun v w' => v = .tuple #[] ∧ K w'))

theorem sim_codec_Writer_Int {w_0 : Option Addr} {n_1 : Int} {w : World} {K : World → Prop} (h : sh_codec_Writer_Int c_codec_Writer_Uint w_0 n_1 w K) : c_codec_Writer_Int w_0 n_1 w K := by
  have e : sh_codec_Writer_Int c_codec_Writer_Uint w_0 n_1 w K = shF Try.prog 33 ⟨[], [], []⟩ [.pointer w_0, .int .i64 n_1] w (fun v w' => decU v (K w')) := by kernel_rfl
  exact Calls.mono (calls_of _ e h) (onRet_mono (fun _ _ h => decU_spec h))

-- 37 (*prelude/codec.Writer).Raw; callees []
def sh_codec_Writer_Raw (w_0 : Option Addr) (b_1 : Slc) (w : World) (K : World → Prop) : Prop :=
  nnP w_0 fun a1 => ldS a1 w fun s2 => apP Try.prog #[26, 26] 26 [.slice s2.a s2.l s2.c, .slice b_1.a b_1.l b_1.c] w fun s4 w3 => nnP w_0 fun a5 => stP a5 (.slice s4.a s4.l s4.c) w3 fun w6 => K w6

def c_codec_Writer_Raw (w_0 : Option Addr) (b_1 : Slc) (w : World) (K : World → Prop) : Prop := Calls Try.prog 37 #[.pointer w_0, .slice b_1.a b_1.l b_1.c] w (onRet (fun v w' => v = .tuple #[] ∧ K w'))

theorem sim_codec_Writer_Raw {w_0 : Option Addr} {b_1 : Slc} {w : World} {K : World → Prop} (h : sh_codec_Writer_Raw w_0 b_1 w K) : c_codec_Writer_Raw w_0 b_1 w K := by
  have e : sh_codec_Writer_Raw w_0 b_1 w K = shF Try.prog 37 ⟨[], [], []⟩ [.pointer w_0, .slice b_1.a b_1.l b_1.c] w (fun v w' => decU v (K w')) := by kernel_rfl
  exact Calls.mono (calls_of _ e h) (onRet_mono (fun _ _ h => decU_spec h))

-- 35 (*prelude/codec.Writer).Bytes; callees ['codec_Writer_Uint', 'codec_Writer_Raw']
def sh_codec_Writer_Bytes (c_codec_Writer_Uint : Option Addr → Int → World → (World → Prop) → Prop) (c_codec_Writer_Raw : Option Addr → Slc → World → (World → Prop) → Prop) (w_0 : Option Addr) (b_1 : Slc) (w : World) (K : World → Prop) : Prop :=
  c_codec_Writer_Uint w_0 (IntKind.u64.wrap (b_1.l : Int)) w fun w1 => c_codec_Writer_Raw w_0 b_1 w1 fun w2 => K w2

def c_codec_Writer_Bytes (w_0 : Option Addr) (b_1 : Slc) (w : World) (K : World → Prop) : Prop := Calls Try.prog 35 #[.pointer w_0, .slice b_1.a b_1.l b_1.c] w (onRet (fun v w' => v = .tuple #[] ∧ K w'))

theorem sim_codec_Writer_Bytes {w_0 : Option Addr} {b_1 : Slc} {w : World} {K : World → Prop} (h : sh_codec_Writer_Bytes c_codec_Writer_Uint c_codec_Writer_Raw w_0 b_1 w K) : c_codec_Writer_Bytes w_0 b_1 w K := by
  have e : sh_codec_Writer_Bytes c_codec_Writer_Uint c_codec_Writer_Raw w_0 b_1 w K = shF Try.prog 35 ⟨[], [], []⟩ [.pointer w_0, .slice b_1.a b_1.l b_1.c] w (fun v w' => decU v (K w')) := by kernel_rfl
  exact Calls.mono (calls_of _ e h) (onRet_mono (fun _ _ h => decU_spec h))

-- 8 prelude/preludelaw01.written; callees ['preludelaw01_roomy', 'codec_Writer_Byte', 'preludelaw01_intact', 'codec_Writer_Uint', 'codec_Writer_Int', 'codec_Writer_Bytes', 'codec_Writer_Raw']
def sh_preludelaw01_written (c_preludelaw01_roomy : Slc → World → (Slc → Slc → World → Prop) → Prop) (c_codec_Writer_Byte : Option Addr → Int → World → (World → Prop) → Prop) (c_preludelaw01_intact : Slc → Slc → World → (Bool → World → Prop) → Prop) (c_codec_Writer_Uint : Option Addr → Int → World → (World → Prop) → Prop) (c_codec_Writer_Int : Option Addr → Int → World → (World → Prop) → Prop) (c_codec_Writer_Bytes : Option Addr → Slc → World → (World → Prop) → Prop) (c_codec_Writer_Raw : Option Addr → Slc → World → (World → Prop) → Prop) (w_0 : Option Addr) (o_1_0 : Int) (o_1_1 : Int) (o_1_2 : Slc) (o_1_3 : Int) (o_1_4 : Bool) (w : World) (K : Bool → World → Prop) : Prop :=
  newP #[.int .i64 o_1_0, .int .u64 o_1_1, .slice o_1_2.a o_1_2.l o_1_2.c, .int .i64 o_1_3, .bool o_1_4] 34 w fun a1 w2 => ldS (a1.add 2) w2 fun s3 => c_preludelaw01_roomy s3 w2 fun r4 r5 w6 => ldI .i64 a1 w6 fun n7 => iteB ((n7 : Int) == 1)
  (ldI .u64 (a1.add 1) w6 fun n8 => c_codec_Writer_Byte w_0 (IntKind.u8.wrap n8) w6 fun w9 => ldS (a1.add 2) w9 fun s10 => c_preludelaw01_intact r5 s10 w9 fun r11 w12 => loopP (σ := Int × Unit) (fun st14 next13 w15 => (fun (i_16 : Int) => iteB (decide ((i_16 : Int) < (r5.l : Int)))
  (idxP r5.a r5.l i_16 1 fun a17 => stP a17 (.int .u8 5) w15 fun w18 => next13 ((IntKind.i64.wrap (i_16 + 1)), ()) w18)
  (K r11 w15)) st14.1) (0, ()) w12)
  (iteB ((n7 : Int) == 2)
  (iteB ((n7 : Int) == 2)
  (ldI .u64 (a1.add 1) w6 fun n19 => c_codec_Writer_Uint w_0 n19 w6 fun w20 => ldS (a1.add 2) w20 fun s21 => c_preludelaw01_intact r5 s21 w20 fun r22 w23 => loopP (σ := Int × Unit) (fun st25 next24 w26 => (fun (i_27 : Int) => iteB (decide ((i_27 : Int) < (r5.l : Int)))
  (idxP r5.a r5.l i_27 1 fun a28 => stP a28 (.int .u8 5) w26 fun w29 => next24 ((IntKind.i64.wrap (i_27 + 1)), ()) w29)
  (K r22 w26)) st25.1) (0, ()) w23)
  (iteB ((n7 : Int) == 3)
  (ldI .u64 (a1.add 1) w6 fun n30 => c_codec_Writer_Int w_0 (IntKind.i64.wrap n30) w6 fun w31 => ldS (a1.add 2) w31 fun s32 => c_preludelaw01_intact r5 s32 w31 fun r33 w34 => loopP (σ := Int × Unit) (fun st36 next35 w37 => (fun (i_38 : Int) => iteB (decide ((i_38 : Int) < (r5.l : Int)))
  (idxP r5.a r5.l i_38 1 fun a39 => stP a39 (.int .u8 5) w37 fun w40 => next35 ((IntKind.i64.wrap (i_38 + 1)), ()) w40)
  (K r33 w37)) st36.1) (0, ()) w34)
  (iteB ((n7 : Int) == 4)
  (c_codec_Writer_Bytes w_0 r4 w6 fun w41 => ldS (a1.add 2) w41 fun s42 => c_preludelaw01_intact r5 s42 w41 fun r43 w44 => loopP (σ := Int × Unit) (fun st46 next45 w47 => (fun (i_48 : Int) => iteB (decide ((i_48 : Int) < (r5.l : Int)))
  (idxP r5.a r5.l i_48 1 fun a49 => stP a49 (.int .u8 5) w47 fun w50 => next45 ((IntKind.i64.wrap (i_48 + 1)), ()) w50)
  (K r43 w47)) st46.1) (0, ()) w44)
  (iteB ((n7 : Int) == 5)
  (c_codec_Writer_Raw w_0 r4 w6 fun w51 => ldS (a1.add 2) w51 fun s52 => c_preludelaw01_intact r5 s52 w51 fun r53 w54 => loopP (σ := Int × Unit) (fun st56 next55 w57 => (fun (i_58 : Int) => iteB (decide ((i_58 : Int) < (r5.l : Int)))
  (idxP r5.a r5.l i_58 1 fun a59 => stP a59 (.int .u8 5) w57 fun w60 => next55 ((IntKind.i64.wrap (i_58 + 1)), ()) w60)
  (K r53 w57)) st56.1) (0, ()) w54)
  (ldS (a1.add 2) w6 fun s61 => c_preludelaw01_intact r5 s61 w6 fun r62 w63 => loopP (σ := Int × Unit) (fun st65 next64 w66 => (fun (i_67 : Int) => iteB (decide ((i_67 : Int) < (r5.l : Int)))
  (idxP r5.a r5.l i_67 1 fun a68 => stP a68 (.int .u8 5) w66 fun w69 => next64 ((IntKind.i64.wrap (i_67 + 1)), ()) w69)
  (K r62 w66)) st65.1) (0, ()) w63)))))
  (iteB ((n7 : Int) == 6)
  (ldI .u64 (a1.add 1) w6 fun n70 => c_codec_Writer_Uint w_0 n70 w6 fun w71 => ldS (a1.add 2) w71 fun s72 => c_preludelaw01_intact r5 s72 w71 fun r73 w74 => loopP (σ := Int × Unit) (fun st76 next75 w77 => (fun (i_78 : Int) => iteB (decide ((i_78 : Int) < (r5.l : Int)))
  (idxP r5.a r5.l i_78 1 fun a79 => stP a79 (.int .u8 5) w77 fun w80 => next75 ((IntKind.i64.wrap (i_78 + 1)), ()) w80)
  (K r73 w77)) st76.1) (0, ()) w74)
  (iteB ((n7 : Int) == 3)
  (ldI .u64 (a1.add 1) w6 fun n81 => c_codec_Writer_Int w_0 (IntKind.i64.wrap n81) w6 fun w82 => ldS (a1.add 2) w82 fun s83 => c_preludelaw01_intact r5 s83 w82 fun r84 w85 => loopP (σ := Int × Unit) (fun st87 next86 w88 => (fun (i_89 : Int) => iteB (decide ((i_89 : Int) < (r5.l : Int)))
  (idxP r5.a r5.l i_89 1 fun a90 => stP a90 (.int .u8 5) w88 fun w91 => next86 ((IntKind.i64.wrap (i_89 + 1)), ()) w91)
  (K r84 w88)) st87.1) (0, ()) w85)
  (iteB ((n7 : Int) == 4)
  (c_codec_Writer_Bytes w_0 r4 w6 fun w92 => ldS (a1.add 2) w92 fun s93 => c_preludelaw01_intact r5 s93 w92 fun r94 w95 => loopP (σ := Int × Unit) (fun st97 next96 w98 => (fun (i_99 : Int) => iteB (decide ((i_99 : Int) < (r5.l : Int)))
  (idxP r5.a r5.l i_99 1 fun a100 => stP a100 (.int .u8 5) w98 fun w101 => next96 ((IntKind.i64.wrap (i_99 + 1)), ()) w101)
  (K r94 w98)) st97.1) (0, ()) w95)
  (iteB ((n7 : Int) == 5)
  (c_codec_Writer_Raw w_0 r4 w6 fun w102 => ldS (a1.add 2) w102 fun s103 => c_preludelaw01_intact r5 s103 w102 fun r104 w105 => loopP (σ := Int × Unit) (fun st107 next106 w108 => (fun (i_109 : Int) => iteB (decide ((i_109 : Int) < (r5.l : Int)))
  (idxP r5.a r5.l i_109 1 fun a110 => stP a110 (.int .u8 5) w108 fun w111 => next106 ((IntKind.i64.wrap (i_109 + 1)), ()) w111)
  (K r104 w108)) st107.1) (0, ()) w105)
  (ldS (a1.add 2) w6 fun s112 => c_preludelaw01_intact r5 s112 w6 fun r113 w114 => loopP (σ := Int × Unit) (fun st116 next115 w117 => (fun (i_118 : Int) => iteB (decide ((i_118 : Int) < (r5.l : Int)))
  (idxP r5.a r5.l i_118 1 fun a119 => stP a119 (.int .u8 5) w117 fun w120 => next115 ((IntKind.i64.wrap (i_118 + 1)), ()) w120)
  (K r113 w117)) st116.1) (0, ()) w114))))))

def c_preludelaw01_written (w_0 : Option Addr) (o_1_0 : Int) (o_1_1 : Int) (o_1_2 : Slc) (o_1_3 : Int) (o_1_4 : Bool) (w : World) (K : Bool → World → Prop) : Prop := Calls Try.prog 8 #[.pointer w_0, .agg #[.int .i64 o_1_0, .int .u64 o_1_1, .slice o_1_2.a o_1_2.l o_1_2.c, .int .i64 o_1_3, .bool o_1_4]] w (onRet (fun v w' => ∃ (y0 : Bool), v = .bool y0 ∧ K y0 w'))

theorem sim_preludelaw01_written {w_0 : Option Addr} {o_1_0 : Int} {o_1_1 : Int} {o_1_2 : Slc} {o_1_3 : Int} {o_1_4 : Bool} {w : World} {K : Bool → World → Prop} (h : sh_preludelaw01_written c_preludelaw01_roomy c_codec_Writer_Byte c_preludelaw01_intact c_codec_Writer_Uint c_codec_Writer_Int c_codec_Writer_Bytes c_codec_Writer_Raw w_0 o_1_0 o_1_1 o_1_2 o_1_3 o_1_4 w K) : c_preludelaw01_written w_0 o_1_0 o_1_1 o_1_2 o_1_3 o_1_4 w K := by
  have e : sh_preludelaw01_written c_preludelaw01_roomy c_codec_Writer_Byte c_preludelaw01_intact c_codec_Writer_Uint c_codec_Writer_Int c_codec_Writer_Bytes c_codec_Writer_Raw w_0 o_1_0 o_1_1 o_1_2 o_1_3 o_1_4 w K = shF Try.prog 8 ⟨[], [(16, [(8, (.int .i64))], [6, 7])], []⟩ [.pointer w_0, .agg #[.int .i64 o_1_0, .int .u64 o_1_1, .slice o_1_2.a o_1_2.l o_1_2.c, .int .i64 o_1_3, .bool o_1_4]] w (fun v w' => decV .b v fun y0 => K y0 w') := by kernel_rfl
  exact Calls.mono (calls_of _ e h) (onRet_mono (fun _ _ h => decV_spec h))

-- 38 prelude/preluderef01.Uint; callees []
def sh_preluderef01_Uint (n_0 : Int) (w : World) (K : Slc → World → Prop) : Prop :=
  loopP (σ := Int × Slc × Unit) (fun st2 next1 w3 => (fun (n_4 : Int) (b_5 : Slc) => iteB (decide ((n_4 : Int) ≥ 128))
  (dzP 128 (newP #[.int .u8 (IntKind.u8.wrap ((IntKind.u8.wrap (Int.tmod n_4 128)) + 128))] 5 w3 fun a6 w7 => apP Try.prog #[26, 26] 26 [.slice b_5.a b_5.l b_5.c, .slice (some a6) 1 1] w7 fun s9 w8 => dzP 128 (next1 ((IntKind.u64.wrap (Int.tdiv n_4 128)), s9, ()) w8)))
  (newP #[.int .u8 (IntKind.u8.wrap n_4)] 5 w3 fun a10 w11 => apP Try.prog #[26, 26] 26 [.slice b_5.a b_5.l b_5.c, .slice (some a10) 1 1] w11 fun s13 w12 => K s13 w12)) st2.1 st2.2.1) (n_0, ⟨none, 0, 0⟩, ()) w

def c_preluderef01_Uint (n_0 : Int) (w : World) (K : Slc → World → Prop) : Prop := Calls Try.prog 38 #[.int .u64 n_0] w (onRet (fun v w' => ∃ (y0 : Slc), v = .slice y0.a y0.l y0.c ∧ K y0 w'))

theorem sim_preluderef01_Uint {n_0 : Int} {w : World} {K : Slc → World → Prop} (h : sh_preluderef01_Uint n_0 w K) : c_preluderef01_Uint n_0 w K := by
  have e : sh_preluderef01_Uint n_0 w K = shF Try.prog 38 ⟨[], [(2, [(0, (.int .u64)), (3, .sl)], [])], []⟩ [.int .u64 n_0] w (fun v w' => decV .sl v fun y0 => K y0 w') := by kernel_rfl
  exact Calls.mono (calls_of _ e h) (onRet_mono (fun _ _ h => decV_spec h))

-- 50 prelude/preluderef01.Fold; callees []
def sh_preluderef01_Fold (n_0 : Int) (w : World) (K : Int → World → Prop) : Prop :=
  iteB (decide ((n_0 : Int) ≥ 0))
  (K (IntKind.u64.wrap (2 * (IntKind.u64.wrap n_0))) w)
  (K (IntKind.u64.wrap ((IntKind.u64.wrap (2 * (IntKind.u64.wrap (IntKind.i64.wrap ((-1) - n_0))))) + 1)) w)

def c_preluderef01_Fold (n_0 : Int) (w : World) (K : Int → World → Prop) : Prop := Calls Try.prog 50 #[.int .i64 n_0] w (onRet (fun v w' => ∃ (y0 : Int), v = .int .u64 y0 ∧ K y0 w'))

theorem sim_preluderef01_Fold {n_0 : Int} {w : World} {K : Int → World → Prop} (h : sh_preluderef01_Fold n_0 w K) : c_preluderef01_Fold n_0 w K := by
  have e : sh_preluderef01_Fold n_0 w K = shF Try.prog 50 ⟨[], [], []⟩ [.int .i64 n_0] w (fun v w' => decV (.int .u64) v fun y0 => K y0 w') := by kernel_rfl
  exact Calls.mono (calls_of _ e h) (onRet_mono (fun _ _ h => decV_spec h))

-- 39 prelude/preluderef01.Int; callees ['preluderef01_Fold', 'preluderef01_Uint']
def sh_preluderef01_Int (c_preluderef01_Fold : Int → World → (Int → World → Prop) → Prop) (c_preluderef01_Uint : Int → World → (Slc → World → Prop) → Prop) (n_0 : Int) (w : World) (K : Slc → World → Prop) : Prop :=
  c_preluderef01_Fold n_0 w fun r1 w2 => c_preluderef01_Uint r1 w2 fun r3 w4 => K r3 w4

def c_preluderef01_Int (n_0 : Int) (w : World) (K : Slc → World → Prop) : Prop := Calls Try.prog 39 #[.int .i64 n_0] w (onRet (fun v w' => ∃ (y0 : Slc), v = .slice y0.a y0.l y0.c ∧ K y0 w'))

theorem sim_preluderef01_Int {n_0 : Int} {w : World} {K : Slc → World → Prop} (h : sh_preluderef01_Int c_preluderef01_Fold c_preluderef01_Uint n_0 w K) : c_preluderef01_Int n_0 w K := by
  have e : sh_preluderef01_Int c_preluderef01_Fold c_preluderef01_Uint n_0 w K = shF Try.prog 39 ⟨[], [], []⟩ [.int .i64 n_0] w (fun v w' => decV .sl v fun y0 => K y0 w') := by kernel_rfl
  exact Calls.mono (calls_of _ e h) (onRet_mono (fun _ _ h => decV_spec h))

-- 18 prelude/preludelaw01.copied; callees []
def sh_preludelaw01_copied (b_0 : Slc) (w : World) (K : Slc → World → Prop) : Prop :=
  mkP Try.prog 26 (.int .i64 (b_0.l : Int)) (.int .i64 (b_0.l : Int)) w fun s1 w2 => cpP Try.prog #[26, 26] 3 [.slice s1.a s1.l s1.c, .slice b_0.a b_0.l b_0.c] w2 fun n4 w3 => K s1 w3

def c_preludelaw01_copied (b_0 : Slc) (w : World) (K : Slc → World → Prop) : Prop := Calls Try.prog 18 #[.slice b_0.a b_0.l b_0.c] w (onRet (fun v w' => ∃ (y0 : Slc), v = .slice y0.a y0.l y0.c ∧ K y0 w'))

theorem sim_preludelaw01_copied {b_0 : Slc} {w : World} {K : Slc → World → Prop} (h : sh_preludelaw01_copied b_0 w K) : c_preludelaw01_copied b_0 w K := by
  have e : sh_preludelaw01_copied b_0 w K = shF Try.prog 18 ⟨[], [], []⟩ [.slice b_0.a b_0.l b_0.c] w (fun v w' => decV .sl v fun y0 => K y0 w') := by kernel_rfl
  exact Calls.mono (calls_of _ e h) (onRet_mono (fun _ _ h => decV_spec h))

-- 9 prelude/preludelaw01.form; callees ['preluderef01_Uint', 'preluderef01_Int', 'preludelaw01_copied']
def sh_preludelaw01_form (c_preluderef01_Uint : Int → World → (Slc → World → Prop) → Prop) (c_preluderef01_Int : Int → World → (Slc → World → Prop) → Prop) (c_preludelaw01_copied : Slc → World → (Slc → World → Prop) → Prop) (o_0_0 : Int) (o_0_1 : Int) (o_0_2 : Slc) (o_0_3 : Int) (o_0_4 : Bool) (w : World) (K : Slc → World → Prop) : Prop :=
  newP #[.int .i64 o_0_0, .int .u64 o_0_1, .slice o_0_2.a o_0_2.l o_0_2.c, .int .i64 o_0_3, .bool o_0_4] 34 w fun a1 w2 => ldI .i64 a1 w2 fun n3 => iteB ((n3 : Int) == 1)
  (ldI .u64 (a1.add 1) w2 fun n4 => newP #[.int .u8 (IntKind.u8.wrap n4)] 5 w2 fun a5 w6 => K ⟨(some a5), 1, 1⟩ w6)
  (iteB ((n3 : Int) == 2)
  (iteB ((n3 : Int) == 2)
  (ldI .u64 (a1.add 1) w2 fun n7 => c_preluderef01_Uint n7 w2 fun r8 w9 => K r8 w9)
  (iteB ((n3 : Int) == 3)
  (ldI .u64 (a1.add 1) w2 fun n10 => c_preluderef01_Int (IntKind.i64.wrap n10) w2 fun r11 w12 => K r11 w12)
  (iteB ((n3 : Int) == 4)
  (ldS (a1.add 2) w2.drew fun s13 => ldS (a1.add 2) w2.drew fun s14 => c_preluderef01_Uint (IntKind.u64.wrap (s13.l : Int)) w2.drew fun r15 w16 => w16.cell? (a1.add 2) = some (.slice s14.a s14.l s14.c) ∧ (apP Try.prog #[26, 26] 26 [.slice r15.a r15.l r15.c, .slice s14.a s14.l s14.c] w16 fun s18 w17 => K s18 w17))
  (iteB ((n3 : Int) == 5)
  (ldS (a1.add 2) w2 fun s19 => c_preludelaw01_copied s19 w2 fun r20 w21 => K r20 w21)
  (K ⟨none, 0, 0⟩ w2)))))
  (iteB ((n3 : Int) == 6)
  (ldI .u64 (a1.add 1) w2 fun n22 => c_preluderef01_Uint n22 w2 fun r23 w24 => K r23 w24)
  (iteB ((n3 : Int) == 3)
  (ldI .u64 (a1.add 1) w2 fun n25 => c_preluderef01_Int (IntKind.i64.wrap n25) w2 fun r26 w27 => K r26 w27)
  (iteB ((n3 : Int) == 4)
  (ldS (a1.add 2) w2.drew fun s28 => ldS (a1.add 2) w2.drew fun s29 => c_preluderef01_Uint (IntKind.u64.wrap (s28.l : Int)) w2.drew fun r30 w31 => w31.cell? (a1.add 2) = some (.slice s29.a s29.l s29.c) ∧ (apP Try.prog #[26, 26] 26 [.slice r30.a r30.l r30.c, .slice s29.a s29.l s29.c] w31 fun s33 w32 => K s33 w32))
  (iteB ((n3 : Int) == 5)
  (ldS (a1.add 2) w2 fun s34 => c_preludelaw01_copied s34 w2 fun r35 w36 => K r35 w36)
  (K ⟨none, 0, 0⟩ w2))))))

def c_preludelaw01_form (o_0_0 : Int) (o_0_1 : Int) (o_0_2 : Slc) (o_0_3 : Int) (o_0_4 : Bool) (w : World) (K : Slc → World → Prop) : Prop := Calls Try.prog 9 #[.agg #[.int .i64 o_0_0, .int .u64 o_0_1, .slice o_0_2.a o_0_2.l o_0_2.c, .int .i64 o_0_3, .bool o_0_4]] w (onRet (fun v w' => ∃ (y0 : Slc), v = .slice y0.a y0.l y0.c ∧ K y0 w'))

theorem sim_preludelaw01_form {o_0_0 : Int} {o_0_1 : Int} {o_0_2 : Slc} {o_0_3 : Int} {o_0_4 : Bool} {w : World} {K : Slc → World → Prop} (h : sh_preludelaw01_form c_preluderef01_Uint c_preluderef01_Int c_preludelaw01_copied o_0_0 o_0_1 o_0_2 o_0_3 o_0_4 w K) : c_preludelaw01_form o_0_0 o_0_1 o_0_2 o_0_3 o_0_4 w K := by
  have e : sh_preludelaw01_form c_preluderef01_Uint c_preluderef01_Int c_preludelaw01_copied o_0_0 o_0_1 o_0_2 o_0_3 o_0_4 w K = shF Try.prog 9 ⟨[(10, [0, 1, 2, 3, 5, 6, 4, 7, 8])], [], []⟩ [.agg #[.int .i64 o_0_0, .int .u64 o_0_1, .slice o_0_2.a o_0_2.l o_0_2.c, .int .i64 o_0_3, .bool o_0_4]] w (fun v w' => decV .sl v fun y0 => K y0 w') := by kernel_rfl
  exact Calls.mono (calls_of _ e h) (onRet_mono (fun _ _ h => decV_spec h))

-- 40 slices.Clone[[]byte,byte]; callees []
def sh_slices_Clone_byte_byte (s_0 : Slc) (w : World) (K : Slc → World → Prop) : Prop :=
  iteB ((s_0.a).isNone)
  (K ⟨none, 0, 0⟩ w)
  (newP #[] 5 w fun a1 w2 => apP Try.prog #[26, 26] 26 [.slice (some a1) 0 0, .slice s_0.a s_0.l s_0.c] w2 fun s4 w3 => K s4 w3)

def c_slices_Clone_byte_byte (s_0 : Slc) (w : World) (K : Slc → World → Prop) : Prop := Calls Try.prog 40 #[.slice s_0.a s_0.l s_0.c] w (onRet (fun v w' => ∃ (y0 : Slc), v = .slice y0.a y0.l y0.c ∧ K y0 w'))

theorem sim_slices_Clone_byte_byte {s_0 : Slc} {w : World} {K : Slc → World → Prop} (h : sh_slices_Clone_byte_byte s_0 w K) : c_slices_Clone_byte_byte s_0 w K := by
  have e : sh_slices_Clone_byte_byte s_0 w K = shF Try.prog 40 ⟨[], [], []⟩ [.slice s_0.a s_0.l s_0.c] w (fun v w' => decV .sl v fun y0 => K y0 w') := by kernel_rfl
  exact Calls.mono (calls_of _ e h) (onRet_mono (fun _ _ h => decV_spec h))

-- 10 (*prelude/codec.Writer).Out; callees ['slices_Clone_byte_byte']
def sh_codec_Writer_Out (c_slices_Clone_byte_byte : Slc → World → (Slc → World → Prop) → Prop) (w_0 : Option Addr) (w : World) (K : Slc → World → Prop) : Prop :=
  nnP w_0 fun a1 => ldS a1 w fun s2 => c_slices_Clone_byte_byte s2 w fun r3 w4 => K r3 w4

def c_codec_Writer_Out (w_0 : Option Addr) (w : World) (K : Slc → World → Prop) : Prop := Calls Try.prog 10 #[.pointer w_0] w (onRet (fun v w' => ∃ (y0 : Slc), v = .slice y0.a y0.l y0.c ∧ K y0 w'))

theorem sim_codec_Writer_Out {w_0 : Option Addr} {w : World} {K : Slc → World → Prop} (h : sh_codec_Writer_Out c_slices_Clone_byte_byte w_0 w K) : c_codec_Writer_Out w_0 w K := by
  have e : sh_codec_Writer_Out c_slices_Clone_byte_byte w_0 w K = shF Try.prog 10 ⟨[], [], []⟩ [.pointer w_0] w (fun v w' => decV .sl v fun y0 => K y0 w') := by kernel_rfl
  exact Calls.mono (calls_of _ e h) (onRet_mono (fun _ _ h => decV_spec h))

-- 12 (*prelude/codec.Writer).Len; callees []
def sh_codec_Writer_Len (w_0 : Option Addr) (w : World) (K : Int → World → Prop) : Prop :=
  nnP w_0 fun a1 => ldS a1 w fun s2 => K (s2.l : Int) w

def c_codec_Writer_Len (w_0 : Option Addr) (w : World) (K : Int → World → Prop) : Prop := Calls Try.prog 12 #[.pointer w_0] w (onRet (fun v w' => ∃ (y0 : Int), v = .int .i64 y0 ∧ K y0 w'))

theorem sim_codec_Writer_Len {w_0 : Option Addr} {w : World} {K : Int → World → Prop} (h : sh_codec_Writer_Len w_0 w K) : c_codec_Writer_Len w_0 w K := by
  have e : sh_codec_Writer_Len w_0 w K = shF Try.prog 12 ⟨[], [], []⟩ [.pointer w_0] w (fun v w' => decV (.int .i64) v fun y0 => K y0 w') := by kernel_rfl
  exact Calls.mono (calls_of _ e h) (onRet_mono (fun _ _ h => decV_spec h))

-- 13 (*prelude/preludelaw01.book).put; callees ['preludelaw01_copied']
def sh_preludelaw01_book_put (c_preludelaw01_copied : Slc → World → (Slc → World → Prop) → Prop) (k_0 : Option Addr) (l_1 : Slc) (w : World) (K : World → Prop) : Prop :=
  nnP k_0 fun a1 => ldS a1 w fun s2 => newP #[.slice l_1.a l_1.l l_1.c] 26 w fun a3 w4 => apP Try.prog #[29, 29] 29 [.slice s2.a s2.l s2.c, .slice (some a3) 1 1] w4 fun s6 w5 => nnP k_0 fun a7 => stP a7 (.slice s6.a s6.l s6.c) w5 fun w8 => nnP k_0 fun a9 => ldS (a9.add 1) w8.drew fun s10 => c_preludelaw01_copied l_1 w8.drew fun r11 w12 => w12.cell? (a9.add 1) = some (.slice s10.a s10.l s10.c) ∧ (newP #[.slice r11.a r11.l r11.c] 26 w12 fun a13 w14 => w14.cell? (a9.add 1) = some (.slice s10.a s10.l s10.c) ∧ (apP Try.prog #[29, 29] 29 [.slice s10.a s10.l s10.c, .slice (some a13) 1 1] w14 fun s16 w15 => nnP k_0 fun a17 => stP (a17.add 1) (.slice s16.a s16.l s16.c) w15 fun w18 => K w18))

def c_preludelaw01_book_put (k_0 : Option Addr) (l_1 : Slc) (w : World) (K : World → Prop) : Prop := Calls Try.prog 13 #[.pointer k_0, .slice l_1.a l_1.l l_1.c] w (onRet (fun v w' => v = .tuple #[] ∧ K w'))

theorem sim_preludelaw01_book_put {k_0 : Option Addr} {l_1 : Slc} {w : World} {K : World → Prop} (h : sh_preludelaw01_book_put c_preludelaw01_copied k_0 l_1 w K) : c_preludelaw01_book_put k_0 l_1 w K := by
  have e : sh_preludelaw01_book_put c_preludelaw01_copied k_0 l_1 w K = shF Try.prog 13 ⟨[(1, [0, 1, 2, 3, 4, 5, 6, 7, 8, 9, 10, 11])], [], []⟩ [.pointer k_0, .slice l_1.a l_1.l l_1.c] w (fun v w' => decU v (K w')) := by kernel_rfl
  exact Calls.mono (calls_of _ e h) (onRet_mono (fun _ _ h => decU_spec h))

-- 41 (*prelude/preludelaw01.book).whole; callees ['preludelaw01_same']
def sh_preludelaw01_book_whole (c_preludelaw01_same : Slc → Slc → World → (Bool → World → Prop) → Prop) (k_0 : Option Addr) (w : World) (K : Bool → World → Prop) : Prop :=
  loopP (σ := Int × Unit) (fun st2 next1 w3 => (fun (i_4 : Int) => nnP k_0 fun a5 => ldS a5 w3 fun s6 => iteB (decide ((i_4 : Int) < (s6.l : Int)))
  (nnP k_0 fun a7 => ldS a7 w3.drew fun s8 => idxP s8.a s8.l i_4 1 fun a9 => ldS a9 w3.drew fun s10 => nnP k_0 fun a11 => ldS (a11.add 1) w3.drew fun s12 => idxP s12.a s12.l i_4 1 fun a13 => ldS a13 w3.drew fun s14 => c_preludelaw01_same s10 s14 w3.drew fun r15 w16 => iteB (!r15)
  (K false w16)
  (next1 ((IntKind.i64.wrap (i_4 + 1)), ()) w16))
  (K true w3)) st2.1) (0, ()) w

def c_preludelaw01_book_whole (k_0 : Option Addr) (w : World) (K : Bool → World → Prop) : Prop := Calls Try.prog 41 #[.pointer k_0] w (onRet (fun v w' => ∃ (y0 : Bool), v = .bool y0 ∧ K y0 w'))

theorem sim_preludelaw01_book_whole {k_0 : Option Addr} {w : World} {K : Bool → World → Prop} (h : sh_preludelaw01_book_whole c_preludelaw01_same k_0 w K) : c_preludelaw01_book_whole k_0 w K := by
  have e : sh_preludelaw01_book_whole c_preludelaw01_same k_0 w K = shF Try.prog 41 ⟨[(4, [0, 1, 2, 3, 4, 5, 6, 7, 8, 9, 10, 11, 12, 13, 14, 15])], [(2, [(3, (.int .i64))], [0])], []⟩ [.pointer k_0] w (fun v w' => decV .b v fun y0 => K y0 w') := by kernel_rfl
  exact Calls.mono (calls_of _ e h) (onRet_mono (fun _ _ h => decV_spec h))

-- 14 (*prelude/preludelaw01.book).ends; callees ['preludelaw01_book_whole', 'preludelaw01_same']
def sh_preludelaw01_book_ends (c_preludelaw01_book_whole : Option Addr → World → (Bool → World → Prop) → Prop) (c_preludelaw01_same : Slc → Slc → World → (Bool → World → Prop) → Prop) (x_0 : Option Addr) (w : World) (K : Bool → World → Prop) : Prop :=
  c_preludelaw01_book_whole x_0 w fun r1 w2 => iteB (!r1)
  (K false w2)
  (loopP (σ := Int × Unit) (fun st4 next3 w5 => (fun (x6 : Int) => nnP x_0 fun a7 => ldS a7 w5 fun s8 => iteB (decide ((x6 : Int) < (s8.l : Int)))
  (loopP (σ := Int × Unit) (fun st10 next9 w11 => (fun (x12 : Int) => nnP x_0 fun a13 => ldS a13 w11 fun s14 => idxP s14.a s14.l x6 1 fun a15 => ldS a15 w11 fun s16 => iteB (decide ((x12 : Int) < (s16.l : Int)))
  (nnP x_0 fun a17 => ldS a17 w11 fun s18 => idxP s18.a s18.l x6 1 fun a19 => ldS a19 w11 fun s20 => idxP s20.a s20.l x12 1 fun a21 => stP a21 (.int .u8 (IntKind.u8.wrap (IntKind.i64.wrap ((IntKind.i64.wrap (x6 * 7)) + x12)))) w11 fun w22 => nnP x_0 fun a23 => ldS (a23.add 1) w22 fun s24 => idxP s24.a s24.l x6 1 fun a25 => ldS a25 w22 fun s26 => idxP s26.a s26.l x12 1 fun a27 => stP a27 (.int .u8 (IntKind.u8.wrap (IntKind.i64.wrap ((IntKind.i64.wrap (x6 * 7)) + x12)))) w22 fun w28 => next9 ((IntKind.i64.wrap (x12 + 1)), ()) w28)
  (next3 ((IntKind.i64.wrap (x6 + 1)), ()) w11)) st10.1) (0, ()) w5)
  (loopP (σ := Slc × Int × Unit) (fun st30 next29 w31 => (fun (x32 : Slc) (x33 : Int) => nnP x_0 fun a34 => ldS a34 w31 fun s35 => iteB (decide ((x33 : Int) < (s35.l : Int)))
  (nnP x_0 fun a36 => ldS a36 w31 fun s37 => idxP s37.a s37.l x33 1 fun a38 => ldS a38 w31 fun s39 => newP #[.slice s39.a s39.l s39.c] 26 w31 fun a40 w41 => apP Try.prog #[29, 29] 29 [.slice x32.a x32.l x32.c, .slice (some a40) 1 1] w41 fun s43 w42 => next29 (s43, (IntKind.i64.wrap (x33 + 1)), ()) w42)
  (loopP (σ := Int × Unit) (fun st45 next44 w46 => (fun (x47 : Int) => iteB (decide ((x47 : Int) < 70))
  (loopP (σ := Int × Unit) (fun st49 next48 w50 => (fun (x51 : Int) => iteB (decide ((x51 : Int) < (x32.l : Int)))
  (idxP x32.a x32.l x51 1 fun a52 => ldS a52 w50 fun s53 => newP #[.int .u8 (IntKind.u8.wrap (IntKind.i64.wrap (100 + (IntKind.i64.wrap (x51 * 3)))))] 5 w50 fun a54 w55 => apP Try.prog #[26, 26] 26 [.slice s53.a s53.l s53.c, .slice (some a54) 1 1] w55 fun s57 w56 => idxP x32.a x32.l x51 1 fun a58 => stP a58 (.slice s57.a s57.l s57.c) w56 fun w59 => next48 ((IntKind.i64.wrap (x51 + 1)), ()) w59)
  (next44 ((IntKind.i64.wrap (x47 + 1)), ()) w50)) st49.1) (0, ()) w46)
  (loopP (σ := Int × Unit) (fun st61 next60 w62 => (fun (x63 : Int) => iteB (decide ((x63 : Int) < (x32.l : Int)))
  (nnP x_0 fun a64 => ldS a64 w62 fun s65 => idxP s65.a s65.l x63 1 fun a66 => ldS a66 w62 fun s67 => idxP x32.a x32.l x63 1 fun a68 => ldS a68 w62.drew fun s69 => slP s69.a s69.l s69.c none (some (s67.l : Int)) 1 fun p70 l71 c72 => nnP x_0 fun a73 => ldS (a73.add 1) w62.drew fun s74 => idxP s74.a s74.l x63 1 fun a75 => ldS a75 w62.drew fun s76 => c_preludelaw01_same ⟨p70, l71, c72⟩ s76 w62.drew fun r77 w78 => iteB (!r77)
  (K false w78)
  (loopP (σ := Int × Unit) (fun st80 next79 w81 => (fun (x82 : Int) => idxP x32.a x32.l x63 1 fun a83 => ldS a83 w81 fun s84 => iteB (decide ((x82 : Int) < (s84.l : Int)))
  (idxP x32.a x32.l x63 1 fun a85 => ldS a85 w81 fun s86 => idxP s86.a s86.l x82 1 fun a87 => ldI .u8 a87 w81 fun n88 => iteB ((n88 : Int) != (IntKind.u8.wrap (IntKind.i64.wrap (100 + (IntKind.i64.wrap (x63 * 3))))))
  (K false w81)
  (next79 ((IntKind.i64.wrap (x82 + 1)), ()) w81))
  (next60 ((IntKind.i64.wrap (x63 + 1)), ()) w81)) st80.1) ((s67.l : Int), ()) w78))
  (c_preludelaw01_book_whole x_0 w62 fun r89 w90 => K r89 w90)) st61.1) (0, ()) w46)) st45.1) (0, ()) w31)) st30.1 st30.2.1) (⟨none, 0, 0⟩, 0, ()) w5)) st4.1) (0, ()) w2)

def c_preludelaw01_book_ends (x_0 : Option Addr) (w : World) (K : Bool → World → Prop) : Prop := Calls Try.prog 14 #[.pointer x_0] w (onRet (fun v w' => ∃ (y0 : Bool), v = .bool y0 ∧ K y0 w'))

theorem sim_preludelaw01_book_ends {x_0 : Option Addr} {w : World} {K : Bool → World → Prop} (h : sh_preludelaw01_book_ends c_preludelaw01_book_whole c_preludelaw01_same x_0 w K) : c_preludelaw01_book_ends x_0 w K := by
  have e : sh_preludelaw01_book_ends c_preludelaw01_book_whole c_preludelaw01_same x_0 w K = shF Try.prog 14 ⟨[(27, [0, 1, 2, 3, 4, 5, 6, 7, 8, 9, 10, 11, 12, 13, 14])], [(4, [(3, (.int .i64))], [0]), (7, [(4, (.int .i64))], [0, 3]), (13, [(5, .sl), (6, (.int .i64))], [0]), (17, [(7, (.int .i64))], [0, 5]), (20, [(8, (.int .i64))], [0, 5, 7]), (24, [(9, (.int .i64))], [0, 5]), (30, [(11, (.int .i64))], [0, 5, 9])], []⟩ [.pointer x_0] w (fun v w' => decV .b v fun y0 => K y0 w') := by kernel_rfl
  exact Calls.mono (calls_of _ e h) (onRet_mono (fun _ _ h => decV_spec h))

-- 3 prelude/preludelaw01.CodecWrites; callees ['codec_New', 'preludelaw01_written', 'preludelaw01_form', 'codec_Writer_Out', 'preludelaw01_same', 'codec_Writer_Len', 'preludelaw01_book_put', 'preludelaw01_book_ends']
def sh_preludelaw01_CodecWrites (c_codec_New : World → (Option Addr → World → Prop) → Prop) (c_preludelaw01_written : Option Addr → Int → Int → Slc → Int → Bool → World → (Bool → World → Prop) → Prop) (c_preludelaw01_form : Int → Int → Slc → Int → Bool → World → (Slc → World → Prop) → Prop) (c_codec_Writer_Out : Option Addr → World → (Slc → World → Prop) → Prop) (c_preludelaw01_same : Slc → Slc → World → (Bool → World → Prop) → Prop) (c_codec_Writer_Len : Option Addr → World → (Int → World → Prop) → Prop) (c_preludelaw01_book_put : Option Addr → Slc → World → (World → Prop) → Prop) (c_preludelaw01_book_ends : Option Addr → World → (Bool → World → Prop) → Prop) (x_0 : Slc) (w : World) (K : Bool → World → Prop) : Prop :=
  c_codec_New  w fun r1 w2 => c_codec_New  w2 fun r3 w4 => newP #[.pointer none, .pointer none] 25 w4 fun a5 w6 => stP a5 (.pointer r1) w6 fun w7 => stP (a5.add 1) (.pointer r3) w7 fun w8 => arrP 2 0 (ldP (a5.add (Int.toNat 0 * 1)) w8 fun p9 => iteB ((p9).isNone)
  (K false w8)
  (arrP 2 1 (ldP (a5.add (Int.toNat 1 * 1)) w8 fun p10 => iteB ((p10).isNone)
  (K false w8)
  (newP #[.slice none 0 0, .slice none 0 0] 27 w8 fun a11 w12 => newP #[.slice none 0 0, .slice none 0 0] 31 w12 fun a13 w14 => loopP (σ := Int × Unit) (fun st16 next15 w17 => (fun (x18 : Int) => iteB (decide ((x18 : Int) < (x_0.l : Int)))
  (idxP x_0.a x_0.l x18 5 fun a19 => ldI .i64 a19 w17 fun n20 => ldI .u64 (a19.add 1) w17 fun n21 => ldS (a19.add 2) w17 fun s22 => ldI .i64 (a19.add 3) w17 fun n23 => ldB (a19.add 4) w17 fun t24 => newP #[.int .i64 0, .int .u64 0, .slice none 0 0, .int .i64 0, .bool false] 34 w17 fun a25 w26 => stP a25 (.int .i64 n20) w26 fun w27 => stP (a25.add 1) (.int .u64 n21) w27 fun w28 => stP (a25.add 2) (.slice s22.a s22.l s22.c) w28 fun w29 => stP (a25.add 3) (.int .i64 n23) w29 fun w30 => stP (a25.add 4) (.bool t24) w30 fun w31 => ldB (a25.add 4) w31 fun t32 => iteB t32
  (arrP 2 1 (ldP (a5.add (Int.toNat 1 * 1)) w31.drew fun p33 => ldI .i64 a25 w31.drew fun n34 => ldI .u64 (a25.add 1) w31.drew fun n35 => ldS (a25.add 2) w31.drew fun s36 => ldI .i64 (a25.add 3) w31.drew fun n37 => ldB (a25.add 4) w31.drew fun t38 => c_preludelaw01_written p33 n34 n35 s36 n37 t38 w31.drew fun r39 w40 => iteB (!r39)
  (K false w40)
  (arrP 2 1 (ldS (a11.add (Int.toNat 1 * 1)) w40.drew fun s41 => ldI .i64 a25 w40.drew fun n42 => ldI .u64 (a25.add 1) w40.drew fun n43 => ldS (a25.add 2) w40.drew fun s44 => ldI .i64 (a25.add 3) w40.drew fun n45 => ldB (a25.add 4) w40.drew fun t46 => c_preludelaw01_form n42 n43 s44 n45 t46 w40.drew fun r47 w48 => w48.cell? (a11.add (Int.toNat 1 * 1)) = some (.slice s41.a s41.l s41.c) ∧ (apP Try.prog #[26, 26] 26 [.slice s41.a s41.l s41.c, .slice r47.a r47.l r47.c] w48 fun s50 w49 => arrP 2 1 (stP (a11.add (Int.toNat 1 * 1)) (.slice s50.a s50.l s50.c) w49 fun w51 => ldI .i64 a25 w51 fun n52 => iteB ((n52 : Int) == 8)
  (arrP 2 1 (ldP (a5.add (Int.toNat 1 * 1)) w51 fun p53 => c_codec_Writer_Out p53 w51 fun r54 w55 => arrP 2 1 (ldP (a5.add (Int.toNat 1 * 1)) w55 fun p56 => c_codec_Writer_Out p56 w55 fun r57 w58 => arrP 2 1 (ldS (a11.add (Int.toNat 1 * 1)) w58.drew fun s59 => c_preludelaw01_same r54 s59 w58.drew fun r60 w61 => iteB (!r60)
  (K false w61)
  (arrP 2 1 (ldS (a11.add (Int.toNat 1 * 1)) w61 fun s62 => c_preludelaw01_same r57 s62 w61 fun r63 w64 => iteB (!r63)
  (K false w64)
  (arrP 2 1 (ldP (a5.add (Int.toNat 1 * 1)) w64 fun p65 => arrP 2 1 (ldS (a11.add (Int.toNat 1 * 1)) w64 fun s66 => c_codec_Writer_Len p65 w64 fun r67 w68 => w68.cell? (a11.add (Int.toNat 1 * 1)) = some (.slice s66.a s66.l s66.c) ∧ (iteB ((r67 : Int) != (s66.l : Int))
  (K false w68)
  (c_preludelaw01_book_put (some a13) r54 w68 fun w69 => c_preludelaw01_book_put (some a13) r57 w69 fun w70 => next15 ((IntKind.i64.wrap (x18 + 1)), ()) w70)))))))))))
  (next15 ((IntKind.i64.wrap (x18 + 1)), ()) w51)))))))
  (arrP 2 0 (ldP (a5.add (Int.toNat 0 * 1)) w31.drew fun p71 => ldI .i64 a25 w31.drew fun n72 => ldI .u64 (a25.add 1) w31.drew fun n73 => ldS (a25.add 2) w31.drew fun s74 => ldI .i64 (a25.add 3) w31.drew fun n75 => ldB (a25.add 4) w31.drew fun t76 => c_preludelaw01_written p71 n72 n73 s74 n75 t76 w31.drew fun r77 w78 => iteB (!r77)
  (K false w78)
  (arrP 2 0 (ldS (a11.add (Int.toNat 0 * 1)) w78.drew fun s79 => ldI .i64 a25 w78.drew fun n80 => ldI .u64 (a25.add 1) w78.drew fun n81 => ldS (a25.add 2) w78.drew fun s82 => ldI .i64 (a25.add 3) w78.drew fun n83 => ldB (a25.add 4) w78.drew fun t84 => c_preludelaw01_form n80 n81 s82 n83 t84 w78.drew fun r85 w86 => w86.cell? (a11.add (Int.toNat 0 * 1)) = some (.slice s79.a s79.l s79.c) ∧ (apP Try.prog #[26, 26] 26 [.slice s79.a s79.l s79.c, .slice r85.a r85.l r85.c] w86 fun s88 w87 => arrP 2 0 (stP (a11.add (Int.toNat 0 * 1)) (.slice s88.a s88.l s88.c) w87 fun w89 => ldI .i64 a25 w89 fun n90 => iteB ((n90 : Int) == 8)
  (arrP 2 0 (ldP (a5.add (Int.toNat 0 * 1)) w89 fun p91 => c_codec_Writer_Out p91 w89 fun r92 w93 => arrP 2 0 (ldP (a5.add (Int.toNat 0 * 1)) w93 fun p94 => c_codec_Writer_Out p94 w93 fun r95 w96 => arrP 2 0 (ldS (a11.add (Int.toNat 0 * 1)) w96.drew fun s97 => c_preludelaw01_same r92 s97 w96.drew fun r98 w99 => iteB (!r98)
  (K false w99)
  (arrP 2 0 (ldS (a11.add (Int.toNat 0 * 1)) w99 fun s100 => c_preludelaw01_same r95 s100 w99 fun r101 w102 => iteB (!r101)
  (K false w102)
  (arrP 2 0 (ldP (a5.add (Int.toNat 0 * 1)) w102 fun p103 => arrP 2 0 (ldS (a11.add (Int.toNat 0 * 1)) w102 fun s104 => c_codec_Writer_Len p103 w102 fun r105 w106 => w106.cell? (a11.add (Int.toNat 0 * 1)) = some (.slice s104.a s104.l s104.c) ∧ (iteB ((r105 : Int) != (s104.l : Int))
  (K false w106)
  (c_preludelaw01_book_put (some a13) r92 w106 fun w107 => c_preludelaw01_book_put (some a13) r95 w107 fun w108 => next15 ((IntKind.i64.wrap (x18 + 1)), ()) w108)))))))))))
  (next15 ((IntKind.i64.wrap (x18 + 1)), ()) w89))))))))
  (c_preludelaw01_book_ends (some a13) w17 fun r109 w110 => iteB (!r109)
  (K false w110)
  (loopP (σ := Int × Unit) (fun st112 next111 w113 => (fun (x114 : Int) => iteB (decide ((x114 : Int) < 2))
  (arrP 2 x114 (ldP (a5.add (Int.toNat x114 * 1)) w113.drew fun p115 => arrP 2 x114 (ldS (a11.add (Int.toNat x114 * 1)) w113.drew fun s116 => c_codec_Writer_Out p115 w113.drew fun r117 w118 => w118.cell? (a11.add (Int.toNat x114 * 1)) = some (.slice s116.a s116.l s116.c) ∧ (c_preludelaw01_same r117 s116 w118 fun r119 w120 => iteB (!r119)
  (K false w120)
  (arrP 2 x114 (ldP (a5.add (Int.toNat x114 * 1)) w120 fun p121 => arrP 2 x114 (ldS (a11.add (Int.toNat x114 * 1)) w120 fun s122 => c_codec_Writer_Len p121 w120 fun r123 w124 => w124.cell? (a11.add (Int.toNat x114 * 1)) = some (.slice s122.a s122.l s122.c) ∧ (iteB ((r123 : Int) != (s122.l : Int))
  (K false w124)
  (next111 ((IntKind.i64.wrap (x114 + 1)), ()) w124)))))))))
  (K true w113)) st112.1) (0, ()) w110))) st16.1) (0, ()) w14))))

def c_preludelaw01_CodecWrites (x_0 : Slc) (w : World) (K : Bool → World → Prop) : Prop := Calls Try.prog 3 #[.slice x_0.a x_0.l x_0.c] w (onRet (fun v w' => ∃ (y0 : Bool), v = .bool y0 ∧ K y0 w'))

theorem sim_preludelaw01_CodecWrites {x_0 : Slc} {w : World} {K : Bool → World → Prop} (h : sh_preludelaw01_CodecWrites c_codec_New c_preludelaw01_written c_preludelaw01_form c_codec_Writer_Out c_preludelaw01_same c_codec_Writer_Len c_preludelaw01_book_put c_preludelaw01_book_ends x_0 w K) : c_preludelaw01_CodecWrites x_0 w K := by
  have e : sh_preludelaw01_CodecWrites c_codec_New c_preludelaw01_written c_preludelaw01_form c_codec_Writer_Out c_preludelaw01_same c_codec_Writer_Len c_preludelaw01_book_put c_preludelaw01_book_ends x_0 w K = shF Try.prog 3 ⟨[(13, [0, 1, 2, 3, 4, 5]), (16, [0, 1, 2, 3, 4, 5, 6, 7, 8]), (20, [0, 1, 2, 3, 4, 5, 6, 7, 8, 9, 10, 11, 12, 13, 14, 15, 16, 17, 19, 20, 21, 22, 18, 23, 24]), (30, [0, 1, 2, 4, 5, 6, 3, 7, 8, 9, 10, 11, 12, 14, 15, 16, 17, 13, 18, 19])], [(7, [(6, (.int .i64))], [0, 3, 4, 5]), (28, [(13, (.int .i64))], [3, 4])], []⟩ [.slice x_0.a x_0.l x_0.c] w (fun v w' => decV .b v fun y0 => K y0 w') := by kernel_rfl
  exact Calls.mono (calls_of _ e h) (onRet_mono (fun _ _ h => decV_spec h))

-- 16 prelude/codec.Read; callees ['slices_Clone_byte_byte']
def sh_codec_Read (c_slices_Clone_byte_byte : Slc → World → (Slc → World → Prop) → Prop) (b_0 : Slc) (w : World) (K : Option Addr → World → Prop) : Prop :=
  c_slices_Clone_byte_byte b_0 w fun r1 w2 => newP #[.slice r1.a r1.l r1.c, .int .i64 0, .int .i64 0] 71 w2 fun a3 w4 => K (some a3) w4

def c_codec_Read (b_0 : Slc) (w : World) (K : Option Addr → World → Prop) : Prop := Calls Try.prog 16 #[.slice b_0.a b_0.l b_0.c] w (onRet (fun v w' => ∃ (y0 : Option Addr), v = .pointer y0 ∧ K y0 w'))

theorem sim_codec_Read {b_0 : Slc} {w : World} {K : Option Addr → World → Prop} (h : sh_codec_Read c_slices_Clone_byte_byte b_0 w K) : c_codec_Read b_0 w K := by
  have e : sh_codec_Read c_slices_Clone_byte_byte b_0 w K = shF Try.prog 16 ⟨[], [], []⟩ [.slice b_0.a b_0.l b_0.c] w (fun v w' => decV .ptr v fun y0 => K y0 w') := by kernel_rfl
  exact Calls.mono (calls_of _ e h) (onRet_mono (fun _ _ h => decV_spec h))

-- 25 (*prelude/codec.Reader).Raw; callees ['slices_Clone_byte_byte']
def sh_codec_Reader_Raw (c_slices_Clone_byte_byte : Slc → World → (Slc → World → Prop) → Prop) (r_0 : Option Addr) (n_1 : Int) (w : World) (K : Slc → World → Prop) : Prop :=
  nnP r_0 fun a1 => ldI .i64 (a1.add 2) w fun n2 => iteB ((n2 : Int) != 0)
  (K ⟨none, 0, 0⟩ w)
  (iteB (decide ((n_1 : Int) < 0))
  (nnP r_0 fun a3 => stP (a3.add 2) (.int .i64 11) w fun w4 => K ⟨none, 0, 0⟩ w4)
  (nnP r_0 fun a5 => ldS a5 w.drew fun s6 => nnP r_0 fun a7 => ldI .i64 (a7.add 1) w.drew fun n8 => iteB (decide ((n_1 : Int) > (IntKind.i64.wrap ((s6.l : Int) - n8))))
  (nnP r_0 fun a9 => stP (a9.add 2) (.int .i64 10) w.drew fun w10 => K ⟨none, 0, 0⟩ w10)
  (nnP r_0 fun a11 => ldI .i64 (a11.add 1) w.drew fun n12 => nnP r_0 fun a13 => stP (a13.add 1) (.int .i64 (IntKind.i64.wrap (n12 + n_1))) w.drew fun w14 => nnP r_0 fun a15 => ldS a15 w14.drew fun s16 => nnP r_0 fun a17 => ldI .i64 (a17.add 1) w14.drew fun n18 => nnP r_0 fun a19 => ldI .i64 (a19.add 1) w14.drew fun n20 => slP s16.a s16.l s16.c (some (IntKind.i64.wrap (n18 - n_1))) (some n20) 1 fun p21 l22 c23 => c_slices_Clone_byte_byte ⟨p21, l22, c23⟩ w14.drew fun r24 w25 => K r24 w25)))

def c_codec_Reader_Raw (r_0 : Option Addr) (n_1 : Int) (w : World) (K : Slc → World → Prop) : Prop := Calls Try.prog 25 #[.pointer r_0, .int .i64 n_1] w (onRet (fun v w' => ∃ (y0 : Slc), v = .slice y0.a y0.l y0.c ∧ K y0 w'))

theorem sim_codec_Reader_Raw {r_0 : Option Addr} {n_1 : Int} {w : World} {K : Slc → World → Prop} (h : sh_codec_Reader_Raw c_slices_Clone_byte_byte r_0 n_1 w K) : c_codec_Reader_Raw r_0 n_1 w K := by
  have e : sh_codec_Reader_Raw c_slices_Clone_byte_byte r_0 n_1 w K = shF Try.prog 25 ⟨[(6, [0, 1, 2, 3, 4, 5, 6, 7, 8, 9, 10, 11, 12]), (10, [0, 1, 2, 3, 4, 5, 6, 7, 8, 9, 10, 11, 12, 13, 14, 15, 16])], [], []⟩ [.pointer r_0, .int .i64 n_1] w (fun v w' => decV .sl v fun y0 => K y0 w') := by kernel_rfl
  exact Calls.mono (calls_of _ e h) (onRet_mono (fun _ _ h => decV_spec h))

-- 29 (*prelude/codec.Reader).Byte; callees ['codec_Reader_Raw']
def sh_codec_Reader_Byte (c_codec_Reader_Raw : Option Addr → Int → World → (Slc → World → Prop) → Prop) (r_0 : Option Addr) (w : World) (K : Int → World → Prop) : Prop :=
  c_codec_Reader_Raw r_0 1 w fun r1 w2 => iteB (((r1.l : Int) : Int) == 0)
  (K 0 w2)
  (idxP r1.a r1.l 0 1 fun a3 => ldI .u8 a3 w2 fun n4 => K n4 w2)

def c_codec_Reader_Byte (r_0 : Option Addr) (w : World) (K : Int → World → Prop) : Prop := Calls Try.prog 29 #[.pointer r_0] w (onRet (fun v w' => ∃ (y0 : Int), v = .int .u8 y0 ∧ K y0 w'))

theorem sim_codec_Reader_Byte {r_0 : Option Addr} {w : World} {K : Int → World → Prop} (h : sh_codec_Reader_Byte c_codec_Reader_Raw r_0 w K) : c_codec_Reader_Byte r_0 w K := by
  have e : sh_codec_Reader_Byte c_codec_Reader_Raw r_0 w K = shF Try.prog 29 ⟨[], [], []⟩ [.pointer r_0] w (fun v w' => decV (.int .u8) v fun y0 => K y0 w') := by kernel_rfl
  exact Calls.mono (calls_of _ e h) (onRet_mono (fun _ _ h => decV_spec h))

-- 26 (*prelude/preluderef01.Reader).Raw; callees []
def sh_preluderef01_Reader_Raw (r_0 : Option Addr) (n_1 : Int) (w : World) (K : Slc → World → Prop) : Prop :=
  nnP r_0 fun a1 => ldI .i64 (a1.add 2) w fun n2 => iteB ((n2 : Int) != 0)
  (K ⟨none, 0, 0⟩ w)
  (iteB (decide ((n_1 : Int) < 0))
  (nnP r_0 fun a3 => stP (a3.add 2) (.int .i64 11) w fun w4 => K ⟨none, 0, 0⟩ w4)
  (nnP r_0 fun a5 => ldS a5 w.drew fun s6 => nnP r_0 fun a7 => ldI .i64 (a7.add 1) w.drew fun n8 => iteB (decide ((n_1 : Int) > (IntKind.i64.wrap ((s6.l : Int) - n8))))
  (nnP r_0 fun a9 => stP (a9.add 2) (.int .i64 10) w.drew fun w10 => K ⟨none, 0, 0⟩ w10)
  (loopP (σ := Slc × Int × Unit) (fun st12 next11 w13 => (fun (l_14 : Slc) (i_15 : Int) => iteB (decide ((i_15 : Int) < n_1))
  (nnP r_0 fun a16 => ldS a16 w13.drew fun s17 => nnP r_0 fun a18 => ldI .i64 (a18.add 1) w13.drew fun n19 => idxP s17.a s17.l (IntKind.i64.wrap (n19 + i_15)) 1 fun a20 => ldI .u8 a20 w13.drew fun n21 => newP #[.int .u8 n21] 5 w13.drew fun a22 w23 => apP Try.prog #[26, 26] 26 [.slice l_14.a l_14.l l_14.c, .slice (some a22) 1 1] w23 fun s25 w24 => next11 (s25, (IntKind.i64.wrap (i_15 + 1)), ()) w24)
  (nnP r_0 fun a26 => ldI .i64 (a26.add 1) w13 fun n27 => nnP r_0 fun a28 => stP (a28.add 1) (.int .i64 (IntKind.i64.wrap (n27 + n_1))) w13 fun w29 => K l_14 w29)) st12.1 st12.2.1) (⟨none, 0, 0⟩, 0, ()) w.drew)))

def c_preluderef01_Reader_Raw (r_0 : Option Addr) (n_1 : Int) (w : World) (K : Slc → World → Prop) : Prop := Calls Try.prog 26 #[.pointer r_0, .int .i64 n_1] w (onRet (fun v w' => ∃ (y0 : Slc), v = .slice y0.a y0.l y0.c ∧ K y0 w'))

theorem sim_preluderef01_Reader_Raw {r_0 : Option Addr} {n_1 : Int} {w : World} {K : Slc → World → Prop} (h : sh_preluderef01_Reader_Raw r_0 n_1 w K) : c_preluderef01_Reader_Raw r_0 n_1 w K := by
  have e : sh_preluderef01_Reader_Raw r_0 n_1 w K = shF Try.prog 26 ⟨[(6, [0, 1, 2, 3, 4, 5, 6, 7, 8, 9, 10, 11]), (13, [0, 1, 2, 3, 4, 5, 6, 7, 8, 9, 10, 11, 12, 13, 14, 15])], [(11, [(5, .sl), (6, (.int .i64))], [0, 1])], []⟩ [.pointer r_0, .int .i64 n_1] w (fun v w' => decV .sl v fun y0 => K y0 w') := by kernel_rfl
  exact Calls.mono (calls_of _ e h) (onRet_mono (fun _ _ h => decV_spec h))

-- 42 (*prelude/preluderef01.Reader).Byte; callees ['preluderef01_Reader_Raw']
def sh_preluderef01_Reader_Byte (c_preluderef01_Reader_Raw : Option Addr → Int → World → (Slc → World → Prop) → Prop) (r_0 : Option Addr) (w : World) (K : Int → World → Prop) : Prop :=
  c_preluderef01_Reader_Raw r_0 1 w fun r1 w2 => iteB (((r1.l : Int) : Int) == 0)
  (K 0 w2)
  (idxP r1.a r1.l 0 1 fun a3 => ldI .u8 a3 w2 fun n4 => K n4 w2)

def c_preluderef01_Reader_Byte (r_0 : Option Addr) (w : World) (K : Int → World → Prop) : Prop := Calls Try.prog 42 #[.pointer r_0] w (onRet (fun v w' => ∃ (y0 : Int), v = .int .u8 y0 ∧ K y0 w'))

theorem sim_preluderef01_Reader_Byte {r_0 : Option Addr} {w : World} {K : Int → World → Prop} (h : sh_preluderef01_Reader_Byte c_preluderef01_Reader_Raw r_0 w K) : c_preluderef01_Reader_Byte r_0 w K := by
  have e : sh_preluderef01_Reader_Byte c_preluderef01_Reader_Raw r_0 w K = shF Try.prog 42 ⟨[], [], []⟩ [.pointer r_0] w (fun v w' => decV (.int .u8) v fun y0 => K y0 w') := by kernel_rfl
  exact Calls.mono (calls_of _ e h) (onRet_mono (fun _ _ h => decV_spec h))

-- 49 (*prelude/codec.Reader).uint; callees []
def sh_codec_Reader_uint (r_0 : Option Addr) (at_1 : Int) (w : World) (K : Int → Int → Int → World → Prop) : Prop :=
  loopP (σ := Int × Int × Unit) (fun st2 next1 w3 => (fun (n_4 : Int) (i_5 : Int) => nnP r_0 fun a6 => ldS a6 w3 fun s7 => iteB (decide (((IntKind.i64.wrap (at_1 + i_5)) : Int) ≥ (s7.l : Int)))
  (K 0 at_1 10 w3)
  (nnP r_0 fun a8 => ldS a8 w3 fun s9 => idxP s9.a s9.l (IntKind.i64.wrap (at_1 + i_5)) 1 fun a10 => ldI .u8 a10 w3 fun n11 => iteB ((i_5 : Int) == 9)
  (iteB (decide ((n11 : Int) > 1))
  (K 0 at_1 11 w3)
  (iteB (decide ((i_5 : Int) > 0))
  (iteB ((n11 : Int) == 0)
  (K 0 at_1 11 w3)
  (shP (IntKind.i64.wrap (7 * i_5)) (iteB (decide ((n11 : Int) < 128))
  (K (bOr .u64 n_4 (IntKind.u64.wrap ((IntKind.u64.wrap (bAnd .u8 n11 127)) * 2 ^ (min (Int.toNat (IntKind.i64.wrap (7 * i_5))) (IntKind.bits .u64))))) (IntKind.i64.wrap ((IntKind.i64.wrap (at_1 + i_5)) + 1)) 0 w3)
  (next1 ((bOr .u64 n_4 (IntKind.u64.wrap ((IntKind.u64.wrap (bAnd .u8 n11 127)) * 2 ^ (min (Int.toNat (IntKind.i64.wrap (7 * i_5))) (IntKind.bits .u64))))), (IntKind.i64.wrap (i_5 + 1)), ()) w3))))
  (shP (IntKind.i64.wrap (7 * i_5)) (iteB (decide ((n11 : Int) < 128))
  (K (bOr .u64 n_4 (IntKind.u64.wrap ((IntKind.u64.wrap (bAnd .u8 n11 127)) * 2 ^ (min (Int.toNat (IntKind.i64.wrap (7 * i_5))) (IntKind.bits .u64))))) (IntKind.i64.wrap ((IntKind.i64.wrap (at_1 + i_5)) + 1)) 0 w3)
  (next1 ((bOr .u64 n_4 (IntKind.u64.wrap ((IntKind.u64.wrap (bAnd .u8 n11 127)) * 2 ^ (min (Int.toNat (IntKind.i64.wrap (7 * i_5))) (IntKind.bits .u64))))), (IntKind.i64.wrap (i_5 + 1)), ()) w3)))))
  (iteB (decide ((i_5 : Int) > 0))
  (iteB ((n11 : Int) == 0)
  (K 0 at_1 11 w3)
  (shP (IntKind.i64.wrap (7 * i_5)) (iteB (decide ((n11 : Int) < 128))
  (K (bOr .u64 n_4 (IntKind.u64.wrap ((IntKind.u64.wrap (bAnd .u8 n11 127)) * 2 ^ (min (Int.toNat (IntKind.i64.wrap (7 * i_5))) (IntKind.bits .u64))))) (IntKind.i64.wrap ((IntKind.i64.wrap (at_1 + i_5)) + 1)) 0 w3)
  (next1 ((bOr .u64 n_4 (IntKind.u64.wrap ((IntKind.u64.wrap (bAnd .u8 n11 127)) * 2 ^ (min (Int.toNat (IntKind.i64.wrap (7 * i_5))) (IntKind.bits .u64))))), (IntKind.i64.wrap (i_5 + 1)), ()) w3))))
  (shP (IntKind.i64.wrap (7 * i_5)) (iteB (decide ((n11 : Int) < 128))
  (K (bOr .u64 n_4 (IntKind.u64.wrap ((IntKind.u64.wrap (bAnd .u8 n11 127)) * 2 ^ (min (Int.toNat (IntKind.i64.wrap (7 * i_5))) (IntKind.bits .u64))))) (IntKind.i64.wrap ((IntKind.i64.wrap (at_1 + i_5)) + 1)) 0 w3)
  (next1 ((bOr .u64 n_4 (IntKind.u64.wrap ((IntKind.u64.wrap (bAnd .u8 n11 127)) * 2 ^ (min (Int.toNat (IntKind.i64.wrap (7 * i_5))) (IntKind.bits .u64))))), (IntKind.i64.wrap (i_5 + 1)), ()) w3)))))) st2.1 st2.2.1) (0, 0, ()) w

def c_codec_Reader_uint (r_0 : Option Addr) (at_1 : Int) (w : World) (K : Int → Int → Int → World → Prop) : Prop := Calls Try.prog 49 #[.pointer r_0, .int .i64 at_1] w (onRet (fun v w' => ∃ (y0 : Int), ∃ (y1 : Int), ∃ (y2 : Int), v = .tuple #[.int .u64 y0, .int .i64 y1, .int .i64 y2] ∧ K y0 y1 y2 w'))

theorem sim_codec_Reader_uint {r_0 : Option Addr} {at_1 : Int} {w : World} {K : Int → Int → Int → World → Prop} (h : sh_codec_Reader_uint r_0 at_1 w K) : c_codec_Reader_uint r_0 at_1 w K := by
  have e : sh_codec_Reader_uint r_0 at_1 w K = shF Try.prog 49 ⟨[], [(4, [(7, (.int .u64)), (8, (.int .i64))], [0, 1])], []⟩ [.pointer r_0, .int .i64 at_1] w (fun v w' => decT [(false, [(.int .u64)]), (false, [(.int .i64)]), (false, [(.int .i64)])] v fun s => (fun (y0 : Int) (y1 : Int) (y2 : Int) => K y0 y1 y2 w') s.1 s.2.1 s.2.2.1) := by kernel_rfl
  exact Calls.mono (calls_of _ e h) (onRet_mono (fun _ _ h => by obtain ⟨s, h1, h2⟩ := decT_spec h; exact ⟨s.1, s.2.1, s.2.2.1, h1, h2⟩))

-- 32 (*prelude/codec.Reader).Upto; callees ['codec_Reader_uint']
def sh_codec_Reader_Upto (c_codec_Reader_uint : Option Addr → Int → World → (Int → Int → Int → World → Prop) → Prop) (r_0 : Option Addr) (most_1 : Int) (w : World) (K : Int → World → Prop) : Prop :=
  nnP r_0 fun a1 => ldI .i64 (a1.add 2) w fun n2 => iteB ((n2 : Int) != 0)
  (K 0 w)
  (nnP r_0 fun a3 => ldI .i64 (a3.add 1) w fun n4 => c_codec_Reader_uint r_0 n4 w fun r5 r6 r7 w8 => iteB ((r7 : Int) == 0)
  (iteB (decide ((r5 : Int) > most_1))
  (iteB ((12 : Int) != 0)
  (nnP r_0 fun a9 => stP (a9.add 2) (.int .i64 12) w8 fun w10 => K 0 w10)
  (nnP r_0 fun a11 => stP (a11.add 1) (.int .i64 r6) w8 fun w12 => K r5 w12))
  (iteB ((r7 : Int) != 0)
  (nnP r_0 fun a13 => stP (a13.add 2) (.int .i64 r7) w8 fun w14 => K 0 w14)
  (nnP r_0 fun a15 => stP (a15.add 1) (.int .i64 r6) w8 fun w16 => K r5 w16)))
  (iteB ((r7 : Int) != 0)
  (nnP r_0 fun a17 => stP (a17.add 2) (.int .i64 r7) w8 fun w18 => K 0 w18)
  (nnP r_0 fun a19 => stP (a19.add 1) (.int .i64 r6) w8 fun w20 => K r5 w20)))

def c_codec_Reader_Upto (r_0 : Option Addr) (most_1 : Int) (w : World) (K : Int → World → Prop) : Prop := Calls Try.prog 32 #[.pointer r_0, .int .u64 most_1] w (onRet (fun v w' => ∃ (y0 : Int), v = .int .u64 y0 ∧ K y0 w'))

theorem sim_codec_Reader_Upto {r_0 : Option Addr} {most_1 : Int} {w : World} {K : Int → World → Prop} (h : sh_codec_Reader_Upto c_codec_Reader_uint r_0 most_1 w K) : c_codec_Reader_Upto r_0 most_1 w K := by
  have e : sh_codec_Reader_Upto c_codec_Reader_uint r_0 most_1 w K = shF Try.prog 32 ⟨[], [], []⟩ [.pointer r_0, .int .u64 most_1] w (fun v w' => decV (.int .u64) v fun y0 => K y0 w') := by kernel_rfl
  exact Calls.mono (calls_of _ e h) (onRet_mono (fun _ _ h => decV_spec h))

-- 31 (*prelude/codec.Reader).Uint; callees ['codec_Reader_Upto']
def sh_codec_Reader_Uint (c_codec_Reader_Upto : Option Addr → Int → World → (Int → World → Prop) → Prop) (r_0 : Option Addr) (w : World) (K : Int → World → Prop) : Prop :=
  c_codec_Reader_Upto r_0 18446744073709551615 w fun r1 w2 => K r1 w2

def c_codec_Reader_Uint (r_0 : Option Addr) (w : World) (K : Int → World → Prop) : Prop := Calls Try.prog 31 #[.pointer r_0] w (onRet (fun v w' => ∃ (y0 : Int), v = .int .u64 y0 ∧ K y0 w'))

theorem sim_codec_Reader_Uint {r_0 : Option Addr} {w : World} {K : Int → World → Prop} (h : sh_codec_Reader_Uint c_codec_Reader_Upto r_0 w K) : c_codec_Reader_Uint r_0 w K := by
  have e : sh_codec_Reader_Uint c_codec_Reader_Upto r_0 w K = shF Try.prog 31 ⟨[], [], []⟩ [.pointer r_0] w (fun v w' => decV (.int .u64) v fun y0 => K y0 w') := by kernel_rfl
  exact Calls.mono (calls_of _ e h) (onRet_mono (fun _ _ h => decV_spec h))

-- 51 prelude/preluderef01.number; callees []
def sh_preluderef01_number (b_0 : Slc) (w : World) (K : Int → Int → Int → World → Prop) : Prop :=
  loopP (σ := Int × Int × Unit) (fun st2 next1 w3 => (fun (n_4 : Int) (k_5 : Int) => iteB (decide ((k_5 : Int) < 10))
  (iteB ((k_5 : Int) == (b_0.l : Int))
  (K 0 0 10 w3)
  (iteB ((k_5 : Int) == 9)
  (idxP b_0.a b_0.l k_5 1 fun a6 => ldI .u8 a6 w3 fun n7 => iteB (decide ((n7 : Int) > 1))
  (K 0 0 11 w3)
  (iteB (decide ((k_5 : Int) > 0))
  (idxP b_0.a b_0.l k_5 1 fun a8 => ldI .u8 a8 w3 fun n9 => iteB ((n9 : Int) == 0)
  (K 0 0 11 w3)
  (idxP b_0.a b_0.l k_5 1 fun a10 => ldI .u8 a10 w3 fun n11 => dzP 128 (shP (IntKind.i64.wrap (7 * k_5)) (idxP b_0.a b_0.l k_5 1 fun a12 => ldI .u8 a12 w3 fun n13 => iteB (decide ((n13 : Int) < 128))
  (K (IntKind.u64.wrap (n_4 + (IntKind.u64.wrap ((IntKind.u64.wrap (Int.tmod n11 128)) * 2 ^ (min (Int.toNat (IntKind.i64.wrap (7 * k_5))) (IntKind.bits .u64)))))) (IntKind.i64.wrap (k_5 + 1)) 0 w3)
  (next1 ((IntKind.u64.wrap (n_4 + (IntKind.u64.wrap ((IntKind.u64.wrap (Int.tmod n11 128)) * 2 ^ (min (Int.toNat (IntKind.i64.wrap (7 * k_5))) (IntKind.bits .u64)))))), (IntKind.i64.wrap (k_5 + 1)), ()) w3)))))
  (idxP b_0.a b_0.l k_5 1 fun a14 => ldI .u8 a14 w3 fun n15 => dzP 128 (shP (IntKind.i64.wrap (7 * k_5)) (idxP b_0.a b_0.l k_5 1 fun a16 => ldI .u8 a16 w3 fun n17 => iteB (decide ((n17 : Int) < 128))
  (K (IntKind.u64.wrap (n_4 + (IntKind.u64.wrap ((IntKind.u64.wrap (Int.tmod n15 128)) * 2 ^ (min (Int.toNat (IntKind.i64.wrap (7 * k_5))) (IntKind.bits .u64)))))) (IntKind.i64.wrap (k_5 + 1)) 0 w3)
  (next1 ((IntKind.u64.wrap (n_4 + (IntKind.u64.wrap ((IntKind.u64.wrap (Int.tmod n15 128)) * 2 ^ (min (Int.toNat (IntKind.i64.wrap (7 * k_5))) (IntKind.bits .u64)))))), (IntKind.i64.wrap (k_5 + 1)), ()) w3))))))
  (iteB (decide ((k_5 : Int) > 0))
  (idxP b_0.a b_0.l k_5 1 fun a18 => ldI .u8 a18 w3 fun n19 => iteB ((n19 : Int) == 0)
  (K 0 0 11 w3)
  (idxP b_0.a b_0.l k_5 1 fun a20 => ldI .u8 a20 w3 fun n21 => dzP 128 (shP (IntKind.i64.wrap (7 * k_5)) (idxP b_0.a b_0.l k_5 1 fun a22 => ldI .u8 a22 w3 fun n23 => iteB (decide ((n23 : Int) < 128))
  (K (IntKind.u64.wrap (n_4 + (IntKind.u64.wrap ((IntKind.u64.wrap (Int.tmod n21 128)) * 2 ^ (min (Int.toNat (IntKind.i64.wrap (7 * k_5))) (IntKind.bits .u64)))))) (IntKind.i64.wrap (k_5 + 1)) 0 w3)
  (next1 ((IntKind.u64.wrap (n_4 + (IntKind.u64.wrap ((IntKind.u64.wrap (Int.tmod n21 128)) * 2 ^ (min (Int.toNat (IntKind.i64.wrap (7 * k_5))) (IntKind.bits .u64)))))), (IntKind.i64.wrap (k_5 + 1)), ()) w3)))))
  (idxP b_0.a b_0.l k_5 1 fun a24 => ldI .u8 a24 w3 fun n25 => dzP 128 (shP (IntKind.i64.wrap (7 * k_5)) (idxP b_0.a b_0.l k_5 1 fun a26 => ldI .u8 a26 w3 fun n27 => iteB (decide ((n27 : Int) < 128))
  (K (IntKind.u64.wrap (n_4 + (IntKind.u64.wrap ((IntKind.u64.wrap (Int.tmod n25 128)) * 2 ^ (min (Int.toNat (IntKind.i64.wrap (7 * k_5))) (IntKind.bits .u64)))))) (IntKind.i64.wrap (k_5 + 1)) 0 w3)
  (next1 ((IntKind.u64.wrap (n_4 + (IntKind.u64.wrap ((IntKind.u64.wrap (Int.tmod n25 128)) * 2 ^ (min (Int.toNat (IntKind.i64.wrap (7 * k_5))) (IntKind.bits .u64)))))), (IntKind.i64.wrap (k_5 + 1)), ()) w3)))))))
  (K 0 0 11 w3)) st2.1 st2.2.1) (0, 0, ()) w

def c_preluderef01_number (b_0 : Slc) (w : World) (K : Int → Int → Int → World → Prop) : Prop := Calls Try.prog 51 #[.slice b_0.a b_0.l b_0.c] w (onRet (fun v w' => ∃ (y0 : Int), ∃ (y1 : Int), ∃ (y2 : Int), v = .tuple #[.int .u64 y0, .int .i64 y1, .int .i64 y2] ∧ K y0 y1 y2 w'))

theorem sim_preluderef01_number {b_0 : Slc} {w : World} {K : Int → Int → Int → World → Prop} (h : sh_preluderef01_number b_0 w K) : c_preluderef01_number b_0 w K := by
  have e : sh_preluderef01_number b_0 w K = shF Try.prog 51 ⟨[], [(3, [(5, (.int .u64)), (6, (.int .i64))], [0])], []⟩ [.slice b_0.a b_0.l b_0.c] w (fun v w' => decT [(false, [(.int .u64)]), (false, [(.int .i64)]), (false, [(.int .i64)])] v fun s => (fun (y0 : Int) (y1 : Int) (y2 : Int) => K y0 y1 y2 w') s.1 s.2.1 s.2.2.1) := by kernel_rfl
  exact Calls.mono (calls_of _ e h) (onRet_mono (fun _ _ h => by obtain ⟨s, h1, h2⟩ := decT_spec h; exact ⟨s.1, s.2.1, s.2.2.1, h1, h2⟩))

-- 43 (*prelude/preluderef01.Reader).Uint; callees ['preluderef01_number']
def sh_preluderef01_Reader_Uint (c_preluderef01_number : Slc → World → (Int → Int → Int → World → Prop) → Prop) (r_0 : Option Addr) (w : World) (K : Int → World → Prop) : Prop :=
  nnP r_0 fun a1 => ldI .i64 (a1.add 2) w fun n2 => iteB ((n2 : Int) != 0)
  (K 0 w)
  (nnP r_0 fun a3 => ldS a3 w.drew fun s4 => nnP r_0 fun a5 => ldI .i64 (a5.add 1) w.drew fun n6 => slP s4.a s4.l s4.c (some n6) none 1 fun p7 l8 c9 => c_preluderef01_number ⟨p7, l8, c9⟩ w.drew fun r10 r11 r12 w13 => nnP r_0 fun a14 => stP (a14.add 2) (.int .i64 r12) w13 fun w15 => nnP r_0 fun a16 => ldI .i64 (a16.add 1) w15 fun n17 => nnP r_0 fun a18 => stP (a18.add 1) (.int .i64 (IntKind.i64.wrap (n17 + r11))) w15 fun w19 => K r10 w19)

def c_preluderef01_Reader_Uint (r_0 : Option Addr) (w : World) (K : Int → World → Prop) : Prop := Calls Try.prog 43 #[.pointer r_0] w (onRet (fun v w' => ∃ (y0 : Int), v = .int .u64 y0 ∧ K y0 w'))

theorem sim_preluderef01_Reader_Uint {r_0 : Option Addr} {w : World} {K : Int → World → Prop} (h : sh_preluderef01_Reader_Uint c_preluderef01_number r_0 w K) : c_preluderef01_Reader_Uint r_0 w K := by
  have e : sh_preluderef01_Reader_Uint c_preluderef01_number r_0 w K = shF Try.prog 43 ⟨[(3, [0, 1, 2, 3, 4, 5, 6, 7, 8, 9, 10, 11, 12, 13, 14, 15, 16])], [], []⟩ [.pointer r_0] w (fun v w' => decV (.int .u64) v fun y0 => K y0 w') := by kernel_rfl
  exact Calls.mono (calls_of _ e h) (onRet_mono (fun _ _ h => decV_spec h))

-- 34 (*prelude/codec.Reader).Int; callees ['codec_Reader_Uint']
def sh_codec_Reader_Int (c_codec_Reader_Uint : Option Addr → World → (Int → World → Prop) → Prop) (r_0 : Option Addr) (w : World) (K : Int → World → Prop) : Prop :=
  c_codec_Reader_Uint r_0 w fun r1 w2 => shP 1 (K (bXor .i64 (IntKind.i64.wrap (Int.fdiv r1 (2 ^ (min (Int.toNat 1) (IntKind.bits .u64))))) (IntKind.i64.wrap (0 - (IntKind.i64.wrap (bAnd .u64 r1 1))))) w2)

def c_codec_Reader_Int (r_0 : Option Addr) (w : World) (K : Int → World → Prop) : Prop := Calls Try.prog 34 #[.pointer r_0] w (onRet (fun v w' => ∃ (y0 : Int), v = .int .i64 y0 ∧ K y0 w'))

theorem sim_codec_Reader_Int {r_0 : Option Addr} {w : World} {K : Int → World → Prop} (h : sh_codec_Reader_Int c_codec_Reader_Uint r_0 w K) : c_codec_Reader_Int r_0 w K := by
  have e : sh_codec_Reader_Int c_codec_Reader_Uint r_0 w K = shF Try.prog 34 ⟨[], [], []⟩ [.pointer r_0] w (fun v w' => decV (.int .i64) v fun y0 => K y0 w') := by kernel_rfl
  exact Calls.mono (calls_of _ e h) (onRet_mono (fun _ _ h => decV_spec h))

-- 52 prelude/preluderef01.Unfold; callees []
def sh_preluderef01_Unfold (n_0 : Int) (w : World) (K : Int → World → Prop) : Prop :=
  dzP 2 (iteB (((Int.tmod n_0 2) : Int) == 0)
  (dzP 2 (K (IntKind.i64.wrap (IntKind.u64.wrap (Int.tdiv n_0 2))) w))
  (dzP 2 (K (IntKind.i64.wrap ((-1) - (IntKind.i64.wrap (IntKind.u64.wrap (Int.tdiv n_0 2))))) w)))

def c_preluderef01_Unfold (n_0 : Int) (w : World) (K : Int → World → Prop) : Prop := Calls Try.prog 52 #[.int .u64 n_0] w (onRet (fun v w' => ∃ (y0 : Int), v = .int .i64 y0 ∧ K y0 w'))

theorem sim_preluderef01_Unfold {n_0 : Int} {w : World} {K : Int → World → Prop} (h : sh_preluderef01_Unfold n_0 w K) : c_preluderef01_Unfold n_0 w K := by
  have e : sh_preluderef01_Unfold n_0 w K = shF Try.prog 52 ⟨[], [], []⟩ [.int .u64 n_0] w (fun v w' => decV (.int .i64) v fun y0 => K y0 w') := by kernel_rfl
  exact Calls.mono (calls_of _ e h) (onRet_mono (fun _ _ h => decV_spec h))

-- 44 (*prelude/preluderef01.Reader).Int; callees ['preluderef01_Reader_Uint', 'preluderef01_Unfold']
def sh_preluderef01_Reader_Int (c_preluderef01_Reader_Uint : Option Addr → World → (Int → World → Prop) → Prop) (c_preluderef01_Unfold : Int → World → (Int → World → Prop) → Prop) (r_0 : Option Addr) (w : World) (K : Int → World → Prop) : Prop :=
  c_preluderef01_Reader_Uint r_0 w fun r1 w2 => c_preluderef01_Unfold r1 w2 fun r3 w4 => K r3 w4

def c_preluderef01_Reader_Int (r_0 : Option Addr) (w : World) (K : Int → World → Prop) : Prop := Calls Try.prog 44 #[.pointer r_0] w (onRet (fun v w' => ∃ (y0 : Int), v = .int .i64 y0 ∧ K y0 w'))

theorem sim_preluderef01_Reader_Int {r_0 : Option Addr} {w : World} {K : Int → World → Prop} (h : sh_preluderef01_Reader_Int c_preluderef01_Reader_Uint c_preluderef01_Unfold r_0 w K) : c_preluderef01_Reader_Int r_0 w K := by
  have e : sh_preluderef01_Reader_Int c_preluderef01_Reader_Uint c_preluderef01_Unfold r_0 w K = shF Try.prog 44 ⟨[], [], []⟩ [.pointer r_0] w (fun v w' => decV (.int .i64) v fun y0 => K y0 w') := by kernel_rfl
  exact Calls.mono (calls_of _ e h) (onRet_mono (fun _ _ h => decV_spec h))

-- 45 (*prelude/preluderef01.Reader).Upto; callees ['preluderef01_Reader_Uint']
def sh_preluderef01_Reader_Upto (c_preluderef01_Reader_Uint : Option Addr → World → (Int → World → Prop) → Prop) (r_0 : Option Addr) (most_1 : Int) (w : World) (K : Int → World → Prop) : Prop :=
  nnP r_0 fun a1 => ldI .i64 (a1.add 1) w fun n2 => c_preluderef01_Reader_Uint r_0 w fun r3 w4 => nnP r_0 fun a5 => ldI .i64 (a5.add 2) w4 fun n6 => iteB ((n6 : Int) == 0)
  (iteB (decide ((r3 : Int) > most_1))
  (nnP r_0 fun a7 => stP (a7.add 2) (.int .i64 12) w4 fun w8 => nnP r_0 fun a9 => stP (a9.add 1) (.int .i64 n2) w8 fun w10 => K 0 w10)
  (K r3 w4))
  (K r3 w4)

def c_preluderef01_Reader_Upto (r_0 : Option Addr) (most_1 : Int) (w : World) (K : Int → World → Prop) : Prop := Calls Try.prog 45 #[.pointer r_0, .int .u64 most_1] w (onRet (fun v w' => ∃ (y0 : Int), v = .int .u64 y0 ∧ K y0 w'))

theorem sim_preluderef01_Reader_Upto {r_0 : Option Addr} {most_1 : Int} {w : World} {K : Int → World → Prop} (h : sh_preluderef01_Reader_Upto c_preluderef01_Reader_Uint r_0 most_1 w K) : c_preluderef01_Reader_Upto r_0 most_1 w K := by
  have e : sh_preluderef01_Reader_Upto c_preluderef01_Reader_Uint r_0 most_1 w K = shF Try.prog 45 ⟨[], [], []⟩ [.pointer r_0, .int .u64 most_1] w (fun v w' => decV (.int .u64) v fun y0 => K y0 w') := by kernel_rfl
  exact Calls.mono (calls_of _ e h) (onRet_mono (fun _ _ h => decV_spec h))

-- 36 (*prelude/codec.Reader).Bytes; callees ['codec_Reader_uint', 'slices_Clone_byte_byte']
def sh_codec_Reader_Bytes (c_codec_Reader_uint : Option Addr → Int → World → (Int → Int → Int → World → Prop) → Prop) (c_slices_Clone_byte_byte : Slc → World → (Slc → World → Prop) → Prop) (x_0 : Option Addr) (x_1 : Int) (w : World) (K : Slc → World → Prop) : Prop :=
  nnP x_0 fun a1 => ldI .i64 (a1.add 2) w fun n2 => iteB ((n2 : Int) != 0)
  (K ⟨none, 0, 0⟩ w)
  (nnP x_0 fun a3 => ldI .i64 (a3.add 1) w fun n4 => c_codec_Reader_uint x_0 n4 w fun r5 r6 r7 w8 => iteB ((r7 : Int) != 0)
  (iteB ((r7 : Int) != 0)
  (nnP x_0 fun a9 => stP (a9.add 2) (.int .i64 r7) w8 fun w10 => K ⟨none, 0, 0⟩ w10)
  (nnP x_0 fun a11 => stP (a11.add 1) (.int .i64 (IntKind.i64.wrap (r6 + (IntKind.i64.wrap r5)))) w8 fun w12 => nnP x_0 fun a13 => ldS a13 w12.drew fun s14 => nnP x_0 fun a15 => ldI .i64 (a15.add 1) w12.drew fun n16 => slP s14.a s14.l s14.c (some r6) (some n16) 1 fun p17 l18 c19 => c_slices_Clone_byte_byte ⟨p17, l18, c19⟩ w12.drew fun r20 w21 => K r20 w21))
  (iteB (decide ((x_1 : Int) < 0))
  (iteB ((12 : Int) != 0)
  (nnP x_0 fun a22 => stP (a22.add 2) (.int .i64 12) w8 fun w23 => K ⟨none, 0, 0⟩ w23)
  (nnP x_0 fun a24 => stP (a24.add 1) (.int .i64 (IntKind.i64.wrap (r6 + (IntKind.i64.wrap r5)))) w8 fun w25 => nnP x_0 fun a26 => ldS a26 w25.drew fun s27 => nnP x_0 fun a28 => ldI .i64 (a28.add 1) w25.drew fun n29 => slP s27.a s27.l s27.c (some r6) (some n29) 1 fun p30 l31 c32 => c_slices_Clone_byte_byte ⟨p30, l31, c32⟩ w25.drew fun r33 w34 => K r33 w34))
  (iteB (decide ((r5 : Int) > (IntKind.u64.wrap x_1)))
  (iteB ((12 : Int) != 0)
  (nnP x_0 fun a35 => stP (a35.add 2) (.int .i64 12) w8 fun w36 => K ⟨none, 0, 0⟩ w36)
  (nnP x_0 fun a37 => stP (a37.add 1) (.int .i64 (IntKind.i64.wrap (r6 + (IntKind.i64.wrap r5)))) w8 fun w38 => nnP x_0 fun a39 => ldS a39 w38.drew fun s40 => nnP x_0 fun a41 => ldI .i64 (a41.add 1) w38.drew fun n42 => slP s40.a s40.l s40.c (some r6) (some n42) 1 fun p43 l44 c45 => c_slices_Clone_byte_byte ⟨p43, l44, c45⟩ w38.drew fun r46 w47 => K r46 w47))
  (nnP x_0 fun a48 => ldS a48 w8 fun s49 => iteB (decide ((r5 : Int) > (IntKind.u64.wrap (IntKind.i64.wrap ((s49.l : Int) - r6)))))
  (iteB ((10 : Int) != 0)
  (nnP x_0 fun a50 => stP (a50.add 2) (.int .i64 10) w8 fun w51 => K ⟨none, 0, 0⟩ w51)
  (nnP x_0 fun a52 => stP (a52.add 1) (.int .i64 (IntKind.i64.wrap (r6 + (IntKind.i64.wrap r5)))) w8 fun w53 => nnP x_0 fun a54 => ldS a54 w53.drew fun s55 => nnP x_0 fun a56 => ldI .i64 (a56.add 1) w53.drew fun n57 => slP s55.a s55.l s55.c (some r6) (some n57) 1 fun p58 l59 c60 => c_slices_Clone_byte_byte ⟨p58, l59, c60⟩ w53.drew fun r61 w62 => K r61 w62))
  (iteB ((r7 : Int) != 0)
  (nnP x_0 fun a63 => stP (a63.add 2) (.int .i64 r7) w8 fun w64 => K ⟨none, 0, 0⟩ w64)
  (nnP x_0 fun a65 => stP (a65.add 1) (.int .i64 (IntKind.i64.wrap (r6 + (IntKind.i64.wrap r5)))) w8 fun w66 => nnP x_0 fun a67 => ldS a67 w66.drew fun s68 => nnP x_0 fun a69 => ldI .i64 (a69.add 1) w66.drew fun n70 => slP s68.a s68.l s68.c (some r6) (some n70) 1 fun p71 l72 c73 => c_slices_Clone_byte_byte ⟨p71, l72, c73⟩ w66.drew fun r74 w75 => K r74 w75))))))

def c_codec_Reader_Bytes (x_0 : Option Addr) (x_1 : Int) (w : World) (K : Slc → World → Prop) : Prop := Calls Try.prog 36 #[.pointer x_0, .int .i64 x_1] w (onRet (fun v w' => ∃ (y0 : Slc), v = .slice y0.a y0.l y0.c ∧ K y0 w'))

theorem sim_codec_Reader_Bytes {x_0 : Option Addr} {x_1 : Int} {w : World} {K : Slc → World → Prop} (h : sh_codec_Reader_Bytes c_codec_Reader_uint c_slices_Clone_byte_byte x_0 x_1 w K) : c_codec_Reader_Bytes x_0 x_1 w K := by
  have e : sh_codec_Reader_Bytes c_codec_Reader_uint c_slices_Clone_byte_byte x_0 x_1 w K = shF Try.prog 36 ⟨[(13, [0, 1, 2, 3, 4, 5, 6, 7, 8, 9, 10, 11])], [], []⟩ [.pointer x_0, .int .i64 x_1] w (fun v w' => decV .sl v fun y0 => K y0 w') := by kernel_rfl
  exact Calls.mono (calls_of _ e h) (onRet_mono (fun _ _ h => decV_spec h))

-- 46 (*prelude/preluderef01.Reader).Bytes; callees ['preluderef01_Reader_Uint', 'preluderef01_Reader_Raw']
def sh_preluderef01_Reader_Bytes (c_preluderef01_Reader_Uint : Option Addr → World → (Int → World → Prop) → Prop) (c_preluderef01_Reader_Raw : Option Addr → Int → World → (Slc → World → Prop) → Prop) (r_0 : Option Addr) (most_1 : Int) (w : World) (K : Slc → World → Prop) : Prop :=
  nnP r_0 fun a1 => ldI .i64 (a1.add 1) w fun n2 => c_preluderef01_Reader_Uint r_0 w fun r3 w4 => nnP r_0 fun a5 => ldI .i64 (a5.add 2) w4 fun n6 => iteB ((n6 : Int) != 0)
  (K ⟨none, 0, 0⟩ w4)
  (iteB (decide ((most_1 : Int) < 0))
  (nnP r_0 fun a7 => stP (a7.add 2) (.int .i64 12) w4 fun w8 => nnP r_0 fun a9 => ldI .i64 (a9.add 2) w8 fun n10 => iteB ((n10 : Int) != 0)
  (nnP r_0 fun a11 => stP (a11.add 1) (.int .i64 n2) w8 fun w12 => K ⟨none, 0, 0⟩ w12)
  (c_preluderef01_Reader_Raw r_0 (IntKind.i64.wrap r3) w8 fun r13 w14 => K r13 w14))
  (iteB (decide ((r3 : Int) > (IntKind.u64.wrap most_1)))
  (nnP r_0 fun a15 => stP (a15.add 2) (.int .i64 12) w4 fun w16 => nnP r_0 fun a17 => ldI .i64 (a17.add 2) w16 fun n18 => iteB ((n18 : Int) != 0)
  (nnP r_0 fun a19 => stP (a19.add 1) (.int .i64 n2) w16 fun w20 => K ⟨none, 0, 0⟩ w20)
  (c_preluderef01_Reader_Raw r_0 (IntKind.i64.wrap r3) w16 fun r21 w22 => K r21 w22))
  (nnP r_0 fun a23 => ldS a23 w4.drew fun s24 => nnP r_0 fun a25 => ldI .i64 (a25.add 1) w4.drew fun n26 => iteB (decide ((r3 : Int) > (IntKind.u64.wrap (IntKind.i64.wrap ((s24.l : Int) - n26)))))
  (nnP r_0 fun a27 => stP (a27.add 2) (.int .i64 10) w4.drew fun w28 => nnP r_0 fun a29 => ldI .i64 (a29.add 2) w28 fun n30 => iteB ((n30 : Int) != 0)
  (nnP r_0 fun a31 => stP (a31.add 1) (.int .i64 n2) w28 fun w32 => K ⟨none, 0, 0⟩ w32)
  (c_preluderef01_Reader_Raw r_0 (IntKind.i64.wrap r3) w28 fun r33 w34 => K r33 w34))
  (nnP r_0 fun a35 => ldI .i64 (a35.add 2) w4.drew fun n36 => iteB ((n36 : Int) != 0)
  (nnP r_0 fun a37 => stP (a37.add 1) (.int .i64 n2) w4.drew fun w38 => K ⟨none, 0, 0⟩ w38)
  (c_preluderef01_Reader_Raw r_0 (IntKind.i64.wrap r3) w4.drew fun r39 w40 => K r39 w40)))))

def c_preluderef01_Reader_Bytes (r_0 : Option Addr) (most_1 : Int) (w : World) (K : Slc → World → Prop) : Prop := Calls Try.prog 46 #[.pointer r_0, .int .i64 most_1] w (onRet (fun v w' => ∃ (y0 : Slc), v = .slice y0.a y0.l y0.c ∧ K y0 w'))

theorem sim_preluderef01_Reader_Bytes {r_0 : Option Addr} {most_1 : Int} {w : World} {K : Slc → World → Prop} (h : sh_preluderef01_Reader_Bytes c_preluderef01_Reader_Uint c_preluderef01_Reader_Raw r_0 most_1 w K) : c_preluderef01_Reader_Bytes r_0 most_1 w K := by
  have e : sh_preluderef01_Reader_Bytes c_preluderef01_Reader_Uint c_preluderef01_Reader_Raw r_0 most_1 w K = shF Try.prog 46 ⟨[(7, [0, 1, 2, 3, 4, 5, 6, 7, 8, 9, 10, 11, 12])], [], []⟩ [.pointer r_0, .int .i64 most_1] w (fun v w' => decV .sl v fun y0 => K y0 w') := by kernel_rfl
  exact Calls.mono (calls_of _ e h) (onRet_mono (fun _ _ h => decV_spec h))

-- 47 (*prelude/codec.Reader).Fail; callees []
def sh_codec_Reader_Fail (r_0 : Option Addr) (e_1 : Int) (w : World) (K : World → Prop) : Prop :=
  nnP r_0 fun a1 => ldI .i64 (a1.add 2) w fun n2 => iteB ((n2 : Int) == 0)
  (nnP r_0 fun a3 => stP (a3.add 2) (.int .i64 e_1) w fun w4 => K w4)
  (K w)

def c_codec_Reader_Fail (r_0 : Option Addr) (e_1 : Int) (w : World) (K : World → Prop) : Prop := Calls Try.prog 47 #[.pointer r_0, .int .i64 e_1] w (onRet (fun v w' => v = .tuple #[] ∧ K w'))

theorem sim_codec_Reader_Fail {r_0 : Option Addr} {e_1 : Int} {w : World} {K : World → Prop} (h : sh_codec_Reader_Fail r_0 e_1 w K) : c_codec_Reader_Fail r_0 e_1 w K := by
  have e : sh_codec_Reader_Fail r_0 e_1 w K = shF Try.prog 47 ⟨[], [], []⟩ [.pointer r_0, .int .i64 e_1] w (fun v w' => decU v (K w')) := by kernel_rfl
  exact Calls.mono (calls_of _ e h) (onRet_mono (fun _ _ h => decU_spec h))

-- 48 (*prelude/preluderef01.Reader).Fail; callees []
def sh_preluderef01_Reader_Fail (r_0 : Option Addr) (e_1 : Int) (w : World) (K : World → Prop) : Prop :=
  nnP r_0 fun a1 => ldI .i64 (a1.add 2) w fun n2 => iteB ((n2 : Int) == 0)
  (nnP r_0 fun a3 => stP (a3.add 2) (.int .i64 e_1) w fun w4 => K w4)
  (K w)

def c_preluderef01_Reader_Fail (r_0 : Option Addr) (e_1 : Int) (w : World) (K : World → Prop) : Prop := Calls Try.prog 48 #[.pointer r_0, .int .i64 e_1] w (onRet (fun v w' => v = .tuple #[] ∧ K w'))

theorem sim_preluderef01_Reader_Fail {r_0 : Option Addr} {e_1 : Int} {w : World} {K : World → Prop} (h : sh_preluderef01_Reader_Fail r_0 e_1 w K) : c_preluderef01_Reader_Fail r_0 e_1 w K := by
  have e : sh_preluderef01_Reader_Fail r_0 e_1 w K = shF Try.prog 48 ⟨[], [], []⟩ [.pointer r_0, .int .i64 e_1] w (fun v w' => decU v (K w')) := by kernel_rfl
  exact Calls.mono (calls_of _ e h) (onRet_mono (fun _ _ h => decU_spec h))

-- 23 (*prelude/codec.Reader).End; callees []
def sh_codec_Reader_End (r_0 : Option Addr) (w : World) (K : Int → World → Prop) : Prop :=
  nnP r_0 fun a1 => ldI .i64 (a1.add 2) w.drew fun n2 => iteB ((n2 : Int) == 0)
  (nnP r_0 fun a3 => ldI .i64 (a3.add 1) w.drew fun n4 => nnP r_0 fun a5 => ldS a5 w.drew fun s6 => iteB (decide ((n4 : Int) < (s6.l : Int)))
  (K 11 w.drew)
  (nnP r_0 fun a7 => ldI .i64 (a7.add 2) w.drew fun n8 => K n8 w.drew))
  (nnP r_0 fun a9 => ldI .i64 (a9.add 2) w.drew fun n10 => K n10 w.drew)

def c_codec_Reader_End (r_0 : Option Addr) (w : World) (K : Int → World → Prop) : Prop := Calls Try.prog 23 #[.pointer r_0] w (onRet (fun v w' => ∃ (y0 : Int), v = .int .i64 y0 ∧ K y0 w'))

theorem sim_codec_Reader_End {r_0 : Option Addr} {w : World} {K : Int → World → Prop} (h : sh_codec_Reader_End r_0 w K) : c_codec_Reader_End r_0 w K := by
  have e : sh_codec_Reader_End r_0 w K = shF Try.prog 23 ⟨[(1, [0, 1, 2, 3, 4, 5, 6, 7, 8, 9, 10, 11, 12, 13, 14, 15, 16])], [], []⟩ [.pointer r_0] w (fun v w' => decV (.int .i64) v fun y0 => K y0 w') := by kernel_rfl
  exact Calls.mono (calls_of _ e h) (onRet_mono (fun _ _ h => decV_spec h))

-- 24 (*prelude/preluderef01.Reader).End; callees []
def sh_preluderef01_Reader_End (r_0 : Option Addr) (w : World) (K : Int → World → Prop) : Prop :=
  nnP r_0 fun a1 => ldI .i64 (a1.add 2) w.drew fun n2 => iteB ((n2 : Int) == 0)
  (nnP r_0 fun a3 => ldI .i64 (a3.add 1) w.drew fun n4 => nnP r_0 fun a5 => ldS a5 w.drew fun s6 => iteB (decide ((n4 : Int) < (s6.l : Int)))
  (K 11 w.drew)
  (nnP r_0 fun a7 => ldI .i64 (a7.add 2) w.drew fun n8 => K n8 w.drew))
  (nnP r_0 fun a9 => ldI .i64 (a9.add 2) w.drew fun n10 => K n10 w.drew)

def c_preluderef01_Reader_End (r_0 : Option Addr) (w : World) (K : Int → World → Prop) : Prop := Calls Try.prog 24 #[.pointer r_0] w (onRet (fun v w' => ∃ (y0 : Int), v = .int .i64 y0 ∧ K y0 w'))

theorem sim_preluderef01_Reader_End {r_0 : Option Addr} {w : World} {K : Int → World → Prop} (h : sh_preluderef01_Reader_End r_0 w K) : c_preluderef01_Reader_End r_0 w K := by
  have e : sh_preluderef01_Reader_End r_0 w K = shF Try.prog 24 ⟨[(1, [0, 1, 2, 3, 4, 5, 6, 7, 8, 9, 10, 11, 12, 13, 14, 15, 16])], [], []⟩ [.pointer r_0] w (fun v w' => decV (.int .i64) v fun y0 => K y0 w') := by kernel_rfl
  exact Calls.mono (calls_of _ e h) (onRet_mono (fun _ _ h => decV_spec h))

-- 19 prelude/preludelaw01.read; callees ['codec_Reader_Byte', 'preluderef01_Reader_Byte', 'codec_Reader_Uint', 'preluderef01_Reader_Uint', 'codec_Reader_Int', 'preluderef01_Reader_Int', 'codec_Reader_Upto', 'preluderef01_Reader_Upto', 'codec_Reader_Bytes', 'preluderef01_Reader_Bytes', 'preludelaw01_book_put', 'preludelaw01_same', 'codec_Reader_Raw', 'preluderef01_Reader_Raw', 'codec_Reader_Fail', 'preluderef01_Reader_Fail', 'codec_Reader_End', 'preluderef01_Reader_End']
def sh_preludelaw01_read (c_codec_Reader_Byte : Option Addr → World → (Int → World → Prop) → Prop) (c_preluderef01_Reader_Byte : Option Addr → World → (Int → World → Prop) → Prop) (c_codec_Reader_Uint : Option Addr → World → (Int → World → Prop) → Prop) (c_preluderef01_Reader_Uint : Option Addr → World → (Int → World → Prop) → Prop) (c_codec_Reader_Int : Option Addr → World → (Int → World → Prop) → Prop) (c_preluderef01_Reader_Int : Option Addr → World → (Int → World → Prop) → Prop) (c_codec_Reader_Upto : Option Addr → Int → World → (Int → World → Prop) → Prop) (c_preluderef01_Reader_Upto : Option Addr → Int → World → (Int → World → Prop) → Prop) (c_codec_Reader_Bytes : Option Addr → Int → World → (Slc → World → Prop) → Prop) (c_preluderef01_Reader_Bytes : Option Addr → Int → World → (Slc → World → Prop) → Prop) (c_preludelaw01_book_put : Option Addr → Slc → World → (World → Prop) → Prop) (c_preludelaw01_same : Slc → Slc → World → (Bool → World → Prop) → Prop) (c_codec_Reader_Raw : Option Addr → Int → World → (Slc → World → Prop) → Prop) (c_preluderef01_Reader_Raw : Option Addr → Int → World → (Slc → World → Prop) → Prop) (c_codec_Reader_Fail : Option Addr → Int → World → (World → Prop) → Prop) (c_preluderef01_Reader_Fail : Option Addr → Int → World → (World → Prop) → Prop) (c_codec_Reader_End : Option Addr → World → (Int → World → Prop) → Prop) (c_preluderef01_Reader_End : Option Addr → World → (Int → World → Prop) → Prop) (x_0 : Option Addr) (x_1 : Option Addr) (x_2_0 : Int) (x_2_1 : Int) (x_2_2 : Slc) (x_2_3 : Int) (x_2_4 : Bool) (x_3 : Option Addr) (w : World) (K : Bool → World → Prop) : Prop :=
  newP #[.int .i64 x_2_0, .int .u64 x_2_1, .slice x_2_2.a x_2_2.l x_2_2.c, .int .i64 x_2_3, .bool x_2_4] 34 w fun a1 w2 => ldI .i64 a1 w2 fun n3 => iteB ((n3 : Int) == 1)
  (c_codec_Reader_Byte x_0 w2 fun r4 w5 => c_preluderef01_Reader_Byte x_1 w5 fun r6 w7 => K ((r4 : Int) == r6) w7)
  (iteB ((n3 : Int) == 2)
  (c_codec_Reader_Uint x_0 w2 fun r8 w9 => c_preluderef01_Reader_Uint x_1 w9 fun r10 w11 => K ((r8 : Int) == r10) w11)
  (iteB ((n3 : Int) == 3)
  (c_codec_Reader_Int x_0 w2 fun r12 w13 => c_preluderef01_Reader_Int x_1 w13 fun r14 w15 => K ((r12 : Int) == r14) w15)
  (iteB ((n3 : Int) == 6)
  (ldI .u64 (a1.add 1) w2.drew fun n16 => ldI .u64 (a1.add 1) w2.drew fun n17 => c_codec_Reader_Upto x_0 n16 w2.drew fun r18 w19 => w19.cell? (a1.add 1) = some (.int .u64 n17) ∧ (c_preluderef01_Reader_Upto x_1 n17 w19 fun r20 w21 => K ((r18 : Int) == r20) w21))
  (iteB ((n3 : Int) == 4)
  (iteB ((n3 : Int) == 4)
  (ldI .i64 a1 w2 fun n22 => iteB ((n22 : Int) == 4)
  (ldI .i64 (a1.add 3) w2 fun n23 => c_codec_Reader_Bytes x_0 n23 w2 fun r24 w25 => ldI .i64 (a1.add 3) w25 fun n26 => c_preluderef01_Reader_Bytes x_1 n26 w25 fun r27 w28 => c_preludelaw01_book_put x_3 r24 w28 fun w29 => c_preludelaw01_same r24 r27 w29 fun r30 w31 => K r30 w31)
  (ldI .i64 (a1.add 3) w2 fun n32 => c_codec_Reader_Raw x_0 n32 w2 fun r33 w34 => ldI .i64 (a1.add 3) w34 fun n35 => c_preluderef01_Reader_Raw x_1 n35 w34 fun r36 w37 => c_preludelaw01_book_put x_3 r33 w37 fun w38 => c_preludelaw01_same r33 r36 w38 fun r39 w40 => K r39 w40))
  (iteB ((n3 : Int) == 7)
  (ldI .i64 (a1.add 3) w2 fun n41 => c_codec_Reader_Fail x_0 n41 w2 fun w42 => ldI .i64 (a1.add 3) w42 fun n43 => c_preluderef01_Reader_Fail x_1 n43 w42 fun w44 => K true w44)
  (iteB ((n3 : Int) == 8)
  (c_codec_Reader_End x_0 w2 fun r45 w46 => c_preluderef01_Reader_End x_1 w46 fun r47 w48 => K ((r45 : Int) == r47) w48)
  (K true w2))))
  (iteB ((n3 : Int) == 5)
  (ldI .i64 a1 w2 fun n49 => iteB ((n49 : Int) == 4)
  (ldI .i64 (a1.add 3) w2 fun n50 => c_codec_Reader_Bytes x_0 n50 w2 fun r51 w52 => ldI .i64 (a1.add 3) w52 fun n53 => c_preluderef01_Reader_Bytes x_1 n53 w52 fun r54 w55 => c_preludelaw01_book_put x_3 r51 w55 fun w56 => c_preludelaw01_same r51 r54 w56 fun r57 w58 => K r57 w58)
  (ldI .i64 (a1.add 3) w2 fun n59 => c_codec_Reader_Raw x_0 n59 w2 fun r60 w61 => ldI .i64 (a1.add 3) w61 fun n62 => c_preluderef01_Reader_Raw x_1 n62 w61 fun r63 w64 => c_preludelaw01_book_put x_3 r60 w64 fun w65 => c_preludelaw01_same r60 r63 w65 fun r66 w67 => K r66 w67))
  (iteB ((n3 : Int) == 7)
  (ldI .i64 (a1.add 3) w2 fun n68 => c_codec_Reader_Fail x_0 n68 w2 fun w69 => ldI .i64 (a1.add 3) w69 fun n70 => c_preluderef01_Reader_Fail x_1 n70 w69 fun w71 => K true w71)
  (iteB ((n3 : Int) == 8)
  (c_codec_Reader_End x_0 w2 fun r72 w73 => c_preluderef01_Reader_End x_1 w73 fun r74 w75 => K ((r72 : Int) == r74) w75)
  (K true w2))))))))

def c_preludelaw01_read (x_0 : Option Addr) (x_1 : Option Addr) (x_2_0 : Int) (x_2_1 : Int) (x_2_2 : Slc) (x_2_3 : Int) (x_2_4 : Bool) (x_3 : Option Addr) (w : World) (K : Bool → World → Prop) : Prop := Calls Try.prog 19 #[.pointer x_0, .pointer x_1, .agg #[.int .i64 x_2_0, .int .u64 x_2_1, .slice x_2_2.a x_2_2.l x_2_2.c, .int .i64 x_2_3, .bool x_2_4], .pointer x_3] w (onRet (fun v w' => ∃ (y0 : Bool), v = .bool y0 ∧ K y0 w'))

theorem sim_preludelaw01_read {x_0 : Option Addr} {x_1 : Option Addr} {x_2_0 : Int} {x_2_1 : Int} {x_2_2 : Slc} {x_2_3 : Int} {x_2_4 : Bool} {x_3 : Option Addr} {w : World} {K : Bool → World → Prop} (h : sh_preludelaw01_read c_codec_Reader_Byte c_preluderef01_Reader_Byte c_codec_Reader_Uint c_preluderef01_Reader_Uint c_codec_Reader_Int c_preluderef01_Reader_Int c_codec_Reader_Upto c_preluderef01_Reader_Upto c_codec_Reader_Bytes c_preluderef01_Reader_Bytes c_preludelaw01_book_put c_preludelaw01_same c_codec_Reader_Raw c_preluderef01_Reader_Raw c_codec_Reader_Fail c_preluderef01_Reader_Fail c_codec_Reader_End c_preluderef01_Reader_End x_0 x_1 x_2_0 x_2_1 x_2_2 x_2_3 x_2_4 x_3 w K) : c_preludelaw01_read x_0 x_1 x_2_0 x_2_1 x_2_2 x_2_3 x_2_4 x_3 w K := by
  have e : sh_preludelaw01_read c_codec_Reader_Byte c_preluderef01_Reader_Byte c_codec_Reader_Uint c_preluderef01_Reader_Uint c_codec_Reader_Int c_preluderef01_Reader_Int c_codec_Reader_Upto c_preluderef01_Reader_Upto c_codec_Reader_Bytes c_preluderef01_Reader_Bytes c_preludelaw01_book_put c_preludelaw01_same c_codec_Reader_Raw c_preluderef01_Reader_Raw c_codec_Reader_Fail c_preluderef01_Reader_Fail c_codec_Reader_End c_preluderef01_Reader_End x_0 x_1 x_2_0 x_2_1 x_2_2 x_2_3 x_2_4 x_3 w K = shF Try.prog 19 ⟨[(9, [0, 1, 2, 4, 5, 6, 3, 7, 8, 9])], [], []⟩ [.pointer x_0, .pointer x_1, .agg #[.int .i64 x_2_0, .int .u64 x_2_1, .slice x_2_2.a x_2_2.l x_2_2.c, .int .i64 x_2_3, .bool x_2_4], .pointer x_3] w (fun v w' => decV .b v fun y0 => K y0 w') := by kernel_rfl
  exact Calls.mono (calls_of _ e h) (onRet_mono (fun _ _ h => decV_spec h))

-- 20 (*prelude/codec.Reader).At; callees []
def sh_codec_Reader_At (r_0 : Option Addr) (w : World) (K : Int → World → Prop) : Prop :=
  nnP r_0 fun a1 => ldI .i64 (a1.add 1) w fun n2 => K n2 w

def c_codec_Reader_At (r_0 : Option Addr) (w : World) (K : Int → World → Prop) : Prop := Calls Try.prog 20 #[.pointer r_0] w (onRet (fun v w' => ∃ (y0 : Int), v = .int .i64 y0 ∧ K y0 w'))

theorem sim_codec_Reader_At {r_0 : Option Addr} {w : World} {K : Int → World → Prop} (h : sh_codec_Reader_At r_0 w K) : c_codec_Reader_At r_0 w K := by
  have e : sh_codec_Reader_At r_0 w K = shF Try.prog 20 ⟨[], [], []⟩ [.pointer r_0] w (fun v w' => decV (.int .i64) v fun y0 => K y0 w') := by kernel_rfl
  exact Calls.mono (calls_of _ e h) (onRet_mono (fun _ _ h => decV_spec h))

-- 21 (*prelude/codec.Reader).Left; callees []
def sh_codec_Reader_Left (r_0 : Option Addr) (w : World) (K : Int → World → Prop) : Prop :=
  nnP r_0 fun a1 => ldS a1 w.drew fun s2 => nnP r_0 fun a3 => ldI .i64 (a3.add 1) w.drew fun n4 => K (IntKind.i64.wrap ((s2.l : Int) - n4)) w.drew

def c_codec_Reader_Left (r_0 : Option Addr) (w : World) (K : Int → World → Prop) : Prop := Calls Try.prog 21 #[.pointer r_0] w (onRet (fun v w' => ∃ (y0 : Int), v = .int .i64 y0 ∧ K y0 w'))

theorem sim_codec_Reader_Left {r_0 : Option Addr} {w : World} {K : Int → World → Prop} (h : sh_codec_Reader_Left r_0 w K) : c_codec_Reader_Left r_0 w K := by
  have e : sh_codec_Reader_Left r_0 w K = shF Try.prog 21 ⟨[(1, [0, 1, 2, 3, 4, 5, 6, 7, 8, 9, 10])], [], []⟩ [.pointer r_0] w (fun v w' => decV (.int .i64) v fun y0 => K y0 w') := by kernel_rfl
  exact Calls.mono (calls_of _ e h) (onRet_mono (fun _ _ h => decV_spec h))

-- 22 (*prelude/codec.Reader).Err; callees []
def sh_codec_Reader_Err (r_0 : Option Addr) (w : World) (K : Int → World → Prop) : Prop :=
  nnP r_0 fun a1 => ldI .i64 (a1.add 2) w fun n2 => K n2 w

def c_codec_Reader_Err (r_0 : Option Addr) (w : World) (K : Int → World → Prop) : Prop := Calls Try.prog 22 #[.pointer r_0] w (onRet (fun v w' => ∃ (y0 : Int), v = .int .i64 y0 ∧ K y0 w'))

theorem sim_codec_Reader_Err {r_0 : Option Addr} {w : World} {K : Int → World → Prop} (h : sh_codec_Reader_Err r_0 w K) : c_codec_Reader_Err r_0 w K := by
  have e : sh_codec_Reader_Err r_0 w K = shF Try.prog 22 ⟨[], [], []⟩ [.pointer r_0] w (fun v w' => decV (.int .i64) v fun y0 => K y0 w') := by kernel_rfl
  exact Calls.mono (calls_of _ e h) (onRet_mono (fun _ _ h => decV_spec h))

-- 4 prelude/preludelaw01.CodecReads; callees ['preludelaw01_roomy', 'codec_Read', 'preludelaw01_intact', 'preludelaw01_copied', 'preludelaw01_read', 'codec_Reader_At', 'codec_Reader_Left', 'codec_Reader_Err', 'preludelaw01_book_ends', 'codec_Reader_End', 'preluderef01_Reader_End', 'codec_Reader_Raw', 'preluderef01_Reader_Raw', 'preludelaw01_same']
def sh_preludelaw01_CodecReads (c_preludelaw01_roomy : Slc → World → (Slc → Slc → World → Prop) → Prop) (c_codec_Read : Slc → World → (Option Addr → World → Prop) → Prop) (c_preludelaw01_intact : Slc → Slc → World → (Bool → World → Prop) → Prop) (c_preludelaw01_copied : Slc → World → (Slc → World → Prop) → Prop) (c_preludelaw01_read : Option Addr → Option Addr → Int → Int → Slc → Int → Bool → Option Addr → World → (Bool → World → Prop) → Prop) (c_codec_Reader_At : Option Addr → World → (Int → World → Prop) → Prop) (c_codec_Reader_Left : Option Addr → World → (Int → World → Prop) → Prop) (c_codec_Reader_Err : Option Addr → World → (Int → World → Prop) → Prop) (c_preludelaw01_book_ends : Option Addr → World → (Bool → World → Prop) → Prop) (c_codec_Reader_End : Option Addr → World → (Int → World → Prop) → Prop) (c_preluderef01_Reader_End : Option Addr → World → (Int → World → Prop) → Prop) (c_codec_Reader_Raw : Option Addr → Int → World → (Slc → World → Prop) → Prop) (c_preluderef01_Reader_Raw : Option Addr → Int → World → (Slc → World → Prop) → Prop) (c_preludelaw01_same : Slc → Slc → World → (Bool → World → Prop) → Prop) (x_0 : Slc) (x_1 : Slc) (x_2 : Slc) (w : World) (K : Bool → World → Prop) : Prop :=
  c_preludelaw01_roomy x_0 w fun r1 r2 w3 => c_preludelaw01_roomy x_1 w3 fun r4 r5 w6 => c_codec_Read r1 w6 fun r7 w8 => c_codec_Read r4 w8 fun r9 w10 => newP #[.pointer none, .pointer none] 47 w10 fun a11 w12 => stP a11 (.pointer r7) w12 fun w13 => stP (a11.add 1) (.pointer r9) w13 fun w14 => arrP 2 0 (ldP (a11.add (Int.toNat 0 * 1)) w14 fun p15 => iteB ((p15).isNone)
  (K false w14)
  (arrP 2 1 (ldP (a11.add (Int.toNat 1 * 1)) w14 fun p16 => iteB ((p16).isNone)
  (K false w14)
  (c_preludelaw01_intact r2 x_0 w14 fun r17 w18 => iteB (!r17)
  (K false w18)
  (c_preludelaw01_intact r5 x_1 w18 fun r19 w20 => iteB (!r19)
  (K false w20)
  (loopP (σ := Int × Unit) (fun st22 next21 w23 => (fun (x24 : Int) => iteB (decide ((x24 : Int) < (r2.l : Int)))
  (idxP r2.a r2.l x24 1 fun a25 => stP a25 (.int .u8 9) w23 fun w26 => next21 ((IntKind.i64.wrap (x24 + 1)), ()) w26)
  (loopP (σ := Int × Unit) (fun st28 next27 w29 => (fun (x30 : Int) => iteB (decide ((x30 : Int) < (r5.l : Int)))
  (idxP r5.a r5.l x30 1 fun a31 => stP a31 (.int .u8 9) w29 fun w32 => next27 ((IntKind.i64.wrap (x30 + 1)), ()) w32)
  (c_preludelaw01_copied x_0 w29 fun r33 w34 => newP #[.slice r33.a r33.l r33.c, .int .i64 0, .int .i64 0] 51 w34 fun a35 w36 => c_preludelaw01_copied x_1 w36 fun r37 w38 => newP #[.slice r37.a r37.l r37.c, .int .i64 0, .int .i64 0] 51 w38 fun a39 w40 => newP #[.pointer none, .pointer none] 52 w40 fun a41 w42 => stP a41 (.pointer (some a35)) w42 fun w43 => stP (a41.add 1) (.pointer (some a39)) w43 fun w44 => newP #[.slice none 0 0, .slice none 0 0] 31 w44 fun a45 w46 => loopP (σ := Int × Unit) (fun st48 next47 w49 => (fun (x50 : Int) => iteB (decide ((x50 : Int) < (x_2.l : Int)))
  (idxP x_2.a x_2.l x50 5 fun a51 => ldI .i64 a51 w49 fun n52 => ldI .u64 (a51.add 1) w49 fun n53 => ldS (a51.add 2) w49 fun s54 => ldI .i64 (a51.add 3) w49 fun n55 => ldB (a51.add 4) w49 fun t56 => newP #[.int .i64 0, .int .u64 0, .slice none 0 0, .int .i64 0, .bool false] 34 w49 fun a57 w58 => stP a57 (.int .i64 n52) w58 fun w59 => stP (a57.add 1) (.int .u64 n53) w59 fun w60 => stP (a57.add 2) (.slice s54.a s54.l s54.c) w60 fun w61 => stP (a57.add 3) (.int .i64 n55) w61 fun w62 => stP (a57.add 4) (.bool t56) w62 fun w63 => ldB (a57.add 4) w63 fun t64 => iteB t64
  (arrP 2 1 (ldP (a11.add (Int.toNat 1 * 1)) w63.drew fun p65 => arrP 2 1 (ldP (a41.add (Int.toNat 1 * 1)) w63.drew fun p66 => ldI .i64 a57 w63.drew fun n67 => ldI .u64 (a57.add 1) w63.drew fun n68 => ldS (a57.add 2) w63.drew fun s69 => ldI .i64 (a57.add 3) w63.drew fun n70 => ldB (a57.add 4) w63.drew fun t71 => c_preludelaw01_read p65 p66 n67 n68 s69 n70 t71 (some a45) w63.drew fun r72 w73 => iteB (!r72)
  (K false w73.drew)
  (nnP p66 fun a74 => ldI .i64 (a74.add 1) w73.drew fun n75 => c_codec_Reader_At p65 w73.drew fun r76 w77 => w77.cell? (a74.add 1) = some (.int .i64 n75) ∧ (iteB ((r76 : Int) != n75)
  (K false w77)
  (nnP p66 fun a78 => ldS a78 w77 fun s79 => nnP p66 fun a80 => ldI .i64 (a80.add 1) w77 fun n81 => c_codec_Reader_Left p65 w77 fun r82 w83 => w83.cell? (a80.add 1) = some (.int .i64 n81) ∧ w83.cell? a78 = some (.slice s79.a s79.l s79.c) ∧ (iteB ((r82 : Int) != (IntKind.i64.wrap ((s79.l : Int) - n81)))
  (K false w83)
  (nnP p66 fun a84 => ldI .i64 (a84.add 2) w83 fun n85 => c_codec_Reader_Err p65 w83 fun r86 w87 => w87.cell? (a84.add 2) = some (.int .i64 n85) ∧ (iteB ((r86 : Int) != n85)
  (K false w87)
  (next47 ((IntKind.i64.wrap (x50 + 1)), ()) w87))))))))))
  (arrP 2 0 (ldP (a11.add (Int.toNat 0 * 1)) w63.drew fun p88 => arrP 2 0 (ldP (a41.add (Int.toNat 0 * 1)) w63.drew fun p89 => ldI .i64 a57 w63.drew fun n90 => ldI .u64 (a57.add 1) w63.drew fun n91 => ldS (a57.add 2) w63.drew fun s92 => ldI .i64 (a57.add 3) w63.drew fun n93 => ldB (a57.add 4) w63.drew fun t94 => c_preludelaw01_read p88 p89 n90 n91 s92 n93 t94 (some a45) w63.drew fun r95 w96 => iteB (!r95)
  (K false w96.drew)
  (nnP p89 fun a97 => ldI .i64 (a97.add 1) w96.drew fun n98 => c_codec_Reader_At p88 w96.drew fun r99 w100 => w100.cell? (a97.add 1) = some (.int .i64 n98) ∧ (iteB ((r99 : Int) != n98)
  (K false w100)
  (nnP p89 fun a101 => ldS a101 w100 fun s102 => nnP p89 fun a103 => ldI .i64 (a103.add 1) w100 fun n104 => c_codec_Reader_Left p88 w100 fun r105 w106 => w106.cell? (a103.add 1) = some (.int .i64 n104) ∧ w106.cell? a101 = some (.slice s102.a s102.l s102.c) ∧ (iteB ((r105 : Int) != (IntKind.i64.wrap ((s102.l : Int) - n104)))
  (K false w106)
  (nnP p89 fun a107 => ldI .i64 (a107.add 2) w106 fun n108 => c_codec_Reader_Err p88 w106 fun r109 w110 => w110.cell? (a107.add 2) = some (.int .i64 n108) ∧ (iteB ((r109 : Int) != n108)
  (K false w110)
  (next47 ((IntKind.i64.wrap (x50 + 1)), ()) w110)))))))))))
  (c_preludelaw01_book_ends (some a45) w49 fun r111 w112 => iteB (!r111)
  (K false w112)
  (loopP (σ := Int × Unit) (fun st114 next113 w115 => (fun (x116 : Int) => iteB (decide ((x116 : Int) < 2))
  (arrP 2 x116 (ldP (a41.add (Int.toNat x116 * 1)) w115.drew fun p117 => nnP p117 fun a118 => ldS a118 w115.drew fun s119 => arrP 2 x116 (ldP (a41.add (Int.toNat x116 * 1)) w115.drew fun p120 => nnP p120 fun a121 => ldI .i64 (a121.add 1) w115.drew fun n122 => arrP 2 x116 (ldP (a11.add (Int.toNat x116 * 1)) w115.drew.drew fun p123 => arrP 2 x116 (ldP (a41.add (Int.toNat x116 * 1)) w115.drew.drew fun p124 => c_codec_Reader_End p123 w115.drew.drew fun r125 w126 => w126.cell? (a41.add (Int.toNat x116 * 1)) = some (.pointer p124) ∧ (c_preluderef01_Reader_End p124 w126 fun r127 w128 => iteB ((r125 : Int) != r127)
  (K false w128)
  (arrP 2 x116 (ldP (a11.add (Int.toNat x116 * 1)) w128 fun p129 => c_codec_Reader_Raw p129 (IntKind.i64.wrap ((s119.l : Int) - n122)) w128 fun r130 w131 => arrP 2 x116 (ldP (a41.add (Int.toNat x116 * 1)) w131 fun p132 => c_preluderef01_Reader_Raw p132 (IntKind.i64.wrap ((s119.l : Int) - n122)) w131 fun r133 w134 => c_preludelaw01_same r130 r133 w134.drew fun r135 w136 => iteB (!r135)
  (K false w136)
  (arrP 2 x116 (ldP (a11.add (Int.toNat x116 * 1)) w136 fun p137 => arrP 2 x116 (ldP (a41.add (Int.toNat x116 * 1)) w136 fun p138 => nnP p138 fun a139 => ldS a139 w136 fun s140 => arrP 2 x116 (ldP (a41.add (Int.toNat x116 * 1)) w136 fun p141 => nnP p141 fun a142 => ldI .i64 (a142.add 1) w136 fun n143 => c_codec_Reader_Left p137 w136 fun r144 w145 => w145.cell? (a142.add 1) = some (.int .i64 n143) ∧ w145.cell? (a41.add (Int.toNat x116 * 1)) = some (.pointer p141) ∧ w145.cell? a139 = some (.slice s140.a s140.l s140.c) ∧ w145.cell? (a41.add (Int.toNat x116 * 1)) = some (.pointer p138) ∧ (iteB ((r144 : Int) != (IntKind.i64.wrap ((s140.l : Int) - n143)))
  (K false w145)
  (next113 ((IntKind.i64.wrap (x116 + 1)), ()) w145)))))))))))))))
  (K true w115)) st114.1) (0, ()) w112))) st48.1) (0, ()) w46)) st28.1) (0, ()) w23)) st22.1) (0, ()) w20))))))

def c_preludelaw01_CodecReads (x_0 : Slc) (x_1 : Slc) (x_2 : Slc) (w : World) (K : Bool → World → Prop) : Prop := Calls Try.prog 4 #[.slice x_0.a x_0.l x_0.c, .slice x_1.a x_1.l x_1.c, .slice x_2.a x_2.l x_2.c] w (onRet (fun v w' => ∃ (y0 : Bool), v = .bool y0 ∧ K y0 w'))

theorem sim_preludelaw01_CodecReads {x_0 : Slc} {x_1 : Slc} {x_2 : Slc} {w : World} {K : Bool → World → Prop} (h : sh_preludelaw01_CodecReads c_preludelaw01_roomy c_codec_Read c_preludelaw01_intact c_preludelaw01_copied c_preludelaw01_read c_codec_Reader_At c_codec_Reader_Left c_codec_Reader_Err c_preludelaw01_book_ends c_codec_Reader_End c_preluderef01_Reader_End c_codec_Reader_Raw c_preluderef01_Reader_Raw c_preludelaw01_same x_0 x_1 x_2 w K) : c_preludelaw01_CodecReads x_0 x_1 x_2 w K := by
  have e : sh_preludelaw01_CodecReads c_preludelaw01_roomy c_codec_Read c_preludelaw01_intact c_preludelaw01_copied c_preludelaw01_read c_codec_Reader_At c_codec_Reader_Left c_codec_Reader_Err c_preludelaw01_book_ends c_codec_Reader_End c_preluderef01_Reader_End c_codec_Reader_Raw c_preluderef01_Reader_Raw c_preludelaw01_same x_0 x_1 x_2 w K = shF Try.prog 4 ⟨[(23, [0, 1, 2, 3, 4, 5, 6, 7]), (25, [0, 1, 2, 3, 5, 6, 7, 8, 4, 9, 10, 11, 12, 14, 15, 16, 17, 18, 19, 20, 21, 22, 23, 13, 24, 25, 26, 27, 29, 30, 31, 32, 28, 33, 34]), (32, [0, 1, 2, 3, 4, 5, 6, 7, 8, 9, 10, 11, 12, 13, 14]), (33, [0, 1, 2, 4, 5, 6, 3, 7, 8]), (37, [0, 1, 2, 3, 4, 5, 6, 7, 9, 10, 11, 12, 13, 14, 15, 16, 17, 18, 19, 20, 21, 22, 8, 23, 24])], [(7, [(12, (.int .i64))], [0, 1, 2, 8, 10, 11]), (11, [(13, (.int .i64))], [0, 1, 2, 10, 11]), (17, [(16, (.int .i64))], [2, 11, 14, 15]), (30, [(22, (.int .i64))], [11, 14])], []⟩ [.slice x_0.a x_0.l x_0.c, .slice x_1.a x_1.l x_1.c, .slice x_2.a x_2.l x_2.c] w (fun v w' => decV .b v fun y0 => K y0 w') := by kernel_rfl
  exact Calls.mono (calls_of _ e h) (onRet_mono (fun _ _ h => decV_spec h))

-- 27 prelude/preludelaw01.awake; callees ['codec_New', 'codec_Writer_Byte', 'codec_Writer_Uint', 'codec_Writer_Int', 'codec_Writer_Bytes', 'codec_Writer_Out', 'preludelaw01_same', 'codec_Writer_Len', 'codec_Read', 'codec_Reader_Byte', 'codec_Reader_Uint', 'codec_Reader_Int', 'codec_Reader_Bytes', 'codec_Reader_End']
def sh_preludelaw01_awake (c_codec_New : World → (Option Addr → World → Prop) → Prop) (c_codec_Writer_Byte : Option Addr → Int → World → (World → Prop) → Prop) (c_codec_Writer_Uint : Option Addr → Int → World → (World → Prop) → Prop) (c_codec_Writer_Int : Option Addr → Int → World → (World → Prop) → Prop) (c_codec_Writer_Bytes : Option Addr → Slc → World → (World → Prop) → Prop) (c_codec_Writer_Out : Option Addr → World → (Slc → World → Prop) → Prop) (c_preludelaw01_same : Slc → Slc → World → (Bool → World → Prop) → Prop) (c_codec_Writer_Len : Option Addr → World → (Int → World → Prop) → Prop) (c_codec_Read : Slc → World → (Option Addr → World → Prop) → Prop) (c_codec_Reader_Byte : Option Addr → World → (Int → World → Prop) → Prop) (c_codec_Reader_Uint : Option Addr → World → (Int → World → Prop) → Prop) (c_codec_Reader_Int : Option Addr → World → (Int → World → Prop) → Prop) (c_codec_Reader_Bytes : Option Addr → Int → World → (Slc → World → Prop) → Prop) (c_codec_Reader_End : Option Addr → World → (Int → World → Prop) → Prop) (w : World) (K : Bool → World → Prop) : Prop :=
  c_codec_New  w fun r1 w2 => iteB ((r1).isNone)
  (K false w2)
  (c_codec_Writer_Byte r1 7 w2 fun w3 => c_codec_Writer_Uint r1 300 w3 fun w4 => c_codec_Writer_Int r1 (-3) w4 fun w5 => newP #[.int .u8 1, .int .u8 2] 5 w5 fun a6 w7 => c_codec_Writer_Bytes r1 ⟨(some a6), 2, 2⟩ w7 fun w8 => c_codec_Writer_Out r1 w8 fun r9 w10 => newP #[.int .u8 7, .int .u8 172, .int .u8 2, .int .u8 5, .int .u8 2, .int .u8 1, .int .u8 2] 5 w10 fun a11 w12 => c_preludelaw01_same r9 ⟨(some a11), 7, 7⟩ w12 fun r13 w14 => iteB (!r13)
  (K false w14)
  (c_codec_Writer_Len r1 w14 fun r15 w16 => iteB ((r15 : Int) != 7)
  (K false w16)
  (c_codec_Read r9 w16 fun r17 w18 => iteB ((r17).isNone)
  (K false w18)
  (c_codec_Reader_Byte r17 w18 fun r19 w20 => iteB ((r19 : Int) != 7)
  (K false w20)
  (c_codec_Reader_Uint r17 w20 fun r21 w22 => iteB ((r21 : Int) != 300)
  (K false w22)
  (c_codec_Reader_Int r17 w22 fun r23 w24 => iteB ((r23 : Int) != (-3))
  (K false w24)
  (c_codec_Reader_Bytes r17 2 w24 fun r25 w26 => newP #[.int .u8 1, .int .u8 2] 5 w26 fun a27 w28 => c_preludelaw01_same r25 ⟨(some a27), 2, 2⟩ w28 fun r29 w30 => iteB r29
  (c_codec_Reader_End r17 w30 fun r31 w32 => K ((r31 : Int) == 0) w32)
  (K false w30))))))))

def c_preludelaw01_awake (w : World) (K : Bool → World → Prop) : Prop := Calls Try.prog 27 #[] w (onRet (fun v w' => ∃ (y0 : Bool), v = .bool y0 ∧ K y0 w'))

theorem sim_preludelaw01_awake {w : World} {K : Bool → World → Prop} (h : sh_preludelaw01_awake c_codec_New c_codec_Writer_Byte c_codec_Writer_Uint c_codec_Writer_Int c_codec_Writer_Bytes c_codec_Writer_Out c_preludelaw01_same c_codec_Writer_Len c_codec_Read c_codec_Reader_Byte c_codec_Reader_Uint c_codec_Reader_Int c_codec_Reader_Bytes c_codec_Reader_End w K) : c_preludelaw01_awake  w K := by
  have e : sh_preludelaw01_awake c_codec_New c_codec_Writer_Byte c_codec_Writer_Uint c_codec_Writer_Int c_codec_Writer_Bytes c_codec_Writer_Out c_preludelaw01_same c_codec_Writer_Len c_codec_Read c_codec_Reader_Byte c_codec_Reader_Uint c_codec_Reader_Int c_codec_Reader_Bytes c_codec_Reader_End w K = shF Try.prog 27 ⟨[], [], []⟩ [] w (fun v w' => decV .b v fun y0 => K y0 w') := by kernel_rfl
  exact Calls.mono (calls_of _ e h) (onRet_mono (fun _ _ h => decV_spec h))

-- 5 prelude/preludelaw01.CodecOneForm; callees ['preludelaw01_awake', 'preludelaw01_copied', 'codec_Read', 'codec_New', 'codec_Reader_Byte', 'codec_Writer_Byte', 'codec_Reader_Uint', 'codec_Writer_Uint', 'codec_Reader_Upto', 'codec_Reader_Int', 'codec_Writer_Int', 'codec_Reader_Bytes', 'codec_Writer_Bytes', 'codec_Reader_Raw', 'codec_Writer_Raw', 'codec_Reader_End', 'codec_Writer_Out', 'preludelaw01_same']
def sh_preludelaw01_CodecOneForm (c_preludelaw01_awake : World → (Bool → World → Prop) → Prop) (c_preludelaw01_copied : Slc → World → (Slc → World → Prop) → Prop) (c_codec_Read : Slc → World → (Option Addr → World → Prop) → Prop) (c_codec_New : World → (Option Addr → World → Prop) → Prop) (c_codec_Reader_Byte : Option Addr → World → (Int → World → Prop) → Prop) (c_codec_Writer_Byte : Option Addr → Int → World → (World → Prop) → Prop) (c_codec_Reader_Uint : Option Addr → World → (Int → World → Prop) → Prop) (c_codec_Writer_Uint : Option Addr → Int → World → (World → Prop) → Prop) (c_codec_Reader_Upto : Option Addr → Int → World → (Int → World → Prop) → Prop) (c_codec_Reader_Int : Option Addr → World → (Int → World → Prop) → Prop) (c_codec_Writer_Int : Option Addr → Int → World → (World → Prop) → Prop) (c_codec_Reader_Bytes : Option Addr → Int → World → (Slc → World → Prop) → Prop) (c_codec_Writer_Bytes : Option Addr → Slc → World → (World → Prop) → Prop) (c_codec_Reader_Raw : Option Addr → Int → World → (Slc → World → Prop) → Prop) (c_codec_Writer_Raw : Option Addr → Slc → World → (World → Prop) → Prop) (c_codec_Reader_End : Option Addr → World → (Int → World → Prop) → Prop) (c_codec_Writer_Out : Option Addr → World → (Slc → World → Prop) → Prop) (c_preludelaw01_same : Slc → Slc → World → (Bool → World → Prop) → Prop) (x_0 : Slc) (x_1 : Slc) (w : World) (K : Bool → World → Prop) : Prop :=
  c_preludelaw01_awake  w fun r1 w2 => iteB (!r1)
  (K false w2)
  (c_preludelaw01_copied x_0 w2 fun r3 w4 => c_codec_Read r3 w4 fun r5 w6 => c_codec_New  w6 fun r7 w8 => loopP (σ := Int × Unit) (fun st10 next9 w11 => (fun (x12 : Int) => iteB (decide ((x12 : Int) < (x_1.l : Int)))
  (idxP x_1.a x_1.l x12 5 fun a13 => ldI .i64 a13 w11 fun n14 => ldI .u64 (a13.add 1) w11 fun n15 => ldS (a13.add 2) w11 fun s16 => ldI .i64 (a13.add 3) w11 fun n17 => ldB (a13.add 4) w11 fun t18 => newP #[.int .i64 0, .int .u64 0, .slice none 0 0, .int .i64 0, .bool false] 34 w11 fun a19 w20 => stP a19 (.int .i64 n14) w20 fun w21 => stP (a19.add 1) (.int .u64 n15) w21 fun w22 => stP (a19.add 2) (.slice s16.a s16.l s16.c) w22 fun w23 => stP (a19.add 3) (.int .i64 n17) w23 fun w24 => stP (a19.add 4) (.bool t18) w24 fun w25 => ldI .i64 a19 w25 fun n26 => iteB ((n26 : Int) == 1)
  (c_codec_Reader_Byte r5 w25 fun r27 w28 => c_codec_Writer_Byte r7 r27 w28 fun w29 => next9 ((IntKind.i64.wrap (x12 + 1)), ()) w29)
  (iteB ((n26 : Int) == 2)
  (c_codec_Reader_Uint r5 w25 fun r30 w31 => c_codec_Writer_Uint r7 r30 w31 fun w32 => next9 ((IntKind.i64.wrap (x12 + 1)), ()) w32)
  (iteB ((n26 : Int) == 6)
  (ldI .u64 (a19.add 1) w25 fun n33 => c_codec_Reader_Upto r5 n33 w25 fun r34 w35 => c_codec_Writer_Uint r7 r34 w35 fun w36 => next9 ((IntKind.i64.wrap (x12 + 1)), ()) w36)
  (iteB ((n26 : Int) == 3)
  (c_codec_Reader_Int r5 w25 fun r37 w38 => c_codec_Writer_Int r7 r37 w38 fun w39 => next9 ((IntKind.i64.wrap (x12 + 1)), ()) w39)
  (iteB ((n26 : Int) == 4)
  (ldI .i64 (a19.add 3) w25 fun n40 => c_codec_Reader_Bytes r5 n40 w25 fun r41 w42 => c_codec_Writer_Bytes r7 r41 w42 fun w43 => next9 ((IntKind.i64.wrap (x12 + 1)), ()) w43)
  (iteB ((n26 : Int) == 5)
  (ldI .i64 (a19.add 3) w25 fun n44 => c_codec_Reader_Raw r5 n44 w25 fun r45 w46 => c_codec_Writer_Raw r7 r45 w46 fun w47 => next9 ((IntKind.i64.wrap (x12 + 1)), ()) w47)
  (next9 ((IntKind.i64.wrap (x12 + 1)), ()) w25)))))))
  (c_codec_Reader_End r5 w11 fun r48 w49 => iteB ((r48 : Int) != 0)
  (K true w49)
  (c_codec_Writer_Out r7 w49 fun r50 w51 => c_preludelaw01_same r50 x_0 w51 fun r52 w53 => K r52 w53))) st10.1) (0, ()) w8)

def c_preludelaw01_CodecOneForm (x_0 : Slc) (x_1 : Slc) (w : World) (K : Bool → World → Prop) : Prop := Calls Try.prog 5 #[.slice x_0.a x_0.l x_0.c, .slice x_1.a x_1.l x_1.c] w (onRet (fun v w' => ∃ (y0 : Bool), v = .bool y0 ∧ K y0 w'))

theorem sim_preludelaw01_CodecOneForm {x_0 : Slc} {x_1 : Slc} {w : World} {K : Bool → World → Prop} (h : sh_preludelaw01_CodecOneForm c_preludelaw01_awake c_preludelaw01_copied c_codec_Read c_codec_New c_codec_Reader_Byte c_codec_Writer_Byte c_codec_Reader_Uint c_codec_Writer_Uint c_codec_Reader_Upto c_codec_Reader_Int c_codec_Writer_Int c_codec_Reader_Bytes c_codec_Writer_Bytes c_codec_Reader_Raw c_codec_Writer_Raw c_codec_Reader_End c_codec_Writer_Out c_preludelaw01_same x_0 x_1 w K) : c_preludelaw01_CodecOneForm x_0 x_1 w K := by
  have e : sh_preludelaw01_CodecOneForm c_preludelaw01_awake c_preludelaw01_copied c_codec_Read c_codec_New c_codec_Reader_Byte c_codec_Writer_Byte c_codec_Reader_Uint c_codec_Writer_Uint c_codec_Reader_Upto c_codec_Reader_Int c_codec_Writer_Int c_codec_Reader_Bytes c_codec_Writer_Bytes c_codec_Reader_Raw c_codec_Writer_Raw c_codec_Reader_End c_codec_Writer_Out c_preludelaw01_same x_0 x_1 w K = shF Try.prog 5 ⟨[], [(6, [(7, (.int .i64))], [0, 1, 5, 6])], []⟩ [.slice x_0.a x_0.l x_0.c, .slice x_1.a x_1.l x_1.c] w (fun v w' => decV .b v fun y0 => K y0 w') := by kernel_rfl
  exact Calls.mono (calls_of _ e h) (onRet_mono (fun _ _ h => decV_spec h))

-- 6 prelude/preludelaw01.CodecBack; callees ['preludelaw01_awake', 'codec_New', 'preludelaw01_written', 'codec_Writer_Out', 'codec_Read', 'codec_Reader_Byte', 'codec_Reader_Err', 'codec_Reader_Uint', 'codec_Reader_Upto', 'codec_Reader_Int', 'codec_Reader_Bytes', 'preludelaw01_same', 'codec_Reader_Raw', 'codec_Reader_End', 'codec_Reader_At', 'codec_Reader_Left', 'codec_Writer_Len']
def sh_preludelaw01_CodecBack (c_preludelaw01_awake : World → (Bool → World → Prop) → Prop) (c_codec_New : World → (Option Addr → World → Prop) → Prop) (c_preludelaw01_written : Option Addr → Int → Int → Slc → Int → Bool → World → (Bool → World → Prop) → Prop) (c_codec_Writer_Out : Option Addr → World → (Slc → World → Prop) → Prop) (c_codec_Read : Slc → World → (Option Addr → World → Prop) → Prop) (c_codec_Reader_Byte : Option Addr → World → (Int → World → Prop) → Prop) (c_codec_Reader_Err : Option Addr → World → (Int → World → Prop) → Prop) (c_codec_Reader_Uint : Option Addr → World → (Int → World → Prop) → Prop) (c_codec_Reader_Upto : Option Addr → Int → World → (Int → World → Prop) → Prop) (c_codec_Reader_Int : Option Addr → World → (Int → World → Prop) → Prop) (c_codec_Reader_Bytes : Option Addr → Int → World → (Slc → World → Prop) → Prop) (c_preludelaw01_same : Slc → Slc → World → (Bool → World → Prop) → Prop) (c_codec_Reader_Raw : Option Addr → Int → World → (Slc → World → Prop) → Prop) (c_codec_Reader_End : Option Addr → World → (Int → World → Prop) → Prop) (c_codec_Reader_At : Option Addr → World → (Int → World → Prop) → Prop) (c_codec_Reader_Left : Option Addr → World → (Int → World → Prop) → Prop) (c_codec_Writer_Len : Option Addr → World → (Int → World → Prop) → Prop) (x_0 : Slc) (w : World) (K : Bool → World → Prop) : Prop :=
  c_preludelaw01_awake  w fun r1 w2 => iteB (!r1)
  (K false w2)
  (c_codec_New  w2 fun r3 w4 => loopP (σ := Int × Unit) (fun st6 next5 w7 => (fun (x8 : Int) => iteB (decide ((x8 : Int) < (x_0.l : Int)))
  (idxP x_0.a x_0.l x8 5 fun a9 => ldI .i64 a9 w7 fun n10 => ldI .u64 (a9.add 1) w7 fun n11 => ldS (a9.add 2) w7 fun s12 => ldI .i64 (a9.add 3) w7 fun n13 => ldB (a9.add 4) w7 fun t14 => c_preludelaw01_written r3 n10 n11 s12 n13 t14 w7 fun r15 w16 => next5 ((IntKind.i64.wrap (x8 + 1)), ()) w16)
  (c_codec_Writer_Out r3 w7 fun r17 w18 => c_codec_Read r17 w18 fun r19 w20 => loopP (σ := Int × Unit) (fun st22 next21 w23 => (fun (x24 : Int) => iteB (decide ((x24 : Int) < (x_0.l : Int)))
  (idxP x_0.a x_0.l x24 5 fun a25 => ldI .i64 a25 w23 fun n26 => ldI .u64 (a25.add 1) w23 fun n27 => ldS (a25.add 2) w23 fun s28 => ldI .i64 (a25.add 3) w23 fun n29 => ldB (a25.add 4) w23 fun t30 => newP #[.int .i64 0, .int .u64 0, .slice none 0 0, .int .i64 0, .bool false] 34 w23 fun a31 w32 => stP a31 (.int .i64 n26) w32 fun w33 => stP (a31.add 1) (.int .u64 n27) w33 fun w34 => stP (a31.add 2) (.slice s28.a s28.l s28.c) w34 fun w35 => stP (a31.add 3) (.int .i64 n29) w35 fun w36 => stP (a31.add 4) (.bool t30) w36 fun w37 => ldI .i64 a31 w37 fun n38 => iteB ((n38 : Int) == 1)
  (ldI .u64 (a31.add 1) w37.drew fun n39 => c_codec_Reader_Byte r19 w37.drew fun r40 w41 => w41.cell? (a31.add 1) = some (.int .u64 n39) ∧ (iteB (!((r40 : Int) == (IntKind.u8.wrap n39)))
  (K false w41)
  (c_codec_Reader_Err r19 w41 fun r42 w43 => iteB ((r42 : Int) != 0)
  (K false w43)
  (next21 ((IntKind.i64.wrap (x24 + 1)), ()) w43))))
  (iteB ((n38 : Int) == 2)
  (ldI .u64 (a31.add 1) w37.drew fun n44 => c_codec_Reader_Uint r19 w37.drew fun r45 w46 => w46.cell? (a31.add 1) = some (.int .u64 n44) ∧ (iteB (!((r45 : Int) == n44))
  (K false w46)
  (c_codec_Reader_Err r19 w46 fun r47 w48 => iteB ((r47 : Int) != 0)
  (K false w48)
  (next21 ((IntKind.i64.wrap (x24 + 1)), ()) w48))))
  (iteB ((n38 : Int) == 6)
  (ldI .u64 (a31.add 1) w37.drew fun n49 => ldI .u64 (a31.add 1) w37.drew fun n50 => c_codec_Reader_Upto r19 n49 w37.drew fun r51 w52 => w52.cell? (a31.add 1) = some (.int .u64 n50) ∧ (iteB (!((r51 : Int) == n50))
  (K false w52)
  (c_codec_Reader_Err r19 w52 fun r53 w54 => iteB ((r53 : Int) != 0)
  (K false w54)
  (next21 ((IntKind.i64.wrap (x24 + 1)), ()) w54))))
  (iteB ((n38 : Int) == 3)
  (ldI .u64 (a31.add 1) w37.drew fun n55 => c_codec_Reader_Int r19 w37.drew fun r56 w57 => w57.cell? (a31.add 1) = some (.int .u64 n55) ∧ (iteB (!((r56 : Int) == (IntKind.i64.wrap n55)))
  (K false w57)
  (c_codec_Reader_Err r19 w57 fun r58 w59 => iteB ((r58 : Int) != 0)
  (K false w59)
  (next21 ((IntKind.i64.wrap (x24 + 1)), ()) w59))))
  (iteB ((n38 : Int) == 4)
  (ldS (a31.add 2) w37.drew fun s60 => ldS (a31.add 2) w37.drew fun s61 => c_codec_Reader_Bytes r19 (s60.l : Int) w37.drew fun r62 w63 => w63.cell? (a31.add 2) = some (.slice s61.a s61.l s61.c) ∧ (c_preludelaw01_same r62 s61 w63 fun r64 w65 => iteB (!r64)
  (K false w65)
  (c_codec_Reader_Err r19 w65 fun r66 w67 => iteB ((r66 : Int) != 0)
  (K false w67)
  (next21 ((IntKind.i64.wrap (x24 + 1)), ()) w67))))
  (iteB ((n38 : Int) == 5)
  (ldS (a31.add 2) w37.drew fun s68 => ldS (a31.add 2) w37.drew fun s69 => c_codec_Reader_Raw r19 (s68.l : Int) w37.drew fun r70 w71 => w71.cell? (a31.add 2) = some (.slice s69.a s69.l s69.c) ∧ (c_preludelaw01_same r70 s69 w71 fun r72 w73 => iteB (!r72)
  (K false w73)
  (c_codec_Reader_Err r19 w73 fun r74 w75 => iteB ((r74 : Int) != 0)
  (K false w75)
  (next21 ((IntKind.i64.wrap (x24 + 1)), ()) w75))))
  (c_codec_Reader_Err r19 w37 fun r76 w77 => iteB ((r76 : Int) != 0)
  (K false w77)
  (next21 ((IntKind.i64.wrap (x24 + 1)), ()) w77))))))))
  (c_codec_Reader_End r19 w23 fun r78 w79 => iteB ((r78 : Int) != 0)
  (K false w79)
  (c_codec_Reader_At r19 w79 fun r80 w81 => iteB ((r80 : Int) != (r17.l : Int))
  (K false w81)
  (c_codec_Reader_Left r19 w81 fun r82 w83 => iteB ((r82 : Int) != 0)
  (K false w83)
  (c_codec_Writer_Len r3 w83 fun r84 w85 => iteB ((r84 : Int) != (r17.l : Int))
  (K false w85)
  (iteB (((r17.l : Int) : Int) == 0)
  (K true w85)
  (slP r17.a r17.l r17.c none (some (IntKind.i64.wrap ((r17.l : Int) - 1))) 1 fun p86 l87 c88 => c_codec_Read ⟨p86, l87, c88⟩ w85 fun r89 w90 => loopP (σ := Int × Unit) (fun st92 next91 w93 => (fun (x94 : Int) => iteB (decide ((x94 : Int) < (x_0.l : Int)))
  (idxP x_0.a x_0.l x94 5 fun a95 => ldI .i64 a95 w93 fun n96 => ldI .u64 (a95.add 1) w93 fun n97 => ldS (a95.add 2) w93 fun s98 => ldI .i64 (a95.add 3) w93 fun n99 => ldB (a95.add 4) w93 fun t100 => newP #[.int .i64 0, .int .u64 0, .slice none 0 0, .int .i64 0, .bool false] 34 w93 fun a101 w102 => stP a101 (.int .i64 n96) w102 fun w103 => stP (a101.add 1) (.int .u64 n97) w103 fun w104 => stP (a101.add 2) (.slice s98.a s98.l s98.c) w104 fun w105 => stP (a101.add 3) (.int .i64 n99) w105 fun w106 => stP (a101.add 4) (.bool t100) w106 fun w107 => ldI .i64 a101 w107 fun n108 => iteB ((n108 : Int) == 1)
  (c_codec_Reader_Byte r89 w107 fun r109 w110 => next91 ((IntKind.i64.wrap (x94 + 1)), ()) w110)
  (iteB ((n108 : Int) == 2)
  (iteB ((n108 : Int) == 2)
  (c_codec_Reader_Uint r89 w107 fun r111 w112 => next91 ((IntKind.i64.wrap (x94 + 1)), ()) w112)
  (iteB ((n108 : Int) == 3)
  (c_codec_Reader_Int r89 w107 fun r113 w114 => next91 ((IntKind.i64.wrap (x94 + 1)), ()) w114)
  (iteB ((n108 : Int) == 4)
  (ldS (a101.add 2) w107 fun s115 => c_codec_Reader_Bytes r89 (s115.l : Int) w107 fun r116 w117 => next91 ((IntKind.i64.wrap (x94 + 1)), ()) w117)
  (iteB ((n108 : Int) == 5)
  (ldS (a101.add 2) w107 fun s118 => c_codec_Reader_Raw r89 (s118.l : Int) w107 fun r119 w120 => next91 ((IntKind.i64.wrap (x94 + 1)), ()) w120)
  (next91 ((IntKind.i64.wrap (x94 + 1)), ()) w107)))))
  (iteB ((n108 : Int) == 6)
  (c_codec_Reader_Uint r89 w107 fun r121 w122 => next91 ((IntKind.i64.wrap (x94 + 1)), ()) w122)
  (iteB ((n108 : Int) == 3)
  (c_codec_Reader_Int r89 w107 fun r123 w124 => next91 ((IntKind.i64.wrap (x94 + 1)), ()) w124)
  (iteB ((n108 : Int) == 4)
  (ldS (a101.add 2) w107 fun s125 => c_codec_Reader_Bytes r89 (s125.l : Int) w107 fun r126 w127 => next91 ((IntKind.i64.wrap (x94 + 1)), ()) w127)
  (iteB ((n108 : Int) == 5)
  (ldS (a101.add 2) w107 fun s128 => c_codec_Reader_Raw r89 (s128.l : Int) w107 fun r129 w130 => next91 ((IntKind.i64.wrap (x94 + 1)), ()) w130)
  (next91 ((IntKind.i64.wrap (x94 + 1)), ()) w107)))))))
  (c_codec_Reader_End r89 w93 fun r131 w132 => K ((r131 : Int) != 0) w132)) st92.1) (0, ()) w90))))))) st22.1) (0, ()) w20)) st6.1) (0, ()) w4)

def c_preludelaw01_CodecBack (x_0 : Slc) (w : World) (K : Bool → World → Prop) : Prop := Calls Try.prog 6 #[.slice x_0.a x_0.l x_0.c] w (onRet (fun v w' => ∃ (y0 : Bool), v = .bool y0 ∧ K y0 w'))

theorem sim_preludelaw01_CodecBack {x_0 : Slc} {w : World} {K : Bool → World → Prop} (h : sh_preludelaw01_CodecBack c_preludelaw01_awake c_codec_New c_preludelaw01_written c_codec_Writer_Out c_codec_Read c_codec_Reader_Byte c_codec_Reader_Err c_codec_Reader_Uint c_codec_Reader_Upto c_codec_Reader_Int c_codec_Reader_Bytes c_preludelaw01_same c_codec_Reader_Raw c_codec_Reader_End c_codec_Reader_At c_codec_Reader_Left c_codec_Writer_Len x_0 w K) : c_preludelaw01_CodecBack x_0 w K := by
  have e : sh_preludelaw01_CodecBack c_preludelaw01_awake c_codec_New c_preludelaw01_written c_codec_Writer_Out c_codec_Read c_codec_Reader_Byte c_codec_Reader_Err c_codec_Reader_Uint c_codec_Reader_Upto c_codec_Reader_Int c_codec_Reader_Bytes c_preludelaw01_same c_codec_Reader_Raw c_codec_Reader_End c_codec_Reader_At c_codec_Reader_Left c_codec_Writer_Len x_0 w K = shF Try.prog 6 ⟨[(17, [0, 2, 3, 4, 1, 5, 6]), (19, [0, 2, 3, 1, 4, 5]), (21, [0, 1, 2, 4, 5, 3, 6, 7]), (23, [0, 2, 3, 4, 1, 5, 6]), (25, [0, 1, 2, 3, 5, 6, 4, 7, 8]), (27, [0, 1, 2, 3, 5, 6, 4, 7, 8])], [(5, [(4, (.int .i64))], [0, 3]), (11, [(7, (.int .i64))], [0, 3, 5, 6]), (36, [(11, (.int .i64))], [0, 10])], []⟩ [.slice x_0.a x_0.l x_0.c] w (fun v w' => decV .b v fun y0 => K y0 w') := by kernel_rfl
  exact Calls.mono (calls_of _ e h) (onRet_mono (fun _ _ h => decV_spec h))

end Go.Proofs.Ytmadhcoeiclalaa
