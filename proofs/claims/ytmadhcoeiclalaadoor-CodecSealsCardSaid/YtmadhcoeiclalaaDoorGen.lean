import Derived.Test.YtmadhcoeiclalaaDoorProg
import Derived.Test.YtmadhcoeiclalaaDoorSh
set_option linter.unusedVariables false
namespace Go.Proofs.YtmadhcoeiclalaaDoor
open Go Go.Sh
-- 9 prelude/preludelaw01.roomy; callees []
def sh_preludelaw01_roomy (b_0 : Slc) (w : World) (K : Slc → Slc → World → Prop) : Prop :=
  mkP Tryd.prog 22 (.int .i64 (IntKind.i64.wrap ((b_0.l : Int) + 3))) (.int .i64 (IntKind.i64.wrap ((b_0.l : Int) + 3))) w fun s1 w2 => cpP Tryd.prog #[22, 22] 3 [.slice s1.a s1.l s1.c, .slice b_0.a b_0.l b_0.c] w2 fun n4 w3 => loopP (σ := Int × Unit) (fun st6 next5 w7 => (fun (i_8 : Int) => iteB (decide ((i_8 : Int) < (s1.l : Int)))
  (idxP s1.a s1.l i_8 1 fun a9 => stP a9 (.int .u8 171) w7 fun w10 => next5 ((IntKind.i64.wrap (i_8 + 1)), ()) w10)
  (slP s1.a s1.l s1.c none (some (b_0.l : Int)) 1 fun p11 l12 c13 => K ⟨p11, l12, c13⟩ s1 w7)) st6.1) ((b_0.l : Int), ()) w3

def c_preludelaw01_roomy (b_0 : Slc) (w : World) (K : Slc → Slc → World → Prop) : Prop := Calls Tryd.prog 9 #[.slice b_0.a b_0.l b_0.c] w (onRet (fun v w' => ∃ (y0 : Slc), ∃ (y1 : Slc), v = .tuple #[.slice y0.a y0.l y0.c, .slice y1.a y1.l y1.c] ∧ K y0 y1 w'))

theorem sim_preludelaw01_roomy {b_0 : Slc} {w : World} {K : Slc → Slc → World → Prop} (h : sh_preludelaw01_roomy b_0 w K) : c_preludelaw01_roomy b_0 w K := by
  have e : sh_preludelaw01_roomy b_0 w K = shF Tryd.prog 9 ⟨[], [(4, [(5, (.int .i64))], [0, 4])], []⟩ [.slice b_0.a b_0.l b_0.c] w (fun v w' => decT [(false, [.sl]), (false, [.sl])] v fun s => (fun (y0 : Slc) (y1 : Slc) => K y0 y1 w') s.1 s.2.1) := by kernel_rfl
  exact Calls.mono (calls_of _ e h) (onRet_mono (fun _ _ h => by obtain ⟨s, h1, h2⟩ := decT_spec h; exact ⟨s.1, s.2.1, h1, h2⟩))

-- 10 prelude/codec.Sum; callees []
def sh_codec_Sum (b_0 : Slc) (w : World) (K : Int → World → Prop) : Prop :=
  loopP (σ := Int × Int × Unit) (fun st2 next1 w3 => (fun (s_4 : Int) (x5 : Int) => iteB (decide ((x5 : Int) < (b_0.l : Int)))
  (idxP b_0.a b_0.l x5 1 fun a6 => ldI .u8 a6 w3 fun n7 => shP 4 (arrP 16 (bAnd .u32 (bXor .u32 s_4 (IntKind.u32.wrap n7)) 15) (ldI .u32 ((Addr.mk 0 0 none).add (Int.toNat (bAnd .u32 (bXor .u32 s_4 (IntKind.u32.wrap n7)) 15) * 1)) w3 fun n8 => shP 4 (arrP 16 (bAnd .u32 (bXor .u32 (Int.fdiv (bXor .u32 s_4 (IntKind.u32.wrap n7)) (2 ^ (min (Int.toNat 4) (IntKind.bits .u32)))) n8) 15) (ldI .u32 ((Addr.mk 0 0 none).add (Int.toNat (bAnd .u32 (bXor .u32 (Int.fdiv (bXor .u32 s_4 (IntKind.u32.wrap n7)) (2 ^ (min (Int.toNat 4) (IntKind.bits .u32)))) n8) 15) * 1)) w3 fun n9 => next1 ((bXor .u32 (Int.fdiv (bXor .u32 (Int.fdiv (bXor .u32 s_4 (IntKind.u32.wrap n7)) (2 ^ (min (Int.toNat 4) (IntKind.bits .u32)))) n8) (2 ^ (min (Int.toNat 4) (IntKind.bits .u32)))) n9), (IntKind.i64.wrap (x5 + 1)), ()) w3)))))
  (K (bXor .u32 (IntKind.max .u32) s_4) w3)) st2.1 st2.2.1) (4294967295, 0, ()) w

def c_codec_Sum (b_0 : Slc) (w : World) (K : Int → World → Prop) : Prop := Calls Tryd.prog 10 #[.slice b_0.a b_0.l b_0.c] w (onRet (fun v w' => ∃ (y0 : Int), v = .int .u32 y0 ∧ K y0 w'))

theorem sim_codec_Sum {b_0 : Slc} {w : World} {K : Int → World → Prop} (h : sh_codec_Sum b_0 w K) : c_codec_Sum b_0 w K := by
  have e : sh_codec_Sum b_0 w K = shF Tryd.prog 10 ⟨[], [(3, [(3, (.int .u32)), (8, (.int .i64))], [6, 7])], []⟩ [.slice b_0.a b_0.l b_0.c] w (fun v w' => decV (.int .u32) v fun y0 => K y0 w') := by kernel_rfl
  exact Calls.mono (calls_of _ e h) (onRet_mono (fun _ _ h => decV_spec h))

-- 11 prelude/preluderef01.Sum; callees []
def sh_preluderef01_Sum (b_0 : Slc) (w : World) (K : Int → World → Prop) : Prop :=
  loopP (σ := Int × Int × Unit) (fun st2 next1 w3 => (fun (rest_4 : Int) (i_5 : Int) => iteB (decide ((i_5 : Int) < (b_0.l : Int)))
  (loopP (σ := Int × Int × Unit) (fun st7 next6 w8 => (fun (rest_9 : Int) (k_10 : Int) => iteB (decide ((k_10 : Int) < 8))
  (idxP b_0.a b_0.l i_5 1 fun a11 => ldI .u8 a11 w8 fun n12 => shP k_10 (shP 1 (iteB (((bAnd .u32 (IntKind.u32.wrap (Int.fdiv n12 (2 ^ (min (Int.toNat k_10) (IntKind.bits .u8))))) 1) : Int) != (bAnd .u32 rest_9 1))
  (next6 ((bXor .u32 (Int.fdiv rest_9 (2 ^ (min (Int.toNat 1) (IntKind.bits .u32)))) 3988292384), (IntKind.i64.wrap (k_10 + 1)), ()) w8)
  (next6 ((Int.fdiv rest_9 (2 ^ (min (Int.toNat 1) (IntKind.bits .u32)))), (IntKind.i64.wrap (k_10 + 1)), ()) w8))))
  (next1 (rest_9, (IntKind.i64.wrap (i_5 + 1)), ()) w8)) st7.1 st7.2.1) (rest_4, 0, ()) w3)
  (K (bXor .u32 (IntKind.max .u32) rest_4) w3)) st2.1 st2.2.1) (4294967295, 0, ()) w

def c_preluderef01_Sum (b_0 : Slc) (w : World) (K : Int → World → Prop) : Prop := Calls Tryd.prog 11 #[.slice b_0.a b_0.l b_0.c] w (onRet (fun v w' => ∃ (y0 : Int), v = .int .u32 y0 ∧ K y0 w'))

theorem sim_preluderef01_Sum {b_0 : Slc} {w : World} {K : Int → World → Prop} (h : sh_preluderef01_Sum b_0 w K) : c_preluderef01_Sum b_0 w K := by
  have e : sh_preluderef01_Sum b_0 w K = shF Tryd.prog 11 ⟨[], [(3, [(3, (.int .u32)), (4, (.int .i64))], [0]), (6, [(3, (.int .u32)), (5, (.int .i64))], [0, 4])], []⟩ [.slice b_0.a b_0.l b_0.c] w (fun v w' => decV (.int .u32) v fun y0 => K y0 w') := by kernel_rfl
  exact Calls.mono (calls_of _ e h) (onRet_mono (fun _ _ h => decV_spec h))

-- 14 prelude/preludelaw01.same; callees []
def sh_preludelaw01_same (a_0 : Slc) (b_1 : Slc) (w : World) (K : Bool → World → Prop) : Prop :=
  iteB (((a_0.l : Int) : Int) != (b_1.l : Int))
  (K false w)
  (loopP (σ := Int × Unit) (fun st2 next1 w3 => (fun (i_4 : Int) => iteB (decide ((i_4 : Int) < (a_0.l : Int)))
  (idxP a_0.a a_0.l i_4 1 fun a5 => ldI .u8 a5 w3.drew fun n6 => idxP b_1.a b_1.l i_4 1 fun a7 => ldI .u8 a7 w3.drew fun n8 => iteB ((n6 : Int) != n8)
  (K false w3.drew)
  (next1 ((IntKind.i64.wrap (i_4 + 1)), ()) w3.drew))
  (K true w3)) st2.1) (0, ()) w)

def c_preludelaw01_same (a_0 : Slc) (b_1 : Slc) (w : World) (K : Bool → World → Prop) : Prop := Calls Tryd.prog 14 #[.slice a_0.a a_0.l a_0.c, .slice b_1.a b_1.l b_1.c] w (onRet (fun v w' => ∃ (y0 : Bool), v = .bool y0 ∧ K y0 w'))

theorem sim_preludelaw01_same {a_0 : Slc} {b_1 : Slc} {w : World} {K : Bool → World → Prop} (h : sh_preludelaw01_same a_0 b_1 w K) : c_preludelaw01_same a_0 b_1 w K := by
  have e : sh_preludelaw01_same a_0 b_1 w K = shF Tryd.prog 14 ⟨[(6, [0, 1, 2, 3, 4, 5, 6, 7, 8])], [(4, [(5, (.int .i64))], [0, 1])], []⟩ [.slice a_0.a a_0.l a_0.c, .slice b_1.a b_1.l b_1.c] w (fun v w' => decV .b v fun y0 => K y0 w') := by kernel_rfl
  exact Calls.mono (calls_of _ e h) (onRet_mono (fun _ _ h => decV_spec h))

-- 12 prelude/preludelaw01.intact; callees ['preludelaw01_same']
def sh_preludelaw01_intact (c_preludelaw01_same : Slc → Slc → World → (Bool → World → Prop) → Prop) (full_0 : Slc) (b_1 : Slc) (w : World) (K : Bool → World → Prop) : Prop :=
  loopP (σ := Int × Unit) (fun st2 next1 w3 => (fun (i_4 : Int) => iteB (decide ((i_4 : Int) < (full_0.l : Int)))
  (idxP full_0.a full_0.l i_4 1 fun a5 => ldI .u8 a5 w3 fun n6 => iteB ((n6 : Int) != 171)
  (K false w3)
  (next1 ((IntKind.i64.wrap (i_4 + 1)), ()) w3))
  (slP full_0.a full_0.l full_0.c none (some (b_1.l : Int)) 1 fun p7 l8 c9 => c_preludelaw01_same ⟨p7, l8, c9⟩ b_1 w3 fun r10 w11 => K r10 w11)) st2.1) ((b_1.l : Int), ()) w

def c_preludelaw01_intact (full_0 : Slc) (b_1 : Slc) (w : World) (K : Bool → World → Prop) : Prop := Calls Tryd.prog 12 #[.slice full_0.a full_0.l full_0.c, .slice b_1.a b_1.l b_1.c] w (onRet (fun v w' => ∃ (y0 : Bool), v = .bool y0 ∧ K y0 w'))

theorem sim_preludelaw01_intact {full_0 : Slc} {b_1 : Slc} {w : World} {K : Bool → World → Prop} (h : sh_preludelaw01_intact c_preludelaw01_same full_0 b_1 w K) : c_preludelaw01_intact full_0 b_1 w K := by
  have e : sh_preludelaw01_intact c_preludelaw01_same full_0 b_1 w K = shF Tryd.prog 12 ⟨[], [(2, [(5, (.int .i64))], [0, 1])], []⟩ [.slice full_0.a full_0.l full_0.c, .slice b_1.a b_1.l b_1.c] w (fun v w' => decV .b v fun y0 => K y0 w') := by kernel_rfl
  exact Calls.mono (calls_of _ e h) (onRet_mono (fun _ _ h => decV_spec h))

-- 3 prelude/preludelaw01.CodecSums; callees ['preludelaw01_roomy', 'codec_Sum', 'preluderef01_Sum', 'preludelaw01_intact']
def sh_preludelaw01_CodecSums (c_preludelaw01_roomy : Slc → World → (Slc → Slc → World → Prop) → Prop) (c_codec_Sum : Slc → World → (Int → World → Prop) → Prop) (c_preluderef01_Sum : Slc → World → (Int → World → Prop) → Prop) (c_preludelaw01_intact : Slc → Slc → World → (Bool → World → Prop) → Prop) (b_0 : Slc) (w : World) (K : Bool → World → Prop) : Prop :=
  c_preludelaw01_roomy b_0 w fun r1 r2 w3 => c_codec_Sum r1 w3 fun r4 w5 => c_preluderef01_Sum b_0 w5 fun r6 w7 => iteB ((r4 : Int) == r6)
  (c_preludelaw01_intact r2 b_0 w7 fun r8 w9 => iteB r8
  (c_codec_Sum ⟨none, 0, 0⟩ w9 fun r10 w11 => iteB ((r10 : Int) == 0)
  (newP #[.int .u8 49, .int .u8 50, .int .u8 51, .int .u8 52, .int .u8 53, .int .u8 54, .int .u8 55, .int .u8 56, .int .u8 57] 5 w11 fun a12 w13 => (∃ (r14 : Slc), ∃ w15, (convert 22 22 (.slice (some a12) 9 9)).run Tryd.prog w13 = .ok (.slice r14.a r14.l r14.c) w15 ∧ (c_codec_Sum r14 w15 fun r16 w17 => K ((r16 : Int) == 3421780262) w17)))
  (K false w11))
  (K false w9))
  (K false w7)

def c_preludelaw01_CodecSums (b_0 : Slc) (w : World) (K : Bool → World → Prop) : Prop := Calls Tryd.prog 3 #[.slice b_0.a b_0.l b_0.c] w (onRet (fun v w' => ∃ (y0 : Bool), v = .bool y0 ∧ K y0 w'))

theorem sim_preludelaw01_CodecSums {b_0 : Slc} {w : World} {K : Bool → World → Prop} (h : sh_preludelaw01_CodecSums c_preludelaw01_roomy c_codec_Sum c_preluderef01_Sum c_preludelaw01_intact b_0 w K) : c_preludelaw01_CodecSums b_0 w K := by
  have e : sh_preludelaw01_CodecSums c_preludelaw01_roomy c_codec_Sum c_preluderef01_Sum c_preludelaw01_intact b_0 w K = shF Tryd.prog 3 ⟨[], [], []⟩ [.slice b_0.a b_0.l b_0.c] w (fun v w' => decV .b v fun y0 => K y0 w') := by kernel_rfl
  exact Calls.mono (calls_of _ e h) (onRet_mono (fun _ _ h => decV_spec h))

-- 13 prelude/preludelaw01.copied; callees []
def sh_preludelaw01_copied (b_0 : Slc) (w : World) (K : Slc → World → Prop) : Prop :=
  mkP Tryd.prog 22 (.int .i64 (b_0.l : Int)) (.int .i64 (b_0.l : Int)) w fun s1 w2 => cpP Tryd.prog #[22, 22] 3 [.slice s1.a s1.l s1.c, .slice b_0.a b_0.l b_0.c] w2 fun n4 w3 => K s1 w3

def c_preludelaw01_copied (b_0 : Slc) (w : World) (K : Slc → World → Prop) : Prop := Calls Tryd.prog 13 #[.slice b_0.a b_0.l b_0.c] w (onRet (fun v w' => ∃ (y0 : Slc), v = .slice y0.a y0.l y0.c ∧ K y0 w'))

theorem sim_preludelaw01_copied {b_0 : Slc} {w : World} {K : Slc → World → Prop} (h : sh_preludelaw01_copied b_0 w K) : c_preludelaw01_copied b_0 w K := by
  have e : sh_preludelaw01_copied b_0 w K = shF Tryd.prog 13 ⟨[], [], []⟩ [.slice b_0.a b_0.l b_0.c] w (fun v w' => decV .sl v fun y0 => K y0 w') := by kernel_rfl
  exact Calls.mono (calls_of _ e h) (onRet_mono (fun _ _ h => decV_spec h))

-- 4 prelude/preludelaw01.CodecBursts; callees ['preludelaw01_copied', 'codec_Sum', 'preludelaw01_same']
def sh_preludelaw01_CodecBursts (c_preludelaw01_copied : Slc → World → (Slc → World → Prop) → Prop) (c_codec_Sum : Slc → World → (Int → World → Prop) → Prop) (c_preludelaw01_same : Slc → Slc → World → (Bool → World → Prop) → Prop) (x_0 : Slc) (x_1 : Int) (x_2 : Int) (w : World) (K : Bool → World → Prop) : Prop :=
  c_preludelaw01_copied x_0 w fun r1 w2 => iteB (decide (((x_0.l : Int) : Int) > 0))
  (dzP (IntKind.u64.wrap (IntKind.i64.wrap (8 * (x_0.l : Int)))) (loopP (σ := Int × Unit) (fun st4 next3 w5 => (fun (x6 : Int) => iteB (decide ((x6 : Int) < 32))
  (iteB (decide (((IntKind.i64.wrap ((IntKind.i64.wrap (Int.tmod (IntKind.u64.wrap x_1) (IntKind.u64.wrap (IntKind.i64.wrap (8 * (x_0.l : Int)))))) + x6)) : Int) < (IntKind.i64.wrap (8 * (x_0.l : Int)))))
  (shP x6 (iteB (((bAnd .u32 (Int.fdiv x_2 (2 ^ (min (Int.toNat x6) (IntKind.bits .u32)))) 1) : Int) == 1)
  (dzP 8 (dzP 8 (idxP r1.a r1.l (IntKind.i64.wrap (Int.tdiv (IntKind.i64.wrap ((IntKind.i64.wrap (Int.tmod (IntKind.u64.wrap x_1) (IntKind.u64.wrap (IntKind.i64.wrap (8 * (x_0.l : Int)))))) + x6)) 8)) 1 fun a7 => ldI .u8 a7 w5.drew fun n8 => dzP 8 (shP (Int.tmod (IntKind.i64.wrap ((IntKind.i64.wrap (Int.tmod (IntKind.u64.wrap x_1) (IntKind.u64.wrap (IntKind.i64.wrap (8 * (x_0.l : Int)))))) + x6)) 8) (idxP r1.a r1.l (IntKind.i64.wrap (Int.tdiv (IntKind.i64.wrap ((IntKind.i64.wrap (Int.tmod (IntKind.u64.wrap x_1) (IntKind.u64.wrap (IntKind.i64.wrap (8 * (x_0.l : Int)))))) + x6)) 8)) 1 fun a9 => stP a9 (.int .u8 (bXor .u8 n8 (IntKind.u8.wrap (1 * 2 ^ (min (Int.toNat (Int.tmod (IntKind.i64.wrap ((IntKind.i64.wrap (Int.tmod (IntKind.u64.wrap x_1) (IntKind.u64.wrap (IntKind.i64.wrap (8 * (x_0.l : Int)))))) + x6)) 8)) (IntKind.bits .u8)))))) w5.drew fun w10 => next3 ((IntKind.i64.wrap (x6 + 1)), ()) w10)))))
  (next3 ((IntKind.i64.wrap (x6 + 1)), ()) w5)))
  (next3 ((IntKind.i64.wrap (x6 + 1)), ()) w5))
  (c_codec_Sum x_0 w5 fun r11 w12 => c_codec_Sum r1 w12 fun r13 w14 => c_preludelaw01_same x_0 r1 w14 fun r15 w16 => K (((r11 : Int) == r13) == r15) w16)) st4.1) (0, ()) w2))
  (c_codec_Sum x_0 w2 fun r17 w18 => c_codec_Sum r1 w18 fun r19 w20 => c_preludelaw01_same x_0 r1 w20 fun r21 w22 => K (((r17 : Int) == r19) == r21) w22)

def c_preludelaw01_CodecBursts (x_0 : Slc) (x_1 : Int) (x_2 : Int) (w : World) (K : Bool → World → Prop) : Prop := Calls Tryd.prog 4 #[.slice x_0.a x_0.l x_0.c, .int .i64 x_1, .int .u32 x_2] w (onRet (fun v w' => ∃ (y0 : Bool), v = .bool y0 ∧ K y0 w'))

theorem sim_preludelaw01_CodecBursts {x_0 : Slc} {x_1 : Int} {x_2 : Int} {w : World} {K : Bool → World → Prop} (h : sh_preludelaw01_CodecBursts c_preludelaw01_copied c_codec_Sum c_preludelaw01_same x_0 x_1 x_2 w K) : c_preludelaw01_CodecBursts x_0 x_1 x_2 w K := by
  have e : sh_preludelaw01_CodecBursts c_preludelaw01_copied c_codec_Sum c_preludelaw01_same x_0 x_1 x_2 w K = shF Tryd.prog 4 ⟨[(9, [0, 1, 2, 3, 4, 5, 6, 7, 8, 9, 10, 11, 12, 13])], [(5, [(9, (.int .i64))], [0, 2, 7, 8])], []⟩ [.slice x_0.a x_0.l x_0.c, .int .i64 x_1, .int .u32 x_2] w (fun v w' => decV .b v fun y0 => K y0 w') := by kernel_rfl
  exact Calls.mono (calls_of _ e h) (onRet_mono (fun _ _ h => decV_spec h))

-- 25 prelude/codec.four; callees []
def sh_codec_four (b_0 : Slc) (n_1 : Int) (w : World) (K : Slc → World → Prop) : Prop :=
  shP 8 (shP 16 (shP 24 (newP #[.int .u8 (IntKind.u8.wrap n_1), .int .u8 (IntKind.u8.wrap (Int.fdiv n_1 (2 ^ (min (Int.toNat 8) (IntKind.bits .u32))))), .int .u8 (IntKind.u8.wrap (Int.fdiv n_1 (2 ^ (min (Int.toNat 16) (IntKind.bits .u32))))), .int .u8 (IntKind.u8.wrap (Int.fdiv n_1 (2 ^ (min (Int.toNat 24) (IntKind.bits .u32)))))] 5 w fun a1 w2 => apP Tryd.prog #[22, 22] 22 [.slice b_0.a b_0.l b_0.c, .slice (some a1) 4 4] w2 fun s4 w3 => K s4 w3)))

def c_codec_four (b_0 : Slc) (n_1 : Int) (w : World) (K : Slc → World → Prop) : Prop := Calls Tryd.prog 25 #[.slice b_0.a b_0.l b_0.c, .int .u32 n_1] w (onRet (fun v w' => ∃ (y0 : Slc), v = .slice y0.a y0.l y0.c ∧ K y0 w'))

theorem sim_codec_four {b_0 : Slc} {n_1 : Int} {w : World} {K : Slc → World → Prop} (h : sh_codec_four b_0 n_1 w K) : c_codec_four b_0 n_1 w K := by
  have e : sh_codec_four b_0 n_1 w K = shF Tryd.prog 25 ⟨[], [], []⟩ [.slice b_0.a b_0.l b_0.c, .int .u32 n_1] w (fun v w' => decV .sl v fun y0 => K y0 w') := by kernel_rfl
  exact Calls.mono (calls_of _ e h) (onRet_mono (fun _ _ h => decV_spec h))

-- 15 prelude/codec.Seal; callees ['codec_four', 'codec_Sum']
def sh_codec_Seal (c_codec_four : Slc → Int → World → (Slc → World → Prop) → Prop) (c_codec_Sum : Slc → World → (Int → World → Prop) → Prop) (kind_0 : Int) (load_1 : Slc) (w : World) (K : Slc → World → Prop) : Prop :=
  iteB (decide (((load_1.l : Int) : Int) > 16777216))
  (K ⟨none, 0, 0⟩ w)
  (newP #[.int .u8 kind_0] 5 w fun a1 w2 => c_codec_four ⟨(some a1), 1, 1⟩ (IntKind.u32.wrap (load_1.l : Int)) w2 fun r3 w4 => c_codec_Sum r3 w4 fun r5 w6 => c_codec_four r3 r5 w6 fun r7 w8 => apP Tryd.prog #[22, 22] 22 [.slice r7.a r7.l r7.c, .slice load_1.a load_1.l load_1.c] w8 fun s10 w9 => c_codec_Sum load_1 w9 fun r11 w12 => c_codec_four s10 r11 w12 fun r13 w14 => K r13 w14)

def c_codec_Seal (kind_0 : Int) (load_1 : Slc) (w : World) (K : Slc → World → Prop) : Prop := Calls Tryd.prog 15 #[.int .u8 kind_0, .slice load_1.a load_1.l load_1.c] w (onRet (fun v w' => ∃ (y0 : Slc), v = .slice y0.a y0.l y0.c ∧ K y0 w'))

theorem sim_codec_Seal {kind_0 : Int} {load_1 : Slc} {w : World} {K : Slc → World → Prop} (h : sh_codec_Seal c_codec_four c_codec_Sum kind_0 load_1 w K) : c_codec_Seal kind_0 load_1 w K := by
  have e : sh_codec_Seal c_codec_four c_codec_Sum kind_0 load_1 w K = shF Tryd.prog 15 ⟨[], [], []⟩ [.int .u8 kind_0, .slice load_1.a load_1.l load_1.c] w (fun v w' => decV .sl v fun y0 => K y0 w') := by kernel_rfl
  exact Calls.mono (calls_of _ e h) (onRet_mono (fun _ _ h => decV_spec h))

-- 26 prelude/preluderef01.four; callees []
def sh_preluderef01_four (n_0 : Int) (w : World) (K : Slc → World → Prop) : Prop :=
  shP 8 (shP 16 (shP 24 (newP #[.int .u8 (IntKind.u8.wrap n_0), .int .u8 (IntKind.u8.wrap (Int.fdiv n_0 (2 ^ (min (Int.toNat 8) (IntKind.bits .u32))))), .int .u8 (IntKind.u8.wrap (Int.fdiv n_0 (2 ^ (min (Int.toNat 16) (IntKind.bits .u32))))), .int .u8 (IntKind.u8.wrap (Int.fdiv n_0 (2 ^ (min (Int.toNat 24) (IntKind.bits .u32)))))] 5 w fun a1 w2 => K ⟨(some a1), 4, 4⟩ w2)))

def c_preluderef01_four (n_0 : Int) (w : World) (K : Slc → World → Prop) : Prop := Calls Tryd.prog 26 #[.int .u32 n_0] w (onRet (fun v w' => ∃ (y0 : Slc), v = .slice y0.a y0.l y0.c ∧ K y0 w'))

theorem sim_preluderef01_four {n_0 : Int} {w : World} {K : Slc → World → Prop} (h : sh_preluderef01_four n_0 w K) : c_preluderef01_four n_0 w K := by
  have e : sh_preluderef01_four n_0 w K = shF Tryd.prog 26 ⟨[], [], []⟩ [.int .u32 n_0] w (fun v w' => decV .sl v fun y0 => K y0 w') := by kernel_rfl
  exact Calls.mono (calls_of _ e h) (onRet_mono (fun _ _ h => decV_spec h))

-- 16 prelude/preluderef01.Seal; callees ['preluderef01_four', 'preluderef01_Sum']
def sh_preluderef01_Seal (c_preluderef01_four : Int → World → (Slc → World → Prop) → Prop) (c_preluderef01_Sum : Slc → World → (Int → World → Prop) → Prop) (kind_0 : Int) (load_1 : Slc) (w : World) (K : Slc → World → Prop) : Prop :=
  iteB (decide (((load_1.l : Int) : Int) > 16777216))
  (K ⟨none, 0, 0⟩ w)
  (newP #[.int .u8 kind_0] 5 w fun a1 w2 => c_preluderef01_four (IntKind.u32.wrap (load_1.l : Int)) w2 fun r3 w4 => apP Tryd.prog #[22, 22] 22 [.slice (some a1) 1 1, .slice r3.a r3.l r3.c] w4 fun s6 w5 => c_preluderef01_Sum s6 w5 fun r7 w8 => c_preluderef01_four r7 w8 fun r9 w10 => apP Tryd.prog #[22, 22] 22 [.slice s6.a s6.l s6.c, .slice r9.a r9.l r9.c] w10 fun s12 w11 => apP Tryd.prog #[22, 22] 22 [.slice s12.a s12.l s12.c, .slice load_1.a load_1.l load_1.c] w11 fun s14 w13 => c_preluderef01_Sum load_1 w13 fun r15 w16 => c_preluderef01_four r15 w16 fun r17 w18 => apP Tryd.prog #[22, 22] 22 [.slice s14.a s14.l s14.c, .slice r17.a r17.l r17.c] w18 fun s20 w19 => K s20 w19)

def c_preluderef01_Seal (kind_0 : Int) (load_1 : Slc) (w : World) (K : Slc → World → Prop) : Prop := Calls Tryd.prog 16 #[.int .u8 kind_0, .slice load_1.a load_1.l load_1.c] w (onRet (fun v w' => ∃ (y0 : Slc), v = .slice y0.a y0.l y0.c ∧ K y0 w'))

theorem sim_preluderef01_Seal {kind_0 : Int} {load_1 : Slc} {w : World} {K : Slc → World → Prop} (h : sh_preluderef01_Seal c_preluderef01_four c_preluderef01_Sum kind_0 load_1 w K) : c_preluderef01_Seal kind_0 load_1 w K := by
  have e : sh_preluderef01_Seal c_preluderef01_four c_preluderef01_Sum kind_0 load_1 w K = shF Tryd.prog 16 ⟨[], [], []⟩ [.int .u8 kind_0, .slice load_1.a load_1.l load_1.c] w (fun v w' => decV .sl v fun y0 => K y0 w') := by kernel_rfl
  exact Calls.mono (calls_of _ e h) (onRet_mono (fun _ _ h => decV_spec h))

-- 27 prelude/codec.back; callees []
def sh_codec_back (b_0 : Slc) (w : World) (K : Int → World → Prop) : Prop :=
  idxP b_0.a b_0.l 0 1 fun a1 => ldI .u8 a1 w.drew fun n2 => idxP b_0.a b_0.l 1 1 fun a3 => ldI .u8 a3 w.drew fun n4 => shP 8 (idxP b_0.a b_0.l 2 1 fun a5 => ldI .u8 a5 w.drew fun n6 => shP 16 (idxP b_0.a b_0.l 3 1 fun a7 => ldI .u8 a7 w.drew fun n8 => shP 24 (K (bOr .u32 (bOr .u32 (bOr .u32 (IntKind.u32.wrap n2) (IntKind.u32.wrap ((IntKind.u32.wrap n4) * 2 ^ (min (Int.toNat 8) (IntKind.bits .u32))))) (IntKind.u32.wrap ((IntKind.u32.wrap n6) * 2 ^ (min (Int.toNat 16) (IntKind.bits .u32))))) (IntKind.u32.wrap ((IntKind.u32.wrap n8) * 2 ^ (min (Int.toNat 24) (IntKind.bits .u32))))) w.drew)))

def c_codec_back (b_0 : Slc) (w : World) (K : Int → World → Prop) : Prop := Calls Tryd.prog 27 #[.slice b_0.a b_0.l b_0.c] w (onRet (fun v w' => ∃ (y0 : Int), v = .int .u32 y0 ∧ K y0 w'))

theorem sim_codec_back {b_0 : Slc} {w : World} {K : Int → World → Prop} (h : sh_codec_back b_0 w K) : c_codec_back b_0 w K := by
  have e : sh_codec_back b_0 w K = shF Tryd.prog 27 ⟨[(1, [0, 1, 2, 3, 4, 5, 6, 7, 8, 9, 10, 11, 12, 13, 14, 15, 16, 17, 18, 19, 20, 21, 22])], [], []⟩ [.slice b_0.a b_0.l b_0.c] w (fun v w' => decV (.int .u32) v fun y0 => K y0 w') := by kernel_rfl
  exact Calls.mono (calls_of _ e h) (onRet_mono (fun _ _ h => decV_spec h))

-- 28 slices.Clone[[]byte,byte]; callees []
def sh_slices_Clone_byte_byte (s_0 : Slc) (w : World) (K : Slc → World → Prop) : Prop :=
  iteB ((s_0.a).isNone)
  (K ⟨none, 0, 0⟩ w)
  (newP #[] 5 w fun a1 w2 => apP Tryd.prog #[22, 22] 22 [.slice (some a1) 0 0, .slice s_0.a s_0.l s_0.c] w2 fun s4 w3 => K s4 w3)

def c_slices_Clone_byte_byte (s_0 : Slc) (w : World) (K : Slc → World → Prop) : Prop := Calls Tryd.prog 28 #[.slice s_0.a s_0.l s_0.c] w (onRet (fun v w' => ∃ (y0 : Slc), v = .slice y0.a y0.l y0.c ∧ K y0 w'))

theorem sim_slices_Clone_byte_byte {s_0 : Slc} {w : World} {K : Slc → World → Prop} (h : sh_slices_Clone_byte_byte s_0 w K) : c_slices_Clone_byte_byte s_0 w K := by
  have e : sh_slices_Clone_byte_byte s_0 w K = shF Tryd.prog 28 ⟨[], [], []⟩ [.slice s_0.a s_0.l s_0.c] w (fun v w' => decV .sl v fun y0 => K y0 w') := by kernel_rfl
  exact Calls.mono (calls_of _ e h) (onRet_mono (fun _ _ h => decV_spec h))

-- 17 prelude/codec.Unseal; callees ['codec_Sum', 'codec_back', 'slices_Clone_byte_byte']
def sh_codec_Unseal (c_codec_Sum : Slc → World → (Int → World → Prop) → Prop) (c_codec_back : Slc → World → (Int → World → Prop) → Prop) (c_slices_Clone_byte_byte : Slc → World → (Slc → World → Prop) → Prop) (x_0 : Slc) (x_1 : Int) (w : World) (K : Int → Slc → Int → Int → World → Prop) : Prop :=
  iteB (decide ((x_1 : Int) < 0))
  (K 0 ⟨none, 0, 0⟩ 0 11 w)
  (iteB (decide ((x_1 : Int) > (x_0.l : Int)))
  (K 0 ⟨none, 0, 0⟩ 0 11 w)
  (slP x_0.a x_0.l x_0.c (some x_1) none 1 fun p1 l2 c3 => iteB (decide (((l2 : Int) : Int) < 9))
  (K 0 ⟨none, 0, 0⟩ 0 10 w)
  (slP p1 l2 c3 none (some 5) 1 fun p4 l5 c6 => slP p1 l2 c3 (some 5) (some 9) 1 fun p7 l8 c9 => c_codec_Sum ⟨p4, l5, c6⟩ w.drew fun r10 w11 => c_codec_back ⟨p7, l8, c9⟩ w11 fun r12 w13 => iteB ((r10 : Int) != r12)
  (K 0 ⟨none, 0, 0⟩ 0 13 w13)
  (slP p1 l2 c3 (some 1) (some 5) 1 fun p14 l15 c16 => c_codec_back ⟨p14, l15, c16⟩ w13 fun r17 w18 => iteB (decide ((r17 : Int) > 16777216))
  (K 0 ⟨none, 0, 0⟩ 0 12 w18)
  (iteB (decide (((l2 : Int) : Int) < (IntKind.i64.wrap (13 + (IntKind.i64.wrap r17)))))
  (K 0 ⟨none, 0, 0⟩ 0 10 w18)
  (slP p1 l2 c3 (some 9) (some (IntKind.i64.wrap (9 + (IntKind.i64.wrap r17)))) 1 fun p19 l20 c21 => slP p1 l2 c3 (some (IntKind.i64.wrap (9 + (IntKind.i64.wrap r17)))) none 1 fun p22 l23 c24 => c_codec_Sum ⟨p19, l20, c21⟩ w18.drew fun r25 w26 => c_codec_back ⟨p22, l23, c24⟩ w26 fun r27 w28 => iteB ((r25 : Int) != r27)
  (K 0 ⟨none, 0, 0⟩ 0 13 w28)
  (idxP p1 l2 0 1 fun a29 => ldI .u8 a29 w28.drew fun n30 => c_slices_Clone_byte_byte ⟨p19, l20, c21⟩ w28.drew fun r31 w32 => w32.cell? a29 = some (.int .u8 n30) ∧ (K n30 r31 (IntKind.i64.wrap ((IntKind.i64.wrap (x_1 + 13)) + (IntKind.i64.wrap r17))) 0 w32))))))))

def c_codec_Unseal (x_0 : Slc) (x_1 : Int) (w : World) (K : Int → Slc → Int → Int → World → Prop) : Prop := Calls Tryd.prog 17 #[.slice x_0.a x_0.l x_0.c, .int .i64 x_1] w (onRet (fun v w' => ∃ (y0 : Int), ∃ (y1 : Slc), ∃ (y2 : Int), ∃ (y3 : Int), v = .tuple #[.int .u8 y0, .slice y1.a y1.l y1.c, .int .i64 y2, .int .i64 y3] ∧ K y0 y1 y2 y3 w'))

theorem sim_codec_Unseal {x_0 : Slc} {x_1 : Int} {w : World} {K : Int → Slc → Int → Int → World → Prop} (h : sh_codec_Unseal c_codec_Sum c_codec_back c_slices_Clone_byte_byte x_0 x_1 w K) : c_codec_Unseal x_0 x_1 w K := by
  have e : sh_codec_Unseal c_codec_Sum c_codec_back c_slices_Clone_byte_byte x_0 x_1 w K = shF Tryd.prog 17 ⟨[(6, [0, 1, 3, 4, 2, 5, 6]), (14, [0, 2, 3, 4, 5, 6, 1, 7, 8]), (16, [0, 1, 2, 3, 5, 6, 7, 8, 9, 4, 10, 11, 12, 13])], [], []⟩ [.slice x_0.a x_0.l x_0.c, .int .i64 x_1] w (fun v w' => decT [(false, [(.int .u8)]), (false, [.sl]), (false, [(.int .i64)]), (false, [(.int .i64)])] v fun s => (fun (y0 : Int) (y1 : Slc) (y2 : Int) (y3 : Int) => K y0 y1 y2 y3 w') s.1 s.2.1 s.2.2.1 s.2.2.2.1) := by kernel_rfl
  exact Calls.mono (calls_of _ e h) (onRet_mono (fun _ _ h => by obtain ⟨s, h1, h2⟩ := decT_spec h; exact ⟨s.1, s.2.1, s.2.2.1, s.2.2.2.1, h1, h2⟩))

-- 29 prelude/preluderef01.word; callees []
def sh_preluderef01_word (b_0 : Slc) (w : World) (K : Int → World → Prop) : Prop :=
  idxP b_0.a b_0.l 0 1 fun a1 => ldI .u8 a1 w.drew fun n2 => idxP b_0.a b_0.l 1 1 fun a3 => ldI .u8 a3 w.drew fun n4 => shP 8 (idxP b_0.a b_0.l 2 1 fun a5 => ldI .u8 a5 w.drew fun n6 => shP 16 (idxP b_0.a b_0.l 3 1 fun a7 => ldI .u8 a7 w.drew fun n8 => shP 24 (K (IntKind.u32.wrap ((IntKind.u32.wrap ((IntKind.u32.wrap ((IntKind.u32.wrap n2) + (IntKind.u32.wrap ((IntKind.u32.wrap n4) * 2 ^ (min (Int.toNat 8) (IntKind.bits .u32)))))) + (IntKind.u32.wrap ((IntKind.u32.wrap n6) * 2 ^ (min (Int.toNat 16) (IntKind.bits .u32)))))) + (IntKind.u32.wrap ((IntKind.u32.wrap n8) * 2 ^ (min (Int.toNat 24) (IntKind.bits .u32)))))) w.drew)))

def c_preluderef01_word (b_0 : Slc) (w : World) (K : Int → World → Prop) : Prop := Calls Tryd.prog 29 #[.slice b_0.a b_0.l b_0.c] w (onRet (fun v w' => ∃ (y0 : Int), v = .int .u32 y0 ∧ K y0 w'))

theorem sim_preluderef01_word {b_0 : Slc} {w : World} {K : Int → World → Prop} (h : sh_preluderef01_word b_0 w K) : c_preluderef01_word b_0 w K := by
  have e : sh_preluderef01_word b_0 w K = shF Tryd.prog 29 ⟨[(1, [0, 1, 2, 3, 4, 5, 6, 7, 8, 9, 10, 11, 12, 13, 14, 15, 16, 17, 18, 19, 20, 21, 22])], [], []⟩ [.slice b_0.a b_0.l b_0.c] w (fun v w' => decV (.int .u32) v fun y0 => K y0 w') := by kernel_rfl
  exact Calls.mono (calls_of _ e h) (onRet_mono (fun _ _ h => decV_spec h))

-- 18 prelude/preluderef01.Unseal; callees ['preluderef01_Sum', 'preluderef01_word']
def sh_preluderef01_Unseal (c_preluderef01_Sum : Slc → World → (Int → World → Prop) → Prop) (c_preluderef01_word : Slc → World → (Int → World → Prop) → Prop) (x_0 : Slc) (x_1 : Int) (w : World) (K : Int → Slc → Int → Int → World → Prop) : Prop :=
  iteB (decide ((x_1 : Int) < 0))
  (K 0 ⟨none, 0, 0⟩ 0 11 w)
  (iteB (decide ((x_1 : Int) > (x_0.l : Int)))
  (K 0 ⟨none, 0, 0⟩ 0 11 w)
  (slP x_0.a x_0.l x_0.c (some x_1) none 1 fun p1 l2 c3 => iteB (decide (((l2 : Int) : Int) < 9))
  (K 0 ⟨none, 0, 0⟩ 0 10 w)
  (slP p1 l2 c3 none (some 5) 1 fun p4 l5 c6 => slP p1 l2 c3 (some 5) (some 9) 1 fun p7 l8 c9 => c_preluderef01_Sum ⟨p4, l5, c6⟩ w.drew fun r10 w11 => c_preluderef01_word ⟨p7, l8, c9⟩ w11 fun r12 w13 => iteB ((r10 : Int) != r12)
  (K 0 ⟨none, 0, 0⟩ 0 13 w13)
  (slP p1 l2 c3 (some 1) (some 5) 1 fun p14 l15 c16 => c_preluderef01_word ⟨p14, l15, c16⟩ w13 fun r17 w18 => iteB (decide (((IntKind.i64.wrap r17) : Int) > 16777216))
  (K 0 ⟨none, 0, 0⟩ 0 12 w18)
  (iteB (decide (((l2 : Int) : Int) < (IntKind.i64.wrap ((IntKind.i64.wrap r17) + 13))))
  (K 0 ⟨none, 0, 0⟩ 0 10 w18)
  (slP p1 l2 c3 (some 9) (some (IntKind.i64.wrap (9 + (IntKind.i64.wrap r17)))) 1 fun p19 l20 c21 => slP p1 l2 c3 (some (IntKind.i64.wrap (9 + (IntKind.i64.wrap r17)))) (some (IntKind.i64.wrap (13 + (IntKind.i64.wrap r17)))) 1 fun p22 l23 c24 => c_preluderef01_Sum ⟨p19, l20, c21⟩ w18.drew fun r25 w26 => c_preluderef01_word ⟨p22, l23, c24⟩ w26 fun r27 w28 => iteB ((r25 : Int) != r27)
  (K 0 ⟨none, 0, 0⟩ 0 13 w28)
  (slP p1 l2 c3 (some 9) (some (IntKind.i64.wrap (9 + (IntKind.i64.wrap r17)))) 1 fun p29 l30 c31 => apP Tryd.prog #[22, 22] 22 [.slice none 0 0, .slice p29 l30 c31] w28 fun s33 w32 => idxP p1 l2 0 1 fun a34 => ldI .u8 a34 w32 fun n35 => K n35 s33 (IntKind.i64.wrap ((IntKind.i64.wrap (x_1 + (IntKind.i64.wrap r17))) + 13)) 0 w32)))))))

def c_preluderef01_Unseal (x_0 : Slc) (x_1 : Int) (w : World) (K : Int → Slc → Int → Int → World → Prop) : Prop := Calls Tryd.prog 18 #[.slice x_0.a x_0.l x_0.c, .int .i64 x_1] w (onRet (fun v w' => ∃ (y0 : Int), ∃ (y1 : Slc), ∃ (y2 : Int), ∃ (y3 : Int), v = .tuple #[.int .u8 y0, .slice y1.a y1.l y1.c, .int .i64 y2, .int .i64 y3] ∧ K y0 y1 y2 y3 w'))

theorem sim_preluderef01_Unseal {x_0 : Slc} {x_1 : Int} {w : World} {K : Int → Slc → Int → Int → World → Prop} (h : sh_preluderef01_Unseal c_preluderef01_Sum c_preluderef01_word x_0 x_1 w K) : c_preluderef01_Unseal x_0 x_1 w K := by
  have e : sh_preluderef01_Unseal c_preluderef01_Sum c_preluderef01_word x_0 x_1 w K = shF Tryd.prog 18 ⟨[(6, [0, 1, 3, 4, 2, 5, 6]), (13, [0, 1, 2, 3, 5, 6, 7, 8, 9, 10, 4, 11, 12])], [], []⟩ [.slice x_0.a x_0.l x_0.c, .int .i64 x_1] w (fun v w' => decT [(false, [(.int .u8)]), (false, [.sl]), (false, [(.int .i64)]), (false, [(.int .i64)])] v fun s => (fun (y0 : Int) (y1 : Slc) (y2 : Int) (y3 : Int) => K y0 y1 y2 y3 w') s.1 s.2.1 s.2.2.1 s.2.2.2.1) := by kernel_rfl
  exact Calls.mono (calls_of _ e h) (onRet_mono (fun _ _ h => by obtain ⟨s, h1, h2⟩ := decT_spec h; exact ⟨s.1, s.2.1, s.2.2.1, s.2.2.2.1, h1, h2⟩))

-- 19 (*prelude/preludelaw01.book).put; callees ['preludelaw01_copied']
def sh_preludelaw01_book_put (c_preludelaw01_copied : Slc → World → (Slc → World → Prop) → Prop) (k_0 : Option Addr) (l_1 : Slc) (w : World) (K : World → Prop) : Prop :=
  nnP k_0 fun a1 => ldS a1 w fun s2 => newP #[.slice l_1.a l_1.l l_1.c] 22 w fun a3 w4 => apP Tryd.prog #[41, 41] 41 [.slice s2.a s2.l s2.c, .slice (some a3) 1 1] w4 fun s6 w5 => nnP k_0 fun a7 => stP a7 (.slice s6.a s6.l s6.c) w5 fun w8 => nnP k_0 fun a9 => ldS (a9.add 1) w8.drew fun s10 => c_preludelaw01_copied l_1 w8.drew fun r11 w12 => w12.cell? (a9.add 1) = some (.slice s10.a s10.l s10.c) ∧ (newP #[.slice r11.a r11.l r11.c] 22 w12 fun a13 w14 => w14.cell? (a9.add 1) = some (.slice s10.a s10.l s10.c) ∧ (apP Tryd.prog #[41, 41] 41 [.slice s10.a s10.l s10.c, .slice (some a13) 1 1] w14 fun s16 w15 => nnP k_0 fun a17 => stP (a17.add 1) (.slice s16.a s16.l s16.c) w15 fun w18 => K w18))

def c_preludelaw01_book_put (k_0 : Option Addr) (l_1 : Slc) (w : World) (K : World → Prop) : Prop := Calls Tryd.prog 19 #[.pointer k_0, .slice l_1.a l_1.l l_1.c] w (onRet (fun v w' => v = .tuple #[] ∧ K w'))

theorem sim_preludelaw01_book_put {k_0 : Option Addr} {l_1 : Slc} {w : World} {K : World → Prop} (h : sh_preludelaw01_book_put c_preludelaw01_copied k_0 l_1 w K) : c_preludelaw01_book_put k_0 l_1 w K := by
  have e : sh_preludelaw01_book_put c_preludelaw01_copied k_0 l_1 w K = shF Tryd.prog 19 ⟨[(1, [0, 1, 2, 3, 4, 5, 6, 7, 8, 9, 10, 11])], [], []⟩ [.pointer k_0, .slice l_1.a l_1.l l_1.c] w (fun v w' => decU v (K w')) := by kernel_rfl
  exact Calls.mono (calls_of _ e h) (onRet_mono (fun _ _ h => decU_spec h))

-- 30 (*prelude/preludelaw01.book).whole; callees ['preludelaw01_same']
def sh_preludelaw01_book_whole (c_preludelaw01_same : Slc → Slc → World → (Bool → World → Prop) → Prop) (k_0 : Option Addr) (w : World) (K : Bool → World → Prop) : Prop :=
  loopP (σ := Int × Unit) (fun st2 next1 w3 => (fun (i_4 : Int) => nnP k_0 fun a5 => ldS a5 w3 fun s6 => iteB (decide ((i_4 : Int) < (s6.l : Int)))
  (nnP k_0 fun a7 => ldS a7 w3.drew fun s8 => idxP s8.a s8.l i_4 1 fun a9 => ldS a9 w3.drew fun s10 => nnP k_0 fun a11 => ldS (a11.add 1) w3.drew fun s12 => idxP s12.a s12.l i_4 1 fun a13 => ldS a13 w3.drew fun s14 => c_preludelaw01_same s10 s14 w3.drew fun r15 w16 => iteB (!r15)
  (K false w16)
  (next1 ((IntKind.i64.wrap (i_4 + 1)), ()) w16))
  (K true w3)) st2.1) (0, ()) w

def c_preludelaw01_book_whole (k_0 : Option Addr) (w : World) (K : Bool → World → Prop) : Prop := Calls Tryd.prog 30 #[.pointer k_0] w (onRet (fun v w' => ∃ (y0 : Bool), v = .bool y0 ∧ K y0 w'))

theorem sim_preludelaw01_book_whole {k_0 : Option Addr} {w : World} {K : Bool → World → Prop} (h : sh_preludelaw01_book_whole c_preludelaw01_same k_0 w K) : c_preludelaw01_book_whole k_0 w K := by
  have e : sh_preludelaw01_book_whole c_preludelaw01_same k_0 w K = shF Tryd.prog 30 ⟨[(4, [0, 1, 2, 3, 4, 5, 6, 7, 8, 9, 10, 11, 12, 13, 14, 15])], [(2, [(3, (.int .i64))], [0])], []⟩ [.pointer k_0] w (fun v w' => decV .b v fun y0 => K y0 w') := by kernel_rfl
  exact Calls.mono (calls_of _ e h) (onRet_mono (fun _ _ h => decV_spec h))

-- 20 (*prelude/preludelaw01.book).ends; callees ['preludelaw01_book_whole', 'preludelaw01_same']
def sh_preludelaw01_book_ends (c_preludelaw01_book_whole : Option Addr → World → (Bool → World → Prop) → Prop) (c_preludelaw01_same : Slc → Slc → World → (Bool → World → Prop) → Prop) (x_0 : Option Addr) (w : World) (K : Bool → World → Prop) : Prop :=
  c_preludelaw01_book_whole x_0 w fun r1 w2 => iteB (!r1)
  (K false w2)
  (loopP (σ := Int × Unit) (fun st4 next3 w5 => (fun (x6 : Int) => nnP x_0 fun a7 => ldS a7 w5 fun s8 => iteB (decide ((x6 : Int) < (s8.l : Int)))
  (loopP (σ := Int × Unit) (fun st10 next9 w11 => (fun (x12 : Int) => nnP x_0 fun a13 => ldS a13 w11 fun s14 => idxP s14.a s14.l x6 1 fun a15 => ldS a15 w11 fun s16 => iteB (decide ((x12 : Int) < (s16.l : Int)))
  (nnP x_0 fun a17 => ldS a17 w11 fun s18 => idxP s18.a s18.l x6 1 fun a19 => ldS a19 w11 fun s20 => idxP s20.a s20.l x12 1 fun a21 => stP a21 (.int .u8 (IntKind.u8.wrap (IntKind.i64.wrap ((IntKind.i64.wrap (x6 * 7)) + x12)))) w11 fun w22 => nnP x_0 fun a23 => ldS (a23.add 1) w22 fun s24 => idxP s24.a s24.l x6 1 fun a25 => ldS a25 w22 fun s26 => idxP s26.a s26.l x12 1 fun a27 => stP a27 (.int .u8 (IntKind.u8.wrap (IntKind.i64.wrap ((IntKind.i64.wrap (x6 * 7)) + x12)))) w22 fun w28 => next9 ((IntKind.i64.wrap (x12 + 1)), ()) w28)
  (next3 ((IntKind.i64.wrap (x6 + 1)), ()) w11)) st10.1) (0, ()) w5)
  (loopP (σ := Slc × Int × Unit) (fun st30 next29 w31 => (fun (x32 : Slc) (x33 : Int) => nnP x_0 fun a34 => ldS a34 w31 fun s35 => iteB (decide ((x33 : Int) < (s35.l : Int)))
  (nnP x_0 fun a36 => ldS a36 w31 fun s37 => idxP s37.a s37.l x33 1 fun a38 => ldS a38 w31 fun s39 => newP #[.slice s39.a s39.l s39.c] 22 w31 fun a40 w41 => apP Tryd.prog #[41, 41] 41 [.slice x32.a x32.l x32.c, .slice (some a40) 1 1] w41 fun s43 w42 => next29 (s43, (IntKind.i64.wrap (x33 + 1)), ()) w42)
  (loopP (σ := Int × Unit) (fun st45 next44 w46 => (fun (x47 : Int) => iteB (decide ((x47 : Int) < 70))
  (loopP (σ := Int × Unit) (fun st49 next48 w50 => (fun (x51 : Int) => iteB (decide ((x51 : Int) < (x32.l : Int)))
  (idxP x32.a x32.l x51 1 fun a52 => ldS a52 w50 fun s53 => newP #[.int .u8 (IntKind.u8.wrap (IntKind.i64.wrap (100 + (IntKind.i64.wrap (x51 * 3)))))] 5 w50 fun a54 w55 => apP Tryd.prog #[22, 22] 22 [.slice s53.a s53.l s53.c, .slice (some a54) 1 1] w55 fun s57 w56 => idxP x32.a x32.l x51 1 fun a58 => stP a58 (.slice s57.a s57.l s57.c) w56 fun w59 => next48 ((IntKind.i64.wrap (x51 + 1)), ()) w59)
  (next44 ((IntKind.i64.wrap (x47 + 1)), ()) w50)) st49.1) (0, ()) w46)
  (loopP (σ := Int × Unit) (fun st61 next60 w62 => (fun (x63 : Int) => iteB (decide ((x63 : Int) < (x32.l : Int)))
  (nnP x_0 fun a64 => ldS a64 w62 fun s65 => idxP s65.a s65.l x63 1 fun a66 => ldS a66 w62 fun s67 => idxP x32.a x32.l x63 1 fun a68 => ldS a68 w62.drew fun s69 => slP s69.a s69.l s69.c none (some (s67.l : Int)) 1 fun p70 l71 c72 => nnP x_0 fun a73 => ldS (a73.add 1) w62.drew fun s74 => idxP s74.a s74.l x63 1 fun a75 => ldS a75 w62.drew fun s76 => c_preludelaw01_same ⟨p70, l71, c72⟩ s76 w62.drew fun r77 w78 => iteB (!r77)
  (K false w78)
  (loopP (σ := Int × Unit) (fun st80 next79 w81 => (fun (x82 : Int) => idxP x32.a x32.l x63 1 fun a83 => ldS a83 w81 fun s84 => iteB (decide ((x82 : Int) < (s84.l : Int)))
  (idxP x32.a x32.l x63 1 fun a85 => ldS a85 w81 fun s86 => idxP s86.a s86.l x82 1 fun a87 => ldI .u8 a87 w81 fun n88 => iteB ((n88 : Int) != (IntKind.u8.wrap (IntKind.i64.wrap (100 + (IntKind.i64.wrap (x63 * 3))))))
  (K false w81)
  (next79 ((IntKind.i64.wrap (x82 + 1)), ()) w81))
  (next60 ((IntKind.i64.wrap (x63 + 1)), ()) w81)) st80.1) ((s67.l : Int), ()) w78))
  (c_preludelaw01_book_whole x_0 w62 fun r89 w90 => K r89 w90)) st61.1) (0, ()) w46)) st45.1) (0, ()) w31)) st30.1 st30.2.1) (⟨none, 0, 0⟩, 0, ()) w5)) st4.1) (0, ()) w2)

def c_preludelaw01_book_ends (x_0 : Option Addr) (w : World) (K : Bool → World → Prop) : Prop := Calls Tryd.prog 20 #[.pointer x_0] w (onRet (fun v w' => ∃ (y0 : Bool), v = .bool y0 ∧ K y0 w'))

theorem sim_preludelaw01_book_ends {x_0 : Option Addr} {w : World} {K : Bool → World → Prop} (h : sh_preludelaw01_book_ends c_preludelaw01_book_whole c_preludelaw01_same x_0 w K) : c_preludelaw01_book_ends x_0 w K := by
  have e : sh_preludelaw01_book_ends c_preludelaw01_book_whole c_preludelaw01_same x_0 w K = shF Tryd.prog 20 ⟨[(27, [0, 1, 2, 3, 4, 5, 6, 7, 8, 9, 10, 11, 12, 13, 14])], [(4, [(3, (.int .i64))], [0]), (7, [(4, (.int .i64))], [0, 3]), (13, [(5, .sl), (6, (.int .i64))], [0]), (17, [(7, (.int .i64))], [0, 5]), (20, [(8, (.int .i64))], [0, 5, 7]), (24, [(9, (.int .i64))], [0, 5]), (30, [(11, (.int .i64))], [0, 5, 9])], []⟩ [.pointer x_0] w (fun v w' => decV .b v fun y0 => K y0 w') := by kernel_rfl
  exact Calls.mono (calls_of _ e h) (onRet_mono (fun _ _ h => decV_spec h))

-- 5 prelude/preludelaw01.CodecSeals; callees ['preludelaw01_roomy', 'codec_Seal', 'preluderef01_Seal', 'preludelaw01_same', 'preludelaw01_intact', 'codec_Unseal', 'preluderef01_Unseal', 'preludelaw01_book_put', 'preludelaw01_book_ends']
def sh_preludelaw01_CodecSeals (c_preludelaw01_roomy : Slc → World → (Slc → Slc → World → Prop) → Prop) (c_codec_Seal : Int → Slc → World → (Slc → World → Prop) → Prop) (c_preluderef01_Seal : Int → Slc → World → (Slc → World → Prop) → Prop) (c_preludelaw01_same : Slc → Slc → World → (Bool → World → Prop) → Prop) (c_preludelaw01_intact : Slc → Slc → World → (Bool → World → Prop) → Prop) (c_codec_Unseal : Slc → Int → World → (Int → Slc → Int → Int → World → Prop) → Prop) (c_preluderef01_Unseal : Slc → Int → World → (Int → Slc → Int → Int → World → Prop) → Prop) (c_preludelaw01_book_put : Option Addr → Slc → World → (World → Prop) → Prop) (c_preludelaw01_book_ends : Option Addr → World → (Bool → World → Prop) → Prop) (x_0_0 : Int) (x_0_1 : Slc) (x_0_2 : Slc) (x_0_3 : Int) (w : World) (K : Bool → World → Prop) : Prop :=
  newP #[.int .u8 x_0_0, .slice x_0_1.a x_0_1.l x_0_1.c, .slice x_0_2.a x_0_2.l x_0_2.c, .int .i64 x_0_3] 33 w fun a1 w2 => ldI .u8 a1 w2.drew fun n3 => ldS (a1.add 1) w2.drew fun s4 => ldS (a1.add 2) w2.drew fun s5 => ldI .i64 (a1.add 3) w2.drew fun n6 => c_preludelaw01_roomy s4 w2.drew fun r7 r8 w9 => c_codec_Seal n3 r7 w9 fun r10 w11 => c_codec_Seal n3 r7 w11 fun r12 w13 => c_preluderef01_Seal n3 s4 w13 fun r14 w15 => c_preludelaw01_same r10 r14 w15 fun r16 w17 => iteB (!r16)
  (K false w17)
  (c_preludelaw01_same r12 r14 w17 fun r18 w19 => iteB (!r18)
  (K false w19)
  (c_preludelaw01_intact r8 s4 w19 fun r20 w21 => iteB (!r20)
  (K false w21)
  (c_preludelaw01_roomy s5 w21 fun r22 r23 w24 => c_codec_Unseal r22 n6 w24 fun r25 r26 r27 r28 w29 => c_preluderef01_Unseal s5 n6 w29 fun r30 r31 r32 r33 w34 => c_codec_Unseal r22 n6 w34 fun r35 r36 r37 r38 w39 => iteB ((r25 : Int) != r30)
  (K false w39)
  (c_preludelaw01_same r26 r31 w39 fun r40 w41 => iteB (!r40)
  (K false w41)
  (c_preludelaw01_same r36 r31 w41 fun r42 w43 => iteB (!r42)
  (K false w43)
  (iteB ((r27 : Int) != r32)
  (K false w43)
  (iteB ((r28 : Int) != r33)
  (K false w43)
  (c_preludelaw01_intact r23 s5 w43 fun r44 w45 => iteB (!r44)
  (K false w45)
  (newP #[.slice none 0 0, .slice none 0 0] 43 w45 fun a46 w47 => c_preludelaw01_book_put (some a46) r10 w47 fun w48 => c_preludelaw01_book_put (some a46) r12 w48 fun w49 => c_preludelaw01_book_put (some a46) r26 w49 fun w50 => c_preludelaw01_book_put (some a46) r36 w50 fun w51 => c_preludelaw01_book_ends (some a46) w51 fun r52 w53 => iteB r52
  (c_preludelaw01_intact r8 s4 w53 fun r54 w55 => iteB r54
  (c_preludelaw01_intact r23 s5 w55 fun r56 w57 => K r56 w57)
  (K false w55))
  (K false w53))))))))))

def c_preludelaw01_CodecSeals (x_0_0 : Int) (x_0_1 : Slc) (x_0_2 : Slc) (x_0_3 : Int) (w : World) (K : Bool → World → Prop) : Prop := Calls Tryd.prog 5 #[.agg #[.int .u8 x_0_0, .slice x_0_1.a x_0_1.l x_0_1.c, .slice x_0_2.a x_0_2.l x_0_2.c, .int .i64 x_0_3]] w (onRet (fun v w' => ∃ (y0 : Bool), v = .bool y0 ∧ K y0 w'))

theorem sim_preludelaw01_CodecSeals {x_0_0 : Int} {x_0_1 : Slc} {x_0_2 : Slc} {x_0_3 : Int} {w : World} {K : Bool → World → Prop} (h : sh_preludelaw01_CodecSeals c_preludelaw01_roomy c_codec_Seal c_preluderef01_Seal c_preludelaw01_same c_preludelaw01_intact c_codec_Unseal c_preluderef01_Unseal c_preludelaw01_book_put c_preludelaw01_book_ends x_0_0 x_0_1 x_0_2 x_0_3 w K) : c_preludelaw01_CodecSeals x_0_0 x_0_1 x_0_2 x_0_3 w K := by
  have e : sh_preludelaw01_CodecSeals c_preludelaw01_roomy c_codec_Seal c_preluderef01_Seal c_preludelaw01_same c_preludelaw01_intact c_codec_Unseal c_preluderef01_Unseal c_preludelaw01_book_put c_preludelaw01_book_ends x_0_0 x_0_1 x_0_2 x_0_3 w K = shF Tryd.prog 5 ⟨[(1, [0, 1, 2, 3, 4, 5, 6, 7, 8, 9, 10, 11])], [], []⟩ [.agg #[.int .u8 x_0_0, .slice x_0_1.a x_0_1.l x_0_1.c, .slice x_0_2.a x_0_2.l x_0_2.c, .int .i64 x_0_3]] w (fun v w' => decV .b v fun y0 => K y0 w') := by kernel_rfl
  exact Calls.mono (calls_of _ e h) (onRet_mono (fun _ _ h => decV_spec h))

-- 6 prelude/preludelaw01.CodecRecords; callees ['codec_Seal', 'codec_Unseal', 'preludelaw01_same']
def sh_preludelaw01_CodecRecords (c_codec_Seal : Int → Slc → World → (Slc → World → Prop) → Prop) (c_codec_Unseal : Slc → Int → World → (Int → Slc → Int → Int → World → Prop) → Prop) (c_preludelaw01_same : Slc → Slc → World → (Bool → World → Prop) → Prop) (x_0 : Slc) (x_1 : Int) (x_2 : Int) (w : World) (K : Bool → World → Prop) : Prop :=
  loopP (σ := Slc × Slc × Int × Unit) (fun st2 next1 w3 => (fun (x4 : Slc) (x5 : Slc) (x6 : Int) => iteB (decide ((x6 : Int) < (x_0.l : Int)))
  (idxP x_0.a x_0.l x6 1 fun a7 => ldS a7 w3 fun s8 => iteB (decide (((s8.l : Int) : Int) > 16777216))
  (K true w3)
  (idxP x_0.a x_0.l x6 1 fun a9 => ldS a9 w3 fun s10 => c_codec_Seal (IntKind.u8.wrap (x_1 + (IntKind.u8.wrap x6))) s10 w3 fun r11 w12 => idxP x_0.a x_0.l x6 1 fun a13 => ldS a13 w12 fun s14 => iteB (((r11.l : Int) : Int) != (IntKind.i64.wrap ((s14.l : Int) + 13)))
  (K false w12)
  (apP Tryd.prog #[22, 22] 22 [.slice x4.a x4.l x4.c, .slice r11.a r11.l r11.c] w12 fun s16 w15 => newP #[.int .i64 (s16.l : Int)] 3 w15 fun a17 w18 => apP Tryd.prog #[47, 47] 47 [.slice x5.a x5.l x5.c, .slice (some a17) 1 1] w18 fun s20 w19 => next1 (s16, s20, (IntKind.i64.wrap (x6 + 1)), ()) w19)))
  (dzP (IntKind.u64.wrap (IntKind.i64.wrap ((x4.l : Int) + 1))) (loopP (σ := Int × Int × Unit) (fun st22 next21 w23 => (fun (x24 : Int) (x25 : Int) => iteB (decide ((x25 : Int) < (x_0.l : Int)))
  (slP x4.a x4.l x4.c none (some (IntKind.i64.wrap (Int.tmod (IntKind.u64.wrap x_2) (IntKind.u64.wrap (IntKind.i64.wrap ((x4.l : Int) + 1)))))) 1 fun p26 l27 c28 => c_codec_Unseal ⟨p26, l27, c28⟩ x24 w23 fun r29 r30 r31 r32 w33 => idxP x5.a x5.l x25 1 fun a34 => ldI .i64 a34 w33 fun n35 => iteB (decide ((n35 : Int) > (IntKind.i64.wrap (Int.tmod (IntKind.u64.wrap x_2) (IntKind.u64.wrap (IntKind.i64.wrap ((x4.l : Int) + 1)))))))
  (iteB ((r32 : Int) == 10)
  (iteB ((r29 : Int) == 0)
  (iteB (((r30.l : Int) : Int) == 0)
  (K ((r31 : Int) == 0) w33)
  (K false w33))
  (K false w33))
  (K false w33))
  (iteB ((r32 : Int) != 0)
  (K false w33)
  (iteB ((r29 : Int) != (IntKind.u8.wrap (x_1 + (IntKind.u8.wrap x25))))
  (K false w33)
  (idxP x_0.a x_0.l x25 1 fun a36 => ldS a36 w33 fun s37 => c_preludelaw01_same r30 s37 w33 fun r38 w39 => iteB (!r38)
  (K false w39)
  (idxP x5.a x5.l x25 1 fun a40 => ldI .i64 a40 w39 fun n41 => iteB ((r31 : Int) != n41)
  (K false w39)
  (next21 (r31, (IntKind.i64.wrap (x25 + 1)), ()) w39))))))
  (slP x4.a x4.l x4.c none (some (IntKind.i64.wrap (Int.tmod (IntKind.u64.wrap x_2) (IntKind.u64.wrap (IntKind.i64.wrap ((x4.l : Int) + 1)))))) 1 fun p42 l43 c44 => c_codec_Unseal ⟨p42, l43, c44⟩ x24 w23 fun r45 r46 r47 r48 w49 => K ((r48 : Int) == 10) w49)) st22.1 st22.2.1) (0, 0, ()) w3))) st2.1 st2.2.1 st2.2.2.1) (⟨none, 0, 0⟩, ⟨none, 0, 0⟩, 0, ()) w

def c_preludelaw01_CodecRecords (x_0 : Slc) (x_1 : Int) (x_2 : Int) (w : World) (K : Bool → World → Prop) : Prop := Calls Tryd.prog 6 #[.slice x_0.a x_0.l x_0.c, .int .u8 x_1, .int .i64 x_2] w (onRet (fun v w' => ∃ (y0 : Bool), v = .bool y0 ∧ K y0 w'))

theorem sim_preludelaw01_CodecRecords {x_0 : Slc} {x_1 : Int} {x_2 : Int} {w : World} {K : Bool → World → Prop} (h : sh_preludelaw01_CodecRecords c_codec_Seal c_codec_Unseal c_preludelaw01_same x_0 x_1 x_2 w K) : c_preludelaw01_CodecRecords x_0 x_1 x_2 w K := by
  have e : sh_preludelaw01_CodecRecords c_codec_Seal c_codec_Unseal c_preludelaw01_same x_0 x_1 x_2 w K = shF Tryd.prog 6 ⟨[], [(4, [(7, .sl), (8, .sl), (9, (.int .i64))], [0, 1, 2]), (16, [(12, (.int .i64)), (13, (.int .i64))], [0, 1, 7, 8, 11])], []⟩ [.slice x_0.a x_0.l x_0.c, .int .u8 x_1, .int .i64 x_2] w (fun v w' => decV .b v fun y0 => K y0 w') := by kernel_rfl
  exact Calls.mono (calls_of _ e h) (onRet_mono (fun _ _ h => decV_spec h))

-- 7 prelude/preludelaw01.CodecFlips; callees ['codec_Seal', 'codec_Unseal', 'preludelaw01_same']
def sh_preludelaw01_CodecFlips (c_codec_Seal : Int → Slc → World → (Slc → World → Prop) → Prop) (c_codec_Unseal : Slc → Int → World → (Int → Slc → Int → Int → World → Prop) → Prop) (c_preludelaw01_same : Slc → Slc → World → (Bool → World → Prop) → Prop) (x_0_0 : Int) (x_0_1 : Slc) (x_0_2 : Int) (x_0_3 : Int) (w : World) (K : Bool → World → Prop) : Prop :=
  newP #[.int .u8 x_0_0, .slice x_0_1.a x_0_1.l x_0_1.c, .int .i64 x_0_2, .int .u8 x_0_3] 50 w fun a1 w2 => ldI .u8 a1 w2.drew fun n3 => ldS (a1.add 1) w2.drew fun s4 => ldI .i64 (a1.add 2) w2.drew fun n5 => ldI .u8 (a1.add 3) w2.drew fun n6 => iteB (decide (((s4.l : Int) : Int) > 16777216))
  (K true w2.drew)
  (c_codec_Seal n3 s4 w2.drew fun r7 w8 => iteB (((r7.l : Int) : Int) != (IntKind.i64.wrap ((s4.l : Int) + 13)))
  (K false w8)
  (c_codec_Unseal r7 0 w8 fun r9 r10 r11 r12 w13 => iteB ((r12 : Int) != 0)
  (K false w13)
  (iteB ((r9 : Int) != n3)
  (K false w13)
  (c_preludelaw01_same r10 s4 w13 fun r14 w15 => iteB (!r14)
  (K false w15)
  (iteB ((r11 : Int) != (r7.l : Int))
  (K false w15)
  (iteB ((n6 : Int) == 0)
  (K true w15)
  (dzP (IntKind.u64.wrap (r7.l : Int)) (idxP r7.a r7.l (IntKind.i64.wrap (Int.tmod (IntKind.u64.wrap n5) (IntKind.u64.wrap (r7.l : Int)))) 1 fun a16 => ldI .u8 a16 w15 fun n17 => idxP r7.a r7.l (IntKind.i64.wrap (Int.tmod (IntKind.u64.wrap n5) (IntKind.u64.wrap (r7.l : Int)))) 1 fun a18 => stP a18 (.int .u8 (bXor .u8 n17 n6)) w15 fun w19 => c_codec_Unseal r7 0 w19 fun r20 r21 r22 r23 w24 => K ((r23 : Int) != 0) w24))))))))

def c_preludelaw01_CodecFlips (x_0_0 : Int) (x_0_1 : Slc) (x_0_2 : Int) (x_0_3 : Int) (w : World) (K : Bool → World → Prop) : Prop := Calls Tryd.prog 7 #[.agg #[.int .u8 x_0_0, .slice x_0_1.a x_0_1.l x_0_1.c, .int .i64 x_0_2, .int .u8 x_0_3]] w (onRet (fun v w' => ∃ (y0 : Bool), v = .bool y0 ∧ K y0 w'))

theorem sim_preludelaw01_CodecFlips {x_0_0 : Int} {x_0_1 : Slc} {x_0_2 : Int} {x_0_3 : Int} {w : World} {K : Bool → World → Prop} (h : sh_preludelaw01_CodecFlips c_codec_Seal c_codec_Unseal c_preludelaw01_same x_0_0 x_0_1 x_0_2 x_0_3 w K) : c_preludelaw01_CodecFlips x_0_0 x_0_1 x_0_2 x_0_3 w K := by
  have e : sh_preludelaw01_CodecFlips c_codec_Seal c_codec_Unseal c_preludelaw01_same x_0_0 x_0_1 x_0_2 x_0_3 w K = shF Tryd.prog 7 ⟨[(1, [0, 1, 2, 3, 4, 5, 6, 7, 8, 9, 10, 11])], [], []⟩ [.agg #[.int .u8 x_0_0, .slice x_0_1.a x_0_1.l x_0_1.c, .int .i64 x_0_2, .int .u8 x_0_3]] w (fun v w' => decV .b v fun y0 => K y0 w') := by kernel_rfl
  exact Calls.mono (calls_of _ e h) (onRet_mono (fun _ _ h => decV_spec h))

end Go.Proofs.YtmadhcoeiclalaaDoor
