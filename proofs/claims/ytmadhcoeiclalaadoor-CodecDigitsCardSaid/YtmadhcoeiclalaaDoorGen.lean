import Derived.Test.YtmadhcoeiclalaaDoorProg
import Derived.Test.YtmadhcoeiclalaaDoorSh
set_option linter.unusedVariables false
namespace Go.Proofs.YtmadhcoeiclalaaDoor
open Go Go.Sh
-- 31 strconv.FormatInt; callees []
def c_strconv_FormatInt (i_0 : Int) (base_1 : Int) (w : World) (K : ByteArray → World → Prop) : Prop := Calls Tryd.prog 31 #[.int .i64 i_0, .int .i64 base_1] w (onRet (fun v w' => ∃ (y0 : ByteArray), v = .string y0 ∧ K y0 w'))

-- 21 prelude/codec.Digits; callees ['strconv_FormatInt']
def sh_codec_Digits (c_strconv_FormatInt : Int → Int → World → (ByteArray → World → Prop) → Prop) (n_0 : Int) (w : World) (K : ByteArray → World → Prop) : Prop :=
  c_strconv_FormatInt n_0 10 w fun r1 w2 => K r1 w2

def c_codec_Digits (n_0 : Int) (w : World) (K : ByteArray → World → Prop) : Prop := Calls Tryd.prog 21 #[.int .i64 n_0] w (onRet (fun v w' => ∃ (y0 : ByteArray), v = .string y0 ∧ K y0 w'))

theorem sim_codec_Digits {n_0 : Int} {w : World} {K : ByteArray → World → Prop} (h : sh_codec_Digits c_strconv_FormatInt n_0 w K) : c_codec_Digits n_0 w K := by
  have e : sh_codec_Digits c_strconv_FormatInt n_0 w K = shF Tryd.prog 21 ⟨[], [], []⟩ [.int .i64 n_0] w (fun v w' => decV .str v fun y0 => K y0 w') := by kernel_rfl
  exact Calls.mono (calls_of _ e h) (onRet_mono (fun _ _ h => decV_spec h))

-- 32 strconv.ParseInt; callees []
def c_strconv_ParseInt (s_0 : ByteArray) (base_1 : Int) (bitSize_2 : Int) (w : World) (K : Int → Value → World → Prop) : Prop := Calls Tryd.prog 32 #[.string s_0, .int .i64 base_1, .int .i64 bitSize_2] w (onRet (fun v w' => ∃ (y0 : Int), ∃ (y1 : Value), v = .tuple #[.int .i64 y0, y1] ∧ K y0 y1 w'))

-- 22 prelude/codec.Number; callees ['strconv_ParseInt', 'codec_Digits']
def sh_codec_Number (c_strconv_ParseInt : ByteArray → Int → Int → World → (Int → Value → World → Prop) → Prop) (c_codec_Digits : Int → World → (ByteArray → World → Prop) → Prop) (s_0 : ByteArray) (w : World) (K : Int → Bool → World → Prop) : Prop :=
  c_strconv_ParseInt s_0 10 64 w fun r1 r2 w3 => nilI r2 fun b4 => iteB (!b4)
  (K 0 false w3)
  (c_codec_Digits r1 w3 fun r5 w6 => iteB (!((r5).toList == (s_0).toList))
  (K 0 false w6)
  (K r1 true w6))

def c_codec_Number (s_0 : ByteArray) (w : World) (K : Int → Bool → World → Prop) : Prop := Calls Tryd.prog 22 #[.string s_0] w (onRet (fun v w' => ∃ (y0 : Int), ∃ (y1 : Bool), v = .tuple #[.int .i64 y0, .bool y1] ∧ K y0 y1 w'))

theorem sim_codec_Number {s_0 : ByteArray} {w : World} {K : Int → Bool → World → Prop} (h : sh_codec_Number c_strconv_ParseInt c_codec_Digits s_0 w K) : c_codec_Number s_0 w K := by
  have e : sh_codec_Number c_strconv_ParseInt c_codec_Digits s_0 w K = shF Tryd.prog 22 ⟨[], [], []⟩ [.string s_0] w (fun v w' => decT [(false, [(.int .i64)]), (false, [.b])] v fun s => (fun (y0 : Int) (y1 : Bool) => K y0 y1 w') s.1 s.2.1) := by kernel_rfl
  exact Calls.mono (calls_of _ e h) (onRet_mono (fun _ _ h => by obtain ⟨s, h1, h2⟩ := decT_spec h; exact ⟨s.1, s.2.1, h1, h2⟩))

-- 24 prelude/preluderef01.Digits; callees []
def sh_preluderef01_Digits (n_0 : Int) (w : World) (K : ByteArray → World → Prop) : Prop :=
  iteB ((n_0 : Int) == 0)
  (K (ByteArray.mk #[48]) w)
  (iteB (decide ((n_0 : Int) < 0))
  (loopP (σ := Int × ByteArray × Unit) (fun st2 next1 w3 => (fun (rest_4 : Int) (s_5 : ByteArray) => iteB (decide ((rest_4 : Int) > 0))
  (dzP 10 (newP #[.int .u8 (IntKind.u8.wrap (IntKind.u64.wrap (48 + (Int.tmod rest_4 10))))] 5 w3 fun a6 w7 => (∃ (r8 : ByteArray), ∃ w9, (convert 22 9 (.slice (some a6) 1 1)).run Tryd.prog w7 = .ok (.string r8) w9 ∧ (catP r8 s_5 (dzP 10 (next1 ((IntKind.u64.wrap (Int.tdiv rest_4 10)), (r8 ++ s_5), ()) w9))))))
  (catP (ByteArray.mk #[45]) s_5 (K (ByteArray.mk #[45] ++ s_5) w3))) st2.1 st2.2.1) ((IntKind.u64.wrap ((IntKind.u64.wrap (IntKind.i64.wrap (0 - (IntKind.i64.wrap (n_0 + 1))))) + 1)), (ByteArray.mk #[]), ()) w)
  (loopP (σ := Int × ByteArray × Unit) (fun st11 next10 w12 => (fun (rest_13 : Int) (s_14 : ByteArray) => iteB (decide ((rest_13 : Int) > 0))
  (dzP 10 (newP #[.int .u8 (IntKind.u8.wrap (IntKind.u64.wrap (48 + (Int.tmod rest_13 10))))] 5 w12 fun a15 w16 => (∃ (r17 : ByteArray), ∃ w18, (convert 22 9 (.slice (some a15) 1 1)).run Tryd.prog w16 = .ok (.string r17) w18 ∧ (catP r17 s_14 (dzP 10 (next10 ((IntKind.u64.wrap (Int.tdiv rest_13 10)), (r17 ++ s_14), ()) w18))))))
  (catP (ByteArray.mk #[]) s_14 (K (ByteArray.mk #[] ++ s_14) w12))) st11.1 st11.2.1) ((IntKind.u64.wrap n_0), (ByteArray.mk #[]), ()) w))

def c_preluderef01_Digits (n_0 : Int) (w : World) (K : ByteArray → World → Prop) : Prop := Calls Tryd.prog 24 #[.int .i64 n_0] w (onRet (fun v w' => ∃ (y0 : ByteArray), v = .string y0 ∧ K y0 w'))

theorem sim_preluderef01_Digits {n_0 : Int} {w : World} {K : ByteArray → World → Prop} (h : sh_preluderef01_Digits n_0 w K) : c_preluderef01_Digits n_0 w K := by
  have e : sh_preluderef01_Digits n_0 w K = shF Tryd.prog 24 ⟨[], [(9, [(4, (.int .u64)), (5, .str)], [3])], []⟩ [.int .i64 n_0] w (fun v w' => decV .str v fun y0 => K y0 w') := by kernel_rfl
  exact Calls.mono (calls_of _ e h) (onRet_mono (fun _ _ h => decV_spec h))

-- 23 prelude/preluderef01.Number; callees ['preluderef01_Digits']
def sh_preluderef01_Number (c_preluderef01_Digits : Int → World → (ByteArray → World → Prop) → Prop) (s_0 : ByteArray) (w : World) (K : Int → Bool → World → Prop) : Prop :=
  loopP (σ := Int × Int × Unit) (fun st2 next1 w3 => (fun (n_4 : Int) (i_5 : Int) => iteB (decide ((i_5 : Int) < (s_0.size : Int)))
  (iteB (decide ((i_5 : Int) < 20))
  (chP s_0 i_5 fun b6 => iteB (decide ((b6 : Int) ≥ 48))
  (chP s_0 i_5 fun b7 => iteB (decide ((b7 : Int) ≤ 57))
  (chP s_0 i_5 fun b8 => next1 ((IntKind.u64.wrap ((IntKind.u64.wrap (10 * n_4)) + (IntKind.u64.wrap (IntKind.u8.wrap (b8 - 48))))), (IntKind.i64.wrap (i_5 + 1)), ()) w3)
  (next1 (n_4, (IntKind.i64.wrap (i_5 + 1)), ()) w3))
  (next1 (n_4, (IntKind.i64.wrap (i_5 + 1)), ()) w3))
  (iteB (decide (((s_0.size : Int) : Int) > 0))
  (chP s_0 0 fun b9 => iteB ((b9 : Int) == 45)
  (c_preluderef01_Digits (IntKind.i64.wrap (IntKind.u64.wrap (0 - n_4))) w3 fun r10 w11 => iteB (!((r10).toList == (s_0).toList))
  (K 0 false w11)
  (K (IntKind.i64.wrap (IntKind.u64.wrap (0 - n_4))) true w11))
  (c_preluderef01_Digits (IntKind.i64.wrap n_4) w3 fun r12 w13 => iteB (!((r12).toList == (s_0).toList))
  (K 0 false w13)
  (K (IntKind.i64.wrap n_4) true w13)))
  (c_preluderef01_Digits (IntKind.i64.wrap n_4) w3 fun r14 w15 => iteB (!((r14).toList == (s_0).toList))
  (K 0 false w15)
  (K (IntKind.i64.wrap n_4) true w15))))
  (iteB (decide (((s_0.size : Int) : Int) > 0))
  (chP s_0 0 fun b16 => iteB ((b16 : Int) == 45)
  (c_preluderef01_Digits (IntKind.i64.wrap (IntKind.u64.wrap (0 - n_4))) w3 fun r17 w18 => iteB (!((r17).toList == (s_0).toList))
  (K 0 false w18)
  (K (IntKind.i64.wrap (IntKind.u64.wrap (0 - n_4))) true w18))
  (c_preluderef01_Digits (IntKind.i64.wrap n_4) w3 fun r19 w20 => iteB (!((r19).toList == (s_0).toList))
  (K 0 false w20)
  (K (IntKind.i64.wrap n_4) true w20)))
  (c_preluderef01_Digits (IntKind.i64.wrap n_4) w3 fun r21 w22 => iteB (!((r21).toList == (s_0).toList))
  (K 0 false w22)
  (K (IntKind.i64.wrap n_4) true w22)))) st2.1 st2.2.1) (0, 0, ()) w

def c_preluderef01_Number (s_0 : ByteArray) (w : World) (K : Int → Bool → World → Prop) : Prop := Calls Tryd.prog 23 #[.string s_0] w (onRet (fun v w' => ∃ (y0 : Int), ∃ (y1 : Bool), v = .tuple #[.int .i64 y0, .bool y1] ∧ K y0 y1 w'))

theorem sim_preluderef01_Number {s_0 : ByteArray} {w : World} {K : Int → Bool → World → Prop} (h : sh_preluderef01_Number c_preluderef01_Digits s_0 w K) : c_preluderef01_Number s_0 w K := by
  have e : sh_preluderef01_Number c_preluderef01_Digits s_0 w K = shF Tryd.prog 23 ⟨[], [(3, [(4, (.int .u64)), (5, (.int .i64))], [0])], []⟩ [.string s_0] w (fun v w' => decT [(false, [(.int .i64)]), (false, [.b])] v fun s => (fun (y0 : Int) (y1 : Bool) => K y0 y1 w') s.1 s.2.1) := by kernel_rfl
  exact Calls.mono (calls_of _ e h) (onRet_mono (fun _ _ h => by obtain ⟨s, h1, h2⟩ := decT_spec h; exact ⟨s.1, s.2.1, h1, h2⟩))

-- 8 prelude/preludelaw01.CodecDigits; callees ['codec_Digits', 'codec_Number', 'preluderef01_Number', 'preluderef01_Digits']
def sh_preludelaw01_CodecDigits (c_codec_Digits : Int → World → (ByteArray → World → Prop) → Prop) (c_codec_Number : ByteArray → World → (Int → Bool → World → Prop) → Prop) (c_preluderef01_Number : ByteArray → World → (Int → Bool → World → Prop) → Prop) (c_preluderef01_Digits : Int → World → (ByteArray → World → Prop) → Prop) (n_0 : Int) (s_1 : ByteArray) (w : World) (K : Bool → World → Prop) : Prop :=
  c_codec_Digits n_0 w fun r1 w2 => c_codec_Number r1 w2 fun r3 r4 w5 => c_codec_Number s_1 w5 fun r6 r7 w8 => c_preluderef01_Number s_1 w8 fun r9 r10 w11 => c_preluderef01_Digits n_0 w11 fun r12 w13 => iteB ((r1).toList == (r12).toList)
  (iteB ((r3 : Int) == n_0)
  (iteB r4
  (iteB ((r6 : Int) == r9)
  (K (r7 == r10) w13)
  (K false w13))
  (K false w13))
  (K false w13))
  (K false w13)

def c_preludelaw01_CodecDigits (n_0 : Int) (s_1 : ByteArray) (w : World) (K : Bool → World → Prop) : Prop := Calls Tryd.prog 8 #[.int .i64 n_0, .string s_1] w (onRet (fun v w' => ∃ (y0 : Bool), v = .bool y0 ∧ K y0 w'))

theorem sim_preludelaw01_CodecDigits {n_0 : Int} {s_1 : ByteArray} {w : World} {K : Bool → World → Prop} (h : sh_preludelaw01_CodecDigits c_codec_Digits c_codec_Number c_preluderef01_Number c_preluderef01_Digits n_0 s_1 w K) : c_preludelaw01_CodecDigits n_0 s_1 w K := by
  have e : sh_preludelaw01_CodecDigits c_codec_Digits c_codec_Number c_preluderef01_Number c_preluderef01_Digits n_0 s_1 w K = shF Tryd.prog 8 ⟨[], [], []⟩ [.int .i64 n_0, .string s_1] w (fun v w' => decV .b v fun y0 => K y0 w') := by kernel_rfl
  exact Calls.mono (calls_of _ e h) (onRet_mono (fun _ _ h => decV_spec h))

end Go.Proofs.YtmadhcoeiclalaaDoor
