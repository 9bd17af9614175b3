import Derived.Test.YtlnhecbgjjglfaaDoorProg
import Derived.Test.YtlnhecbgjjglfaaDoorSh
set_option linter.unusedVariables false
namespace Go.Proofs.YtlnhecbgjjglfaaDoor
open Go Go.Sh
-- 4 prelude/preluderef04.Parts; callees []
def sh_preluderef04_Parts (lib_0 : Slc) (left_1 : Int) (w : World) (K : Int → World → Prop) : Prop :=
  loopP (σ := Int × Int × Unit) (fun st2 next1 w3 => (fun (left_4 : Int) (i_5 : Int) => iteB (decide ((i_5 : Int) < (lib_0.l : Int)))
  (iteB (decide ((left_4 : Int) ≥ 0))
  (idxP lib_0.a lib_0.l i_5 6 fun a6 => ldStr a6 w3.drew fun s7 => idxP lib_0.a lib_0.l i_5 6 fun a8 => ldS ((a8.add 1).add 4) w3.drew fun s9 => next1 ((IntKind.i64.wrap ((IntKind.i64.wrap ((IntKind.i64.wrap (left_4 - 1)) - (s7.size : Int))) - (s9.l : Int))), (IntKind.i64.wrap (i_5 + 1)), ()) w3.drew)
  (K left_4 w3))
  (K left_4 w3)) st2.1 st2.2.1) (left_1, 0, ()) w

def c_preluderef04_Parts (lib_0 : Slc) (left_1 : Int) (w : World) (K : Int → World → Prop) : Prop := Calls Tryd.prog 4 #[.slice lib_0.a lib_0.l lib_0.c, .int .i64 left_1] w (onRet (fun v w' => ∃ (y0 : Int), v = .int .i64 y0 ∧ K y0 w'))

theorem sim_preluderef04_Parts {lib_0 : Slc} {left_1 : Int} {w : World} {K : Int → World → Prop} (h : sh_preluderef04_Parts lib_0 left_1 w K) : c_preluderef04_Parts lib_0 left_1 w K := by
  have e : sh_preluderef04_Parts lib_0 left_1 w K = shF Tryd.prog 4 ⟨[(4, .of [0, 1, 2, 3, 4, 5, 6, 7, 8, 9, 10, 11, 12, 13, 14, 15, 16, 17])], [(2, [(1, (.int .i64)), (5, (.int .i64))], [0])], []⟩ [.slice lib_0.a lib_0.l lib_0.c, .int .i64 left_1] w (fun v w' => decV (.int .i64) v fun y0 => K y0 w') := by kernel_rfl
  exact Calls.mono (calls_of _ e h) (onRet_mono (fun _ _ h => decV_spec h))

-- 36 slices.Clone[[]byte,byte]; callees []
def sh_slices_Clone_byte_byte (s_0 : Slc) (w : World) (K : Slc → World → Prop) : Prop :=
  iteB ((s_0.a).isNone)
  (K ⟨none, 0, 0⟩ w)
  (newP #[] 5 w fun a1 w2 => apP Tryd.prog #[23, 23] 23 [.slice (some a1) 0 0, .slice s_0.a s_0.l s_0.c] w2 fun s4 w3 => K s4 w3)

def c_slices_Clone_byte_byte (s_0 : Slc) (w : World) (K : Slc → World → Prop) : Prop := Calls Tryd.prog 36 #[.slice s_0.a s_0.l s_0.c] w (onRet (fun v w' => ∃ (y0 : Slc), v = .slice y0.a y0.l y0.c ∧ K y0 w'))

theorem sim_slices_Clone_byte_byte {s_0 : Slc} {w : World} {K : Slc → World → Prop} (h : sh_slices_Clone_byte_byte s_0 w K) : c_slices_Clone_byte_byte s_0 w K := by
  have e : sh_slices_Clone_byte_byte s_0 w K = shF Tryd.prog 36 ⟨[], [], []⟩ [.slice s_0.a s_0.l s_0.c] w (fun v w' => decV .sl v fun y0 => K y0 w') := by kernel_rfl
  exact Calls.mono (calls_of _ e h) (onRet_mono (fun _ _ h => decV_spec h))

-- 20 prelude/codec.Read; callees ['slices_Clone_byte_byte']
def sh_codec_Read (c_slices_Clone_byte_byte : Slc → World → (Slc → World → Prop) → Prop) (b_0 : Slc) (w : World) (K : Option Addr → World → Prop) : Prop :=
  c_slices_Clone_byte_byte b_0 w fun r1 w2 => newP #[.slice r1.a r1.l r1.c, .int .i64 0, .int .i64 0] 103 w2 fun a3 w4 => K (some a3) w4

def c_codec_Read (b_0 : Slc) (w : World) (K : Option Addr → World → Prop) : Prop := Calls Tryd.prog 20 #[.slice b_0.a b_0.l b_0.c] w (onRet (fun v w' => ∃ (y0 : Option Addr), v = .pointer y0 ∧ K y0 w'))

theorem sim_codec_Read {b_0 : Slc} {w : World} {K : Option Addr → World → Prop} (h : sh_codec_Read c_slices_Clone_byte_byte b_0 w K) : c_codec_Read b_0 w K := by
  have e : sh_codec_Read c_slices_Clone_byte_byte b_0 w K = shF Tryd.prog 20 ⟨[], [], []⟩ [.slice b_0.a b_0.l b_0.c] w (fun v w' => decV .ptr v fun y0 => K y0 w') := by kernel_rfl
  exact Calls.mono (calls_of _ e h) (onRet_mono (fun _ _ h => decV_spec h))

-- 24 (*prelude/codec.Reader).At; callees []
def sh_codec_Reader_At (r_0 : Option Addr) (w : World) (K : Int → World → Prop) : Prop :=
  nnP r_0 fun a1 => ldI .i64 (a1.add 1) w fun n2 => K n2 w

def c_codec_Reader_At (r_0 : Option Addr) (w : World) (K : Int → World → Prop) : Prop := Calls Tryd.prog 24 #[.pointer r_0] w (onRet (fun v w' => ∃ (y0 : Int), v = .int .i64 y0 ∧ K y0 w'))

theorem sim_codec_Reader_At {r_0 : Option Addr} {w : World} {K : Int → World → Prop} (h : sh_codec_Reader_At r_0 w K) : c_codec_Reader_At r_0 w K := by
  have e : sh_codec_Reader_At r_0 w K = shF Tryd.prog 24 ⟨[], [], []⟩ [.pointer r_0] w (fun v w' => decV (.int .i64) v fun y0 => K y0 w') := by kernel_rfl
  exact Calls.mono (calls_of _ e h) (onRet_mono (fun _ _ h => decV_spec h))

-- 51 (*prelude/codec.Reader).uint; callees []
def sh_codec_Reader_uint (r_0 : Option Addr) (at_1 : Int) (w : World) (K : Int → Int → Int → World → Prop) : Prop :=
  loopP (σ := Int × Int × Unit) (fun st2 next1 w3 => (fun (n_4 : Int) (i_5 : Int) => nnP r_0 fun a6 => ldS a6 w3 fun s7 => iteB (decide (((IntKind.i64.wrap (at_1 + i_5)) : Int) ≥ (s7.l : Int)))
  (K 0 at_1 10 w3)
  (nnP r_0 fun a8 => ldS a8 w3 fun s9 => idxP s9.a s9.l (IntKind.i64.wrap (at_1 + i_5)) 1 fun a10 => ldI .u8 a10 w3 fun n11 => iteB ((i_5 : Int) == 9)
  (iteB (decide ((n11 : Int) > 1))
  (K 0 at_1 11 w3)
  (iteB (decide ((i_5 : Int) > 0))
  (iteB ((n11 : Int) == 0)
  (K 0 at_1 11 w3)
  (shP (IntKind.i64.wrap (7 * i_5)) (iteB (decide ((n11 : Int) < 128))
  (K (bOr .u64 n_4 (IntKind.u64.wrap ((IntKind.u64.wrap (bAnd .u8 n11 127)) * 2 ^ (min (Int.toNat (IntKind.i64.wrap (7 * i_5))) (IntKind.bits .u64))))) (IntKind.i64.wrap ((IntKind.i64.wrap (at_1 + i_5)) + 1)) 0 w3)
  (next1 ((bOr .u64 n_4 (IntKind.u64.wrap ((IntKind.u64.wrap (bAnd .u8 n11 127)) * 2 ^ (min (Int.toNat (IntKind.i64.wrap (7 * i_5))) (IntKind.bits .u64))))), (IntKind.i64.wrap (i_5 + 1)), ()) w3))))
  (shP (IntKind.i64.wrap (7 * i_5)) (iteB (decide ((n11 : Int) < 128))
  (K (bOr .u64 n_4 (IntKind.u64.wrap ((IntKind.u64.wrap (bAnd .u8 n11 127)) * 2 ^ (min (Int.toNat (IntKind.i64.wrap (7 * i_5))) (IntKind.bits .u64))))) (IntKind.i64.wrap ((IntKind.i64.wrap (at_1 + i_5)) + 1)) 0 w3)
  (next1 ((bOr .u64 n_4 (IntKind.u64.wrap ((IntKind.u64.wrap (bAnd .u8 n11 127)) * 2 ^ (min (Int.toNat (IntKind.i64.wrap (7 * i_5))) (IntKind.bits .u64))))), (IntKind.i64.wrap (i_5 + 1)), ()) w3)))))
  (iteB (decide ((i_5 : Int) > 0))
  (iteB ((n11 : Int) == 0)
  (K 0 at_1 11 w3)
  (shP (IntKind.i64.wrap (7 * i_5)) (iteB (decide ((n11 : Int) < 128))
  (K (bOr .u64 n_4 (IntKind.u64.wrap ((IntKind.u64.wrap (bAnd .u8 n11 127)) * 2 ^ (min (Int.toNat (IntKind.i64.wrap (7 * i_5))) (IntKind.bits .u64))))) (IntKind.i64.wrap ((IntKind.i64.wrap (at_1 + i_5)) + 1)) 0 w3)
  (next1 ((bOr .u64 n_4 (IntKind.u64.wrap ((IntKind.u64.wrap (bAnd .u8 n11 127)) * 2 ^ (min (Int.toNat (IntKind.i64.wrap (7 * i_5))) (IntKind.bits .u64))))), (IntKind.i64.wrap (i_5 + 1)), ()) w3))))
  (shP (IntKind.i64.wrap (7 * i_5)) (iteB (decide ((n11 : Int) < 128))
  (K (bOr .u64 n_4 (IntKind.u64.wrap ((IntKind.u64.wrap (bAnd .u8 n11 127)) * 2 ^ (min (Int.toNat (IntKind.i64.wrap (7 * i_5))) (IntKind.bits .u64))))) (IntKind.i64.wrap ((IntKind.i64.wrap (at_1 + i_5)) + 1)) 0 w3)
  (next1 ((bOr .u64 n_4 (IntKind.u64.wrap ((IntKind.u64.wrap (bAnd .u8 n11 127)) * 2 ^ (min (Int.toNat (IntKind.i64.wrap (7 * i_5))) (IntKind.bits .u64))))), (IntKind.i64.wrap (i_5 + 1)), ()) w3)))))) st2.1 st2.2.1) (0, 0, ()) w

def c_codec_Reader_uint (r_0 : Option Addr) (at_1 : Int) (w : World) (K : Int → Int → Int → World → Prop) : Prop := Calls Tryd.prog 51 #[.pointer r_0, .int .i64 at_1] w (onRet (fun v w' => ∃ (y0 : Int), ∃ (y1 : Int), ∃ (y2 : Int), v = .tuple #[.int .u64 y0, .int .i64 y1, .int .i64 y2] ∧ K y0 y1 y2 w'))

theorem sim_codec_Reader_uint {r_0 : Option Addr} {at_1 : Int} {w : World} {K : Int → Int → Int → World → Prop} (h : sh_codec_Reader_uint r_0 at_1 w K) : c_codec_Reader_uint r_0 at_1 w K := by
  have e : sh_codec_Reader_uint r_0 at_1 w K = shF Tryd.prog 51 ⟨[], [(4, [(7, (.int .u64)), (8, (.int .i64))], [0, 1])], []⟩ [.pointer r_0, .int .i64 at_1] w (fun v w' => decT [(false, [(.int .u64)]), (false, [(.int .i64)]), (false, [(.int .i64)])] v fun s => (fun (y0 : Int) (y1 : Int) (y2 : Int) => K y0 y1 y2 w') s.1 s.2.1 s.2.2.1) := by kernel_rfl
  exact Calls.mono (calls_of _ e h) (onRet_mono (fun _ _ h => by obtain ⟨s, h1, h2⟩ := decT_spec h; exact ⟨s.1, s.2.1, s.2.2.1, h1, h2⟩))

-- 37 (*prelude/codec.Reader).Upto; callees ['codec_Reader_uint']
def sh_codec_Reader_Upto (c_codec_Reader_uint : Option Addr → Int → World → (Int → Int → Int → World → Prop) → Prop) (r_0 : Option Addr) (most_1 : Int) (w : World) (K : Int → World → Prop) : Prop :=
  nnP r_0 fun a1 => ldI .i64 (a1.add 2) w fun n2 => iteB ((n2 : Int) != 0)
  (K 0 w)
  (nnP r_0 fun a3 => ldI .i64 (a3.add 1) w fun n4 => c_codec_Reader_uint r_0 n4 w fun r5 r6 r7 w8 => iteB ((r7 : Int) == 0)
  (iteB (decide ((r5 : Int) > most_1))
  (iteB ((12 : Int) != 0)
  (nnP r_0 fun a9 => stP (a9.add 2) (.int .i64 12) w8 fun w10 => K 0 w10)
  (nnP r_0 fun a11 => stP (a11.add 1) (.int .i64 r6) w8 fun w12 => K r5 w12))
  (iteB ((r7 : Int) != 0)
  (nnP r_0 fun a13 => stP (a13.add 2) (.int .i64 r7) w8 fun w14 => K 0 w14)
  (nnP r_0 fun a15 => stP (a15.add 1) (.int .i64 r6) w8 fun w16 => K r5 w16)))
  (iteB ((r7 : Int) != 0)
  (nnP r_0 fun a17 => stP (a17.add 2) (.int .i64 r7) w8 fun w18 => K 0 w18)
  (nnP r_0 fun a19 => stP (a19.add 1) (.int .i64 r6) w8 fun w20 => K r5 w20)))

def c_codec_Reader_Upto (r_0 : Option Addr) (most_1 : Int) (w : World) (K : Int → World → Prop) : Prop := Calls Tryd.prog 37 #[.pointer r_0, .int .u64 most_1] w (onRet (fun v w' => ∃ (y0 : Int), v = .int .u64 y0 ∧ K y0 w'))

theorem sim_codec_Reader_Upto {r_0 : Option Addr} {most_1 : Int} {w : World} {K : Int → World → Prop} (h : sh_codec_Reader_Upto c_codec_Reader_uint r_0 most_1 w K) : c_codec_Reader_Upto r_0 most_1 w K := by
  have e : sh_codec_Reader_Upto c_codec_Reader_uint r_0 most_1 w K = shF Tryd.prog 37 ⟨[], [], []⟩ [.pointer r_0, .int .u64 most_1] w (fun v w' => decV (.int .u64) v fun y0 => K y0 w') := by kernel_rfl
  exact Calls.mono (calls_of _ e h) (onRet_mono (fun _ _ h => decV_spec h))

-- 52 (*prelude/codec.Reader).Err; callees []
def sh_codec_Reader_Err (r_0 : Option Addr) (w : World) (K : Int → World → Prop) : Prop :=
  nnP r_0 fun a1 => ldI .i64 (a1.add 2) w fun n2 => K n2 w

def c_codec_Reader_Err (r_0 : Option Addr) (w : World) (K : Int → World → Prop) : Prop := Calls Tryd.prog 52 #[.pointer r_0] w (onRet (fun v w' => ∃ (y0 : Int), v = .int .i64 y0 ∧ K y0 w'))

theorem sim_codec_Reader_Err {r_0 : Option Addr} {w : World} {K : Int → World → Prop} (h : sh_codec_Reader_Err r_0 w K) : c_codec_Reader_Err r_0 w K := by
  have e : sh_codec_Reader_Err r_0 w K = shF Tryd.prog 52 ⟨[], [], []⟩ [.pointer r_0] w (fun v w' => decV (.int .i64) v fun y0 => K y0 w') := by kernel_rfl
  exact Calls.mono (calls_of _ e h) (onRet_mono (fun _ _ h => decV_spec h))

-- 38 (prelude/batch.reader).held; callees ['codec_Reader_Err']
def sh_batch_reader_held (c_codec_Reader_Err : Option Addr → World → (Int → World → Prop) → Prop) (r_0_0 : Option Addr) (at_1 : Int) (w : World) (K : World → Prop) (KP : List PanicEntry → World → Prop) : Prop :=
  newP #[.pointer r_0_0] 76 w fun a1 w2 => ldP a1 w2 fun p3 => c_codec_Reader_Err p3 w2 fun r4 w5 => iteB ((r4 : Int) != 0)
  (panP (.iface 71 (.agg #[.int .i64 at_1, .int .i64 r4])) KP w5)
  (K w5)

def c_batch_reader_held (r_0_0 : Option Addr) (at_1 : Int) (w : World) (K : World → Prop) (KP : List PanicEntry → World → Prop) : Prop := Calls Tryd.prog 38 #[.agg #[.pointer r_0_0], .int .i64 at_1] w (onRetX (fun v w' => v = .tuple #[] ∧ K w') KP)

theorem sim_batch_reader_held {r_0_0 : Option Addr} {at_1 : Int} {w : World} {K : World → Prop} {KP : List PanicEntry → World → Prop} (h : sh_batch_reader_held c_codec_Reader_Err r_0_0 at_1 w K KP) : c_batch_reader_held r_0_0 at_1 w K KP := by
  have e : sh_batch_reader_held c_codec_Reader_Err r_0_0 at_1 w K KP = shFX Tryd.prog 38 ⟨[], [], []⟩ [.agg #[.pointer r_0_0], .int .i64 at_1] w (fun v w' => decU v (K w')) ⟨[], KP⟩ := by kernel_rfl
  exact Calls.mono (callsX_of _ e h) (onRetX_mono (fun _ _ h => decU_spec h))

-- 21 (prelude/batch.reader).upto; callees ['codec_Reader_At', 'codec_Reader_Upto', 'batch_reader_held']
def sh_batch_reader_upto (c_codec_Reader_At : Option Addr → World → (Int → World → Prop) → Prop) (c_codec_Reader_Upto : Option Addr → Int → World → (Int → World → Prop) → Prop) (c_batch_reader_held : Option Addr → Int → World → (World → Prop) → (List PanicEntry → World → Prop) → Prop) (r_0_0 : Option Addr) (most_1 : Int) (w : World) (K : Int → World → Prop) (KP : List PanicEntry → World → Prop) : Prop :=
  newP #[.pointer r_0_0] 76 w fun a1 w2 => ldP a1 w2 fun p3 => c_codec_Reader_At p3 w2 fun r4 w5 => ldP a1 w5 fun p6 => c_codec_Reader_Upto p6 (IntKind.u64.wrap most_1) w5 fun r7 w8 => ldP a1 w8 fun p9 => c_batch_reader_held p9 r4 w8 (fun w10 => K (IntKind.i64.wrap r7) w10) KP

def c_batch_reader_upto (r_0_0 : Option Addr) (most_1 : Int) (w : World) (K : Int → World → Prop) (KP : List PanicEntry → World → Prop) : Prop := Calls Tryd.prog 21 #[.agg #[.pointer r_0_0], .int .i64 most_1] w (onRetX (fun v w' => ∃ (y0 : Int), v = .int .i64 y0 ∧ K y0 w') KP)

theorem sim_batch_reader_upto {r_0_0 : Option Addr} {most_1 : Int} {w : World} {K : Int → World → Prop} {KP : List PanicEntry → World → Prop} (h : sh_batch_reader_upto c_codec_Reader_At c_codec_Reader_Upto c_batch_reader_held r_0_0 most_1 w K KP) : c_batch_reader_upto r_0_0 most_1 w K KP := by
  have e : sh_batch_reader_upto c_codec_Reader_At c_codec_Reader_Upto c_batch_reader_held r_0_0 most_1 w K KP = shFX Tryd.prog 21 ⟨[], [], []⟩ [.agg #[.pointer r_0_0], .int .i64 most_1] w (fun v w' => decV (.int .i64) v fun y0 => K y0 w') ⟨[38], KP⟩ := by kernel_rfl
  exact Calls.mono (callsX_of _ e h) (onRetX_mono (fun _ _ h => decV_spec h))

-- 53 (*prelude/codec.Reader).Uint; callees ['codec_Reader_Upto']
def sh_codec_Reader_Uint (c_codec_Reader_Upto : Option Addr → Int → World → (Int → World → Prop) → Prop) (r_0 : Option Addr) (w : World) (K : Int → World → Prop) : Prop :=
  c_codec_Reader_Upto r_0 18446744073709551615 w fun r1 w2 => K r1 w2

def c_codec_Reader_Uint (r_0 : Option Addr) (w : World) (K : Int → World → Prop) : Prop := Calls Tryd.prog 53 #[.pointer r_0] w (onRet (fun v w' => ∃ (y0 : Int), v = .int .u64 y0 ∧ K y0 w'))

theorem sim_codec_Reader_Uint {r_0 : Option Addr} {w : World} {K : Int → World → Prop} (h : sh_codec_Reader_Uint c_codec_Reader_Upto r_0 w K) : c_codec_Reader_Uint r_0 w K := by
  have e : sh_codec_Reader_Uint c_codec_Reader_Upto r_0 w K = shF Tryd.prog 53 ⟨[], [], []⟩ [.pointer r_0] w (fun v w' => decV (.int .u64) v fun y0 => K y0 w') := by kernel_rfl
  exact Calls.mono (calls_of _ e h) (onRet_mono (fun _ _ h => decV_spec h))

-- 39 (*prelude/codec.Reader).Int; callees ['codec_Reader_Uint']
def sh_codec_Reader_Int (c_codec_Reader_Uint : Option Addr → World → (Int → World → Prop) → Prop) (r_0 : Option Addr) (w : World) (K : Int → World → Prop) : Prop :=
  c_codec_Reader_Uint r_0 w fun r1 w2 => shP 1 (K (bXor .i64 (IntKind.i64.wrap (Int.fdiv r1 (2 ^ (min (Int.toNat 1) (IntKind.bits .u64))))) (IntKind.i64.wrap (0 - (IntKind.i64.wrap (bAnd .u64 r1 1))))) w2)

def c_codec_Reader_Int (r_0 : Option Addr) (w : World) (K : Int → World → Prop) : Prop := Calls Tryd.prog 39 #[.pointer r_0] w (onRet (fun v w' => ∃ (y0 : Int), v = .int .i64 y0 ∧ K y0 w'))

theorem sim_codec_Reader_Int {r_0 : Option Addr} {w : World} {K : Int → World → Prop} (h : sh_codec_Reader_Int c_codec_Reader_Uint r_0 w K) : c_codec_Reader_Int r_0 w K := by
  have e : sh_codec_Reader_Int c_codec_Reader_Uint r_0 w K = shF Tryd.prog 39 ⟨[], [], []⟩ [.pointer r_0] w (fun v w' => decV (.int .i64) v fun y0 => K y0 w') := by kernel_rfl
  exact Calls.mono (calls_of _ e h) (onRet_mono (fun _ _ h => decV_spec h))

-- 54 (*prelude/codec.Reader).Raw; callees ['slices_Clone_byte_byte']
def sh_codec_Reader_Raw (c_slices_Clone_byte_byte : Slc → World → (Slc → World → Prop) → Prop) (r_0 : Option Addr) (n_1 : Int) (w : World) (K : Slc → World → Prop) : Prop :=
  nnP r_0 fun a1 => ldI .i64 (a1.add 2) w fun n2 => iteB ((n2 : Int) != 0)
  (K ⟨none, 0, 0⟩ w)
  (iteB (decide ((n_1 : Int) < 0))
  (nnP r_0 fun a3 => stP (a3.add 2) (.int .i64 11) w fun w4 => K ⟨none, 0, 0⟩ w4)
  (nnP r_0 fun a5 => ldS a5 w.drew fun s6 => nnP r_0 fun a7 => ldI .i64 (a7.add 1) w.drew fun n8 => iteB (decide ((n_1 : Int) > (IntKind.i64.wrap ((s6.l : Int) - n8))))
  (nnP r_0 fun a9 => stP (a9.add 2) (.int .i64 10) w.drew fun w10 => K ⟨none, 0, 0⟩ w10)
  (nnP r_0 fun a11 => ldI .i64 (a11.add 1) w.drew fun n12 => nnP r_0 fun a13 => stP (a13.add 1) (.int .i64 (IntKind.i64.wrap (n12 + n_1))) w.drew fun w14 => nnP r_0 fun a15 => ldS a15 w14.drew fun s16 => nnP r_0 fun a17 => ldI .i64 (a17.add 1) w14.drew fun n18 => nnP r_0 fun a19 => ldI .i64 (a19.add 1) w14.drew fun n20 => slP s16.a s16.l s16.c (some (IntKind.i64.wrap (n18 - n_1))) (some n20) 1 fun p21 l22 c23 => c_slices_Clone_byte_byte ⟨p21, l22, c23⟩ w14.drew fun r24 w25 => K r24 w25)))

def c_codec_Reader_Raw (r_0 : Option Addr) (n_1 : Int) (w : World) (K : Slc → World → Prop) : Prop := Calls Tryd.prog 54 #[.pointer r_0, .int .i64 n_1] w (onRet (fun v w' => ∃ (y0 : Slc), v = .slice y0.a y0.l y0.c ∧ K y0 w'))

theorem sim_codec_Reader_Raw {r_0 : Option Addr} {n_1 : Int} {w : World} {K : Slc → World → Prop} (h : sh_codec_Reader_Raw c_slices_Clone_byte_byte r_0 n_1 w K) : c_codec_Reader_Raw r_0 n_1 w K := by
  have e : sh_codec_Reader_Raw c_slices_Clone_byte_byte r_0 n_1 w K = shF Tryd.prog 54 ⟨[(6, .of [0, 1, 2, 3, 4, 5, 6, 7, 8, 9, 10, 11, 12]), (10, .of [0, 1, 2, 3, 4, 5, 6, 7, 8, 9, 10, 11, 12, 13, 14, 15, 16])], [], []⟩ [.pointer r_0, .int .i64 n_1] w (fun v w' => decV .sl v fun y0 => K y0 w') := by kernel_rfl
  exact Calls.mono (calls_of _ e h) (onRet_mono (fun _ _ h => decV_spec h))

-- 55 prelude/keys.FromBytes; callees []
def sh_keys_FromBytes (b_0 : Slc) (w : World) (K : Int → Int → Int → World → Prop) : Prop :=
  newP #[.int .i64 0, .int .i64 0] 100 w fun a1 w2 => iteB (decide (((b_0.l : Int) : Int) < 10))
  (stP a1 (.int .i64 0) w2 fun w3 => stP (a1.add 1) (.int .i64 0) w3 fun w4 => ldI .i64 a1 w4 fun n5 => ldI .i64 (a1.add 1) w4 fun n6 => K n5 n6 10 w4)
  (iteB (decide (((b_0.l : Int) : Int) > 10))
  (stP a1 (.int .i64 0) w2 fun w7 => stP (a1.add 1) (.int .i64 0) w7 fun w8 => ldI .i64 a1 w8 fun n9 => ldI .i64 (a1.add 1) w8 fun n10 => K n9 n10 11 w8)
  (slP b_0.a b_0.l b_0.c (some 2) none 1 fun p11 l12 c13 => loopP (σ := Int × Int × Unit) (fun st15 next14 w16 => (fun (row_17 : Int) (x18 : Int) => iteB (decide ((x18 : Int) < (l12 : Int)))
  (idxP p11 l12 x18 1 fun a19 => ldI .u8 a19 w16 fun n20 => shP 8 (next14 ((bOr .u64 (IntKind.u64.wrap (row_17 * 2 ^ (min (Int.toNat 8) (IntKind.bits .u64)))) (IntKind.u64.wrap n20)), (IntKind.i64.wrap (x18 + 1)), ()) w16))
  (idxP b_0.a b_0.l 0 1 fun a21 => ldI .u8 a21 w16.drew fun n22 => shP 8 (idxP b_0.a b_0.l 1 1 fun a23 => ldI .u8 a23 w16.drew fun n24 => stP a1 (.int .i64 (bOr .i64 (IntKind.i64.wrap ((IntKind.i64.wrap n22) * 2 ^ (min (Int.toNat 8) (IntKind.bits .i64)))) (IntKind.i64.wrap n24))) w16.drew fun w25 => stP (a1.add 1) (.int .i64 (IntKind.i64.wrap (bXor .u64 row_17 9223372036854775808))) w25 fun w26 => ldI .i64 a1 w26 fun n27 => ldI .i64 (a1.add 1) w26 fun n28 => K n27 n28 0 w26))) st15.1 st15.2.1) (0, 0, ()) w2))

def c_keys_FromBytes (b_0 : Slc) (w : World) (K : Int → Int → Int → World → Prop) : Prop := Calls Tryd.prog 55 #[.slice b_0.a b_0.l b_0.c] w (onRet (fun v w' => ∃ (y0 : Int), ∃ (y1 : Int), ∃ (y2 : Int), v = .tuple #[.agg #[.int .i64 y0, .int .i64 y1], .int .i64 y2] ∧ K y0 y1 y2 w'))

theorem sim_keys_FromBytes {b_0 : Slc} {w : World} {K : Int → Int → Int → World → Prop} (h : sh_keys_FromBytes b_0 w K) : c_keys_FromBytes b_0 w K := by
  have e : sh_keys_FromBytes b_0 w K = shF Tryd.prog 55 ⟨[(11, .of [0, 1, 2, 3, 4, 5, 6, 7, 8, 9, 10, 11, 12, 13, 14, 15])], [(7, [(4, (.int .u64)), (20, (.int .i64))], [0, 2, 18, 19])], []⟩ [.slice b_0.a b_0.l b_0.c] w (fun v w' => decT [(true, [(.int .i64), (.int .i64)]), (false, [(.int .i64)])] v fun s => (fun (y0 : Int) (y1 : Int) (y2 : Int) => K y0 y1 y2 w') s.1 s.2.1 s.2.2.1) := by kernel_rfl
  exact Calls.mono (calls_of _ e h) (onRet_mono (fun _ _ h => by obtain ⟨s, h1, h2⟩ := decT_spec h; exact ⟨s.1, s.2.1, s.2.2.1, h1, h2⟩))

-- 64 cmp.isNaN[int]; callees []
def sh_cmp_isNaN_int (x_0 : Int) (w : World) (K : Bool → World → Prop) : Prop :=
  K ((x_0 : Int) != x_0) w

def c_cmp_isNaN_int (x_0 : Int) (w : World) (K : Bool → World → Prop) : Prop := Calls Tryd.prog 64 #[.int .i64 x_0] w (onRet (fun v w' => ∃ (y0 : Bool), v = .bool y0 ∧ K y0 w'))

theorem sim_cmp_isNaN_int {x_0 : Int} {w : World} {K : Bool → World → Prop} (h : sh_cmp_isNaN_int x_0 w K) : c_cmp_isNaN_int x_0 w K := by
  have e : sh_cmp_isNaN_int x_0 w K = shF Tryd.prog 64 ⟨[], [], []⟩ [.int .i64 x_0] w (fun v w' => decV .b v fun y0 => K y0 w') := by kernel_rfl
  exact Calls.mono (calls_of _ e h) (onRet_mono (fun _ _ h => decV_spec h))

-- 60 cmp.Compare[int]; callees ['cmp_isNaN_int']
def sh_cmp_Compare_int (c_cmp_isNaN_int : Int → World → (Bool → World → Prop) → Prop) (x_0 : Int) (y_1 : Int) (w : World) (K : Int → World → Prop) : Prop :=
  c_cmp_isNaN_int x_0 w fun r1 w2 => c_cmp_isNaN_int y_1 w2 fun r3 w4 => iteB r1
  (iteB r3
  (K 0 w4)
  (K (-1) w4))
  (iteB r3
  (K 1 w4)
  (iteB (decide ((x_0 : Int) < y_1))
  (K (-1) w4)
  (iteB (decide ((x_0 : Int) > y_1))
  (K 1 w4)
  (K 0 w4))))

def c_cmp_Compare_int (x_0 : Int) (y_1 : Int) (w : World) (K : Int → World → Prop) : Prop := Calls Tryd.prog 60 #[.int .i64 x_0, .int .i64 y_1] w (onRet (fun v w' => ∃ (y0 : Int), v = .int .i64 y0 ∧ K y0 w'))

theorem sim_cmp_Compare_int {x_0 : Int} {y_1 : Int} {w : World} {K : Int → World → Prop} (h : sh_cmp_Compare_int c_cmp_isNaN_int x_0 y_1 w K) : c_cmp_Compare_int x_0 y_1 w K := by
  have e : sh_cmp_Compare_int c_cmp_isNaN_int x_0 y_1 w K = shF Tryd.prog 60 ⟨[], [], []⟩ [.int .i64 x_0, .int .i64 y_1] w (fun v w' => decV (.int .i64) v fun y0 => K y0 w') := by kernel_rfl
  exact Calls.mono (calls_of _ e h) (onRet_mono (fun _ _ h => decV_spec h))

-- 65 cmp.isNaN[int64]; callees []
def sh_cmp_isNaN_int64 (x_0 : Int) (w : World) (K : Bool → World → Prop) : Prop :=
  K ((x_0 : Int) != x_0) w

def c_cmp_isNaN_int64 (x_0 : Int) (w : World) (K : Bool → World → Prop) : Prop := Calls Tryd.prog 65 #[.int .i64 x_0] w (onRet (fun v w' => ∃ (y0 : Bool), v = .bool y0 ∧ K y0 w'))

theorem sim_cmp_isNaN_int64 {x_0 : Int} {w : World} {K : Bool → World → Prop} (h : sh_cmp_isNaN_int64 x_0 w K) : c_cmp_isNaN_int64 x_0 w K := by
  have e : sh_cmp_isNaN_int64 x_0 w K = shF Tryd.prog 65 ⟨[], [], []⟩ [.int .i64 x_0] w (fun v w' => decV .b v fun y0 => K y0 w') := by kernel_rfl
  exact Calls.mono (calls_of _ e h) (onRet_mono (fun _ _ h => decV_spec h))

-- 61 cmp.Compare[int64]; callees ['cmp_isNaN_int64']
def sh_cmp_Compare_int64 (c_cmp_isNaN_int64 : Int → World → (Bool → World → Prop) → Prop) (x_0 : Int) (y_1 : Int) (w : World) (K : Int → World → Prop) : Prop :=
  c_cmp_isNaN_int64 x_0 w fun r1 w2 => c_cmp_isNaN_int64 y_1 w2 fun r3 w4 => iteB r1
  (iteB r3
  (K 0 w4)
  (K (-1) w4))
  (iteB r3
  (K 1 w4)
  (iteB (decide ((x_0 : Int) < y_1))
  (K (-1) w4)
  (iteB (decide ((x_0 : Int) > y_1))
  (K 1 w4)
  (K 0 w4))))

def c_cmp_Compare_int64 (x_0 : Int) (y_1 : Int) (w : World) (K : Int → World → Prop) : Prop := Calls Tryd.prog 61 #[.int .i64 x_0, .int .i64 y_1] w (onRet (fun v w' => ∃ (y0 : Int), v = .int .i64 y0 ∧ K y0 w'))

theorem sim_cmp_Compare_int64 {x_0 : Int} {y_1 : Int} {w : World} {K : Int → World → Prop} (h : sh_cmp_Compare_int64 c_cmp_isNaN_int64 x_0 y_1 w K) : c_cmp_Compare_int64 x_0 y_1 w K := by
  have e : sh_cmp_Compare_int64 c_cmp_isNaN_int64 x_0 y_1 w K = shF Tryd.prog 61 ⟨[], [], []⟩ [.int .i64 x_0, .int .i64 y_1] w (fun v w' => decV (.int .i64) v fun y0 => K y0 w') := by kernel_rfl
  exact Calls.mono (calls_of _ e h) (onRet_mono (fun _ _ h => decV_spec h))

-- 59 cmp.Or[int]; callees []
def sh_cmp_Or_int (vals_0 : Slc) (w : World) (K : Int → World → Prop) : Prop :=
  loopP (σ := Int × Unit) (fun st2 next1 w3 => (fun (x4 : Int) => iteB (decide ((x4 : Int) < (vals_0.l : Int)))
  (idxP vals_0.a vals_0.l x4 1 fun a5 => ldI .i64 a5 w3 fun n6 => iteB ((n6 : Int) != 0)
  (K n6 w3)
  (next1 ((IntKind.i64.wrap (x4 + 1)), ()) w3))
  (K 0 w3)) st2.1) (0, ()) w

def c_cmp_Or_int (vals_0 : Slc) (w : World) (K : Int → World → Prop) : Prop := Calls Tryd.prog 59 #[.slice vals_0.a vals_0.l vals_0.c] w (onRet (fun v w' => ∃ (y0 : Int), v = .int .i64 y0 ∧ K y0 w'))

theorem sim_cmp_Or_int {vals_0 : Slc} {w : World} {K : Int → World → Prop} (h : sh_cmp_Or_int vals_0 w K) : c_cmp_Or_int vals_0 w K := by
  have e : sh_cmp_Or_int vals_0 w K = shF Tryd.prog 59 ⟨[], [(3, [(8, (.int .i64))], [3, 6, 7])], []⟩ [.slice vals_0.a vals_0.l vals_0.c] w (fun v w' => decV (.int .i64) v fun y0 => K y0 w') := by kernel_rfl
  exact Calls.mono (calls_of _ e h) (onRet_mono (fun _ _ h => decV_spec h))

-- 56 prelude/keys.Compare; callees ['cmp_Compare_int', 'cmp_Compare_int64', 'cmp_Or_int']
def sh_keys_Compare (c_cmp_Compare_int : Int → Int → World → (Int → World → Prop) → Prop) (c_cmp_Compare_int64 : Int → Int → World → (Int → World → Prop) → Prop) (c_cmp_Or_int : Slc → World → (Int → World → Prop) → Prop) (a_0_0 : Int) (a_0_1 : Int) (b_1_0 : Int) (b_1_1 : Int) (w : World) (K : Int → World → Prop) : Prop :=
  newP #[.int .i64 a_0_0, .int .i64 a_0_1] 100 w fun a1 w2 => newP #[.int .i64 b_1_0, .int .i64 b_1_1] 100 w2 fun a3 w4 => ldI .i64 a1 w4 fun n5 => ldI .i64 (a1.add 1) w4 fun n6 => ldI .i64 a3 w4 fun n7 => ldI .i64 (a3.add 1) w4 fun n8 => (∃ (r9 : Bool), ∃ w10, (do eqGuard .eql 100 (.tmp 5) (.tmp 6) (.agg #[.int .i64 n5, .int .i64 n6]) (.agg #[.int .i64 n7, .int .i64 n8]); binOp .eql 100 (.agg #[.int .i64 n5, .int .i64 n6]) (.agg #[.int .i64 n7, .int .i64 n8])).run Tryd.prog w4 = .ok (.bool r9) w10 ∧ (iteB r9
  (K 0 w10)
  (ldI .i64 a1 w10.drew fun n11 => ldI .i64 a3 w10.drew fun n12 => ldI .i64 (a1.add 1) w10.drew fun n13 => ldI .i64 (a3.add 1) w10.drew fun n14 => c_cmp_Compare_int n11 n12 w10.drew fun r15 w16 => w16.cell? (a3.add 1) = some (.int .i64 n14) ∧ w16.cell? (a1.add 1) = some (.int .i64 n13) ∧ (c_cmp_Compare_int64 n13 n14 w16 fun r17 w18 => newP #[.int .i64 r15, .int .i64 r17] 3 w18 fun a19 w20 => c_cmp_Or_int ⟨(some a19), 2, 2⟩ w20 fun r21 w22 => K r21 w22))))

def c_keys_Compare (a_0_0 : Int) (a_0_1 : Int) (b_1_0 : Int) (b_1_1 : Int) (w : World) (K : Int → World → Prop) : Prop := Calls Tryd.prog 56 #[.agg #[.int .i64 a_0_0, .int .i64 a_0_1], .agg #[.int .i64 b_1_0, .int .i64 b_1_1]] w (onRet (fun v w' => ∃ (y0 : Int), v = .int .i64 y0 ∧ K y0 w'))

theorem sim_keys_Compare {a_0_0 : Int} {a_0_1 : Int} {b_1_0 : Int} {b_1_1 : Int} {w : World} {K : Int → World → Prop} (h : sh_keys_Compare c_cmp_Compare_int c_cmp_Compare_int64 c_cmp_Or_int a_0_0 a_0_1 b_1_0 b_1_1 w K) : c_keys_Compare a_0_0 a_0_1 b_1_0 b_1_1 w K := by
  have e : sh_keys_Compare c_cmp_Compare_int c_cmp_Compare_int64 c_cmp_Or_int a_0_0 a_0_1 b_1_0 b_1_1 w K = shF Tryd.prog 56 ⟨[(3, .of [0, 1, 2, 3, 5, 6, 7, 8, 4, 9, 10, 11, 12])], [], []⟩ [.agg #[.int .i64 a_0_0, .int .i64 a_0_1], .agg #[.int .i64 b_1_0, .int .i64 b_1_1]] w (fun v w' => decV (.int .i64) v fun y0 => K y0 w') := by kernel_rfl
  exact Calls.mono (calls_of _ e h) (onRet_mono (fun _ _ h => decV_spec h))

-- 40 (prelude/batch.reader).set; callees ['batch_reader_upto', 'codec_Reader_At', 'codec_Reader_Raw', 'batch_reader_held', 'keys_FromBytes', 'keys_Compare']
def sh_batch_reader_set (c_batch_reader_upto : Option Addr → Int → World → (Int → World → Prop) → (List PanicEntry → World → Prop) → Prop) (c_codec_Reader_At : Option Addr → World → (Int → World → Prop) → Prop) (c_codec_Reader_Raw : Option Addr → Int → World → (Slc → World → Prop) → Prop) (c_batch_reader_held : Option Addr → Int → World → (World → Prop) → (List PanicEntry → World → Prop) → Prop) (c_keys_FromBytes : Slc → World → (Int → Int → Int → World → Prop) → Prop) (c_keys_Compare : Int → Int → Int → Int → World → (Int → World → Prop) → Prop) (r_0_0 : Option Addr) (most_1 : Int) (w : World) (K : Slc → World → Prop) (KP : List PanicEntry → World → Prop) : Prop :=
  newP #[.pointer r_0_0] 76 w fun a1 w2 => ldP a1 w2 fun p3 => c_batch_reader_upto p3 most_1 w2 (fun r4 w5 => loopP (σ := Slc × Int × Unit) (fun st7 next6 w8 => (fun (l_9 : Slc) (x10 : Int) => iteB (decide ((x10 : Int) < r4))
  (ldP a1 w8 fun p11 => c_codec_Reader_At p11 w8 fun r12 w13 => ldP a1 w13 fun p14 => c_codec_Reader_Raw p14 10 w13 fun r15 w16 => ldP a1 w16 fun p17 => c_batch_reader_held p17 r12 w16 (fun w18 => c_keys_FromBytes r15 w18 fun r19 r20 r21 w22 => newP #[.int .i64 0, .int .i64 0] 100 w22 fun a23 w24 => stP a23 (.int .i64 r19) w24 fun w25 => stP (a23.add 1) (.int .i64 r20) w25 fun w26 => iteB (decide (((l_9.l : Int) : Int) > 0))
  (idxP l_9.a l_9.l (IntKind.i64.wrap ((l_9.l : Int) - 1)) 2 fun a27 => ldI .i64 a27 w26.drew fun n28 => ldI .i64 (a27.add 1) w26.drew fun n29 => ldI .i64 a23 w26.drew fun n30 => ldI .i64 (a23.add 1) w26.drew fun n31 => c_keys_Compare n28 n29 n30 n31 w26.drew fun r32 w33 => iteB (decide ((r32 : Int) ≥ 0))
  (panP (.iface 71 (.agg #[.int .i64 r12, .int .i64 65])) KP w33)
  (ldI .i64 a23 w33 fun n34 => ldI .i64 (a23.add 1) w33 fun n35 => newP #[.int .i64 n34, .int .i64 n35] 100 w33 fun a36 w37 => apP Tryd.prog #[60, 60] 60 [.slice l_9.a l_9.l l_9.c, .slice (some a36) 1 1] w37 fun s39 w38 => next6 (s39, (IntKind.i64.wrap (x10 + 1)), ()) w38))
  (ldI .i64 a23 w26.drew fun n40 => ldI .i64 (a23.add 1) w26.drew fun n41 => newP #[.int .i64 n40, .int .i64 n41] 100 w26.drew fun a42 w43 => apP Tryd.prog #[60, 60] 60 [.slice l_9.a l_9.l l_9.c, .slice (some a42) 1 1] w43 fun s45 w44 => next6 (s45, (IntKind.i64.wrap (x10 + 1)), ()) w44)) KP)
  (K l_9 w8)) st7.1 st7.2.1) (⟨none, 0, 0⟩, 0, ()) w5) KP

def c_batch_reader_set (r_0_0 : Option Addr) (most_1 : Int) (w : World) (K : Slc → World → Prop) (KP : List PanicEntry → World → Prop) : Prop := Calls Tryd.prog 40 #[.agg #[.pointer r_0_0], .int .i64 most_1] w (onRetX (fun v w' => ∃ (y0 : Slc), v = .slice y0.a y0.l y0.c ∧ K y0 w') KP)

theorem sim_batch_reader_set {r_0_0 : Option Addr} {most_1 : Int} {w : World} {K : Slc → World → Prop} {KP : List PanicEntry → World → Prop} (h : sh_batch_reader_set c_batch_reader_upto c_codec_Reader_At c_codec_Reader_Raw c_batch_reader_held c_keys_FromBytes c_keys_Compare r_0_0 most_1 w K KP) : c_batch_reader_set r_0_0 most_1 w K KP := by
  have e : sh_batch_reader_set c_batch_reader_upto c_codec_Reader_At c_codec_Reader_Raw c_batch_reader_held c_keys_FromBytes c_keys_Compare r_0_0 most_1 w K KP = shFX Tryd.prog 40 ⟨[(8, .of [0, 1, 2, 3, 4, 5, 6, 7, 8, 9, 10, 11, 12, 13])], [(3, [(5, .sl), (13, (.int .i64))], [2, 12])], []⟩ [.agg #[.pointer r_0_0], .int .i64 most_1] w (fun v w' => decV .sl v fun y0 => K y0 w') ⟨[21, 38], KP⟩ := by kernel_rfl
  exact Calls.mono (callsX_of _ e h) (onRetX_mono (fun _ _ h => decV_spec h))

-- 22 (prelude/batch.reader).tx; callees ['batch_reader_upto', 'codec_Reader_At', 'codec_Reader_Int', 'batch_reader_held', 'batch_reader_set']
def sh_batch_reader_tx (c_batch_reader_upto : Option Addr → Int → World → (Int → World → Prop) → (List PanicEntry → World → Prop) → Prop) (c_codec_Reader_At : Option Addr → World → (Int → World → Prop) → Prop) (c_codec_Reader_Int : Option Addr → World → (Int → World → Prop) → Prop) (c_batch_reader_held : Option Addr → Int → World → (World → Prop) → (List PanicEntry → World → Prop) → Prop) (c_batch_reader_set : Option Addr → Int → World → (Slc → World → Prop) → (List PanicEntry → World → Prop) → Prop) (r_0_0 : Option Addr) (w : World) (K : Int → Slc → Slc → Slc → World → Prop) (KP : List PanicEntry → World → Prop) : Prop :=
  newP #[.pointer r_0_0] 76 w fun a1 w2 => newP #[.int .i64 0, .slice none 0 0, .slice none 0 0, .slice none 0 0] 62 w2 fun a3 w4 => ldP a1 w4 fun p5 => c_batch_reader_upto p5 63 w4 (fun r6 w7 => newP #[.int .i64 0, .slice none 0 0, .slice none 0 0, .slice none 0 0] 62 w7 fun a8 w9 => stP a8 (.int .i64 r6) w9 fun w10 => stP (a8.add 1) (.slice none 0 0) w10 fun w11 => stP (a8.add 2) (.slice none 0 0) w11 fun w12 => stP (a8.add 3) (.slice none 0 0) w12 fun w13 => ldP a1 w13 fun p14 => c_batch_reader_upto p14 16 w13 (fun r15 w16 => loopP (σ := Int × Unit) (fun st18 next17 w19 => (fun (x20 : Int) => iteB (decide ((x20 : Int) < r15))
  (ldP a1 w19 fun p21 => c_codec_Reader_At p21 w19 fun r22 w23 => ldP a1 w23 fun p24 => c_codec_Reader_Int p24 w23 fun r25 w26 => ldP a1 w26 fun p27 => c_batch_reader_held p27 r22 w26 (fun w28 => ldS (a8.add 1) w28 fun s29 => newP #[.int .i64 r25] 2 w28 fun a30 w31 => apP Tryd.prog #[59, 59] 59 [.slice s29.a s29.l s29.c, .slice (some a30) 1 1] w31 fun s33 w32 => stP (a8.add 1) (.slice s33.a s33.l s33.c) w32 fun w34 => next17 ((IntKind.i64.wrap (x20 + 1)), ()) w34) KP)
  (ldP a1 w19 fun p35 => c_batch_reader_set p35 16 w19 (fun r36 w37 => stP (a8.add 2) (.slice r36.a r36.l r36.c) w37 fun w38 => ldP a1 w38 fun p39 => c_batch_reader_set p39 16 w38 (fun r40 w41 => stP (a8.add 3) (.slice r40.a r40.l r40.c) w41 fun w42 => ldI .i64 a8 w42 fun n43 => ldS (a8.add 1) w42 fun s44 => ldS (a8.add 2) w42 fun s45 => ldS (a8.add 3) w42 fun s46 => stP a3 (.int .i64 n43) w42 fun w47 => stP (a3.add 1) (.slice s44.a s44.l s44.c) w47 fun w48 => stP (a3.add 2) (.slice s45.a s45.l s45.c) w48 fun w49 => stP (a3.add 3) (.slice s46.a s46.l s46.c) w49 fun w50 => ldI .i64 a3 w50 fun n51 => ldS (a3.add 1) w50 fun s52 => ldS (a3.add 2) w50 fun s53 => ldS (a3.add 3) w50 fun s54 => K n51 s52 s53 s54 w50) KP) KP)) st18.1) (0, ()) w16) KP) KP

def c_batch_reader_tx (r_0_0 : Option Addr) (w : World) (K : Int → Slc → Slc → Slc → World → Prop) (KP : List PanicEntry → World → Prop) : Prop := Calls Tryd.prog 22 #[.agg #[.pointer r_0_0]] w (onRetX (fun v w' => ∃ (y0 : Int), ∃ (y1 : Slc), ∃ (y2 : Slc), ∃ (y3 : Slc), v = .agg #[.int .i64 y0, .slice y1.a y1.l y1.c, .slice y2.a y2.l y2.c, .slice y3.a y3.l y3.c] ∧ K y0 y1 y2 y3 w') KP)

theorem sim_batch_reader_tx {r_0_0 : Option Addr} {w : World} {K : Int → Slc → Slc → Slc → World → Prop} {KP : List PanicEntry → World → Prop} (h : sh_batch_reader_tx c_batch_reader_upto c_codec_Reader_At c_codec_Reader_Int c_batch_reader_held c_batch_reader_set r_0_0 w K KP) : c_batch_reader_tx r_0_0 w K KP := by
  have e : sh_batch_reader_tx c_batch_reader_upto c_codec_Reader_At c_codec_Reader_Int c_batch_reader_held c_batch_reader_set r_0_0 w K KP = shFX Tryd.prog 22 ⟨[], [(3, [(11, (.int .i64))], [1, 2, 3, 10])], []⟩ [.agg #[.pointer r_0_0]] w (fun v w' => decA [(.int .i64), .sl, .sl, .sl] v fun s => (fun (y0 : Int) (y1 : Slc) (y2 : Slc) (y3 : Slc) => K y0 y1 y2 y3 w') s.1 s.2.1 s.2.2.1 s.2.2.2.1) ⟨[21, 38, 40], KP⟩ := by kernel_rfl
  exact Calls.mono (callsX_of _ e h) (onRetX_mono (fun _ _ h => by obtain ⟨s, h1, h2⟩ := decA_spec h; exact ⟨s.1, s.2.1, s.2.2.1, s.2.2.2.1, h1, h2⟩))

-- 23 (*prelude/codec.Reader).Left; callees []
def sh_codec_Reader_Left (r_0 : Option Addr) (w : World) (K : Int → World → Prop) : Prop :=
  nnP r_0 fun a1 => ldS a1 w.drew fun s2 => nnP r_0 fun a3 => ldI .i64 (a3.add 1) w.drew fun n4 => K (IntKind.i64.wrap ((s2.l : Int) - n4)) w.drew

def c_codec_Reader_Left (r_0 : Option Addr) (w : World) (K : Int → World → Prop) : Prop := Calls Tryd.prog 23 #[.pointer r_0] w (onRet (fun v w' => ∃ (y0 : Int), v = .int .i64 y0 ∧ K y0 w'))

theorem sim_codec_Reader_Left {r_0 : Option Addr} {w : World} {K : Int → World → Prop} (h : sh_codec_Reader_Left r_0 w K) : c_codec_Reader_Left r_0 w K := by
  have e : sh_codec_Reader_Left r_0 w K = shF Tryd.prog 23 ⟨[(1, .of [0, 1, 2, 3, 4, 5, 6, 7, 8, 9, 10])], [], []⟩ [.pointer r_0] w (fun v w' => decV (.int .i64) v fun y0 => K y0 w') := by kernel_rfl
  exact Calls.mono (calls_of _ e h) (onRet_mono (fun _ _ h => decV_spec h))

-- 10 prelude/batch.Decode; callees ['codec_Read', 'batch_reader_upto', 'batch_reader_tx', 'codec_Reader_Left', 'codec_Reader_At']
def sh_batch_Decode (c_codec_Read : Slc → World → (Option Addr → World → Prop) → Prop) (c_batch_reader_upto : Option Addr → Int → World → (Int → World → Prop) → (List PanicEntry → World → Prop) → Prop) (c_batch_reader_tx : Option Addr → World → (Int → Slc → Slc → Slc → World → Prop) → (List PanicEntry → World → Prop) → Prop) (c_codec_Reader_Left : Option Addr → World → (Int → World → Prop) → Prop) (c_codec_Reader_At : Option Addr → World → (Int → World → Prop) → Prop) (data_0 : Slc) (w : World) (K : Slc → Int → Int → World → Prop) : Prop :=
  newP #[.slice none 0 0] 25 w fun a1 w2 => newP #[.int .i64 0] 3 w2 fun a3 w4 => newP #[.int .i64 0] 43 w4 fun a5 w6 => c_codec_Read data_0 w6 fun r14 w15 => newP #[.pointer none] 76 w15 fun a16 w17 => stP a16 (.pointer r14) w17 fun w18 => ldP a16 w18 fun p19 => c_batch_reader_upto p19 64 w18 (fun r20 w21 => loopP (σ := Int × Unit) (fun st23 next22 w24 => (fun (x25 : Int) => iteB (decide ((x25 : Int) < r20))
  (ldS a1 w24.drew fun s26 => ldP a16 w24.drew fun p27 => c_batch_reader_tx p27 w24.drew (fun r28 r29 r30 r31 w32 => w32.cell? a1 = some (.slice s26.a s26.l s26.c) ∧ (newP #[.int .i64 r28, .slice r29.a r29.l r29.c, .slice r30.a r30.l r30.c, .slice r31.a r31.l r31.c] 62 w32 fun a33 w34 => w34.cell? a1 = some (.slice s26.a s26.l s26.c) ∧ (apP Tryd.prog #[25, 25] 25 [.slice s26.a s26.l s26.c, .slice (some a33) 1 1] w34 fun s36 w35 => stP a1 (.slice s36.a s36.l s36.c) w35 fun w37 => next22 ((IntKind.i64.wrap (x25 + 1)), ()) w37))) (fun ch8 w9 => dfP Tryd.prog (.func (.func 19) #[] #[.pointer (some a1), .pointer (some a3), .pointer (some a5)]) (.panicking ch8) w9 fun w10 => ldS a1 w10 fun s11 => ldI .i64 a3 w10 fun n12 => ldI .i64 a5 w10 fun n13 => K s11 n12 n13 w10))
  (ldP a16 w24 fun p38 => c_codec_Reader_Left p38 w24 fun r39 w40 => iteB (decide ((r39 : Int) > 0))
  (ldP a16 w40 fun p41 => c_codec_Reader_At p41 w40 fun r42 w43 => panP (.iface 71 (.agg #[.int .i64 r42, .int .i64 11])) (fun ch8 w9 => dfP Tryd.prog (.func (.func 19) #[] #[.pointer (some a1), .pointer (some a3), .pointer (some a5)]) (.panicking ch8) w9 fun w10 => ldS a1 w10 fun s11 => ldI .i64 a3 w10 fun n12 => ldI .i64 a5 w10 fun n13 => K s11 n12 n13 w10) w43)
  (ldS a1 w40 fun s44 => stP a1 (.slice s44.a s44.l s44.c) w40 fun w45 => stP a3 (.int .i64 0) w45 fun w46 => stP a5 (.int .i64 0) w46 fun w47 => dfP Tryd.prog (.func (.func 19) #[] #[.pointer (some a1), .pointer (some a3), .pointer (some a5)]) .returning w47 fun w48 => ldS a1 w48 fun s49 => ldI .i64 a3 w48 fun n50 => ldI .i64 a5 w48 fun n51 => K s49 n50 n51 w48))) st23.1) (0, ()) w21) (fun ch8 w9 => dfP Tryd.prog (.func (.func 19) #[] #[.pointer (some a1), .pointer (some a3), .pointer (some a5)]) (.panicking ch8) w9 fun w10 => ldS a1 w10 fun s11 => ldI .i64 a3 w10 fun n12 => ldI .i64 a5 w10 fun n13 => K s11 n12 n13 w10)

def c_batch_Decode (data_0 : Slc) (w : World) (K : Slc → Int → Int → World → Prop) : Prop := Calls Tryd.prog 10 #[.slice data_0.a data_0.l data_0.c] w (onRet (fun v w' => ∃ (y0 : Slc), ∃ (y1 : Int), ∃ (y2 : Int), v = .tuple #[.slice y0.a y0.l y0.c, .int .i64 y1, .int .i64 y2] ∧ K y0 y1 y2 w'))

theorem sim_batch_Decode {data_0 : Slc} {w : World} {K : Slc → Int → Int → World → Prop} (h : sh_batch_Decode c_codec_Read c_batch_reader_upto c_batch_reader_tx c_codec_Reader_Left c_codec_Reader_At data_0 w K) : c_batch_Decode data_0 w K := by
  have e : sh_batch_Decode c_codec_Read c_batch_reader_upto c_batch_reader_tx c_codec_Reader_Left c_codec_Reader_At data_0 w K = shFD Tryd.prog [21, 22] 10 ⟨[(5, .of [0, 1, 2, 3, 4, 5])], [(4, [(12, (.int .i64))], [2, 3, 4, 5, 11])], []⟩ [.slice data_0.a data_0.l data_0.c] w (fun v w' => decT [(false, [.sl]), (false, [(.int .i64)]), (false, [(.int .i64)])] v fun s => (fun (y0 : Slc) (y1 : Int) (y2 : Int) => K y0 y1 y2 w') s.1 s.2.1 s.2.2.1) := by kernel_rfl
  exact Calls.mono (callsD_of _ e h) (onRet_mono (fun _ _ h => by obtain ⟨s, h1, h2⟩ := decT_spec h; exact ⟨s.1, s.2.1, s.2.2.1, h1, h2⟩))

-- 25 prelude/batch.first; callees []
def sh_batch_first (b_0 : Slc) (wrong_1 : Value) (w : World) (K : Int → Int → World → Prop) : Prop :=
  iteB (decide (((b_0.l : Int) : Int) > 64))
  (K 0 60 w)
  (loopP (σ := Int × Unit) (fun st2 next1 w3 => (fun (x4 : Int) => iteB (decide ((x4 : Int) < (b_0.l : Int)))
  (idxP b_0.a b_0.l x4 4 fun a5 => ldI .i64 a5 w3 fun n6 => ldS (a5.add 1) w3 fun s7 => ldS (a5.add 2) w3 fun s8 => ldS (a5.add 3) w3 fun s9 => newP #[.int .i64 0, .slice none 0 0, .slice none 0 0, .slice none 0 0] 62 w3 fun a10 w11 => stP a10 (.int .i64 n6) w11 fun w12 => stP (a10.add 1) (.slice s7.a s7.l s7.c) w12 fun w13 => stP (a10.add 2) (.slice s8.a s8.l s8.c) w13 fun w14 => stP (a10.add 3) (.slice s9.a s9.l s9.c) w14 fun w15 => ldI .i64 a10 w15 fun n16 => ldS (a10.add 1) w15 fun s17 => ldS (a10.add 2) w15 fun s18 => ldS (a10.add 3) w15 fun s19 => cvP Tryd.prog wrong_1 [.agg #[.int .i64 n16, .slice s17.a s17.l s17.c, .slice s18.a s18.l s18.c, .slice s19.a s19.l s19.c]] w15 fun v22 w21 => ∃ (r20 : Int), v22 = .int .i64 r20 ∧ (iteB ((r20 : Int) != 0)
  (K x4 r20 w21)
  (next1 ((IntKind.i64.wrap (x4 + 1)), ()) w21)))
  (K 0 0 w3)) st2.1) (0, ()) w)

def c_batch_first (b_0 : Slc) (wrong_1 : Value) (w : World) (K : Int → Int → World → Prop) : Prop := Calls Tryd.prog 25 #[.slice b_0.a b_0.l b_0.c, wrong_1] w (onRet (fun v w' => ∃ (y0 : Int), ∃ (y1 : Int), v = .tuple #[.int .i64 y0, .int .i64 y1] ∧ K y0 y1 w'))

theorem sim_batch_first {b_0 : Slc} {wrong_1 : Value} {w : World} {K : Int → Int → World → Prop} (h : sh_batch_first b_0 wrong_1 w K) : c_batch_first b_0 wrong_1 w K := by
  have e : sh_batch_first b_0 wrong_1 w K = shF Tryd.prog 25 ⟨[], [(4, [(14, (.int .i64))], [1, 12, 13])], []⟩ [.slice b_0.a b_0.l b_0.c, wrong_1] w (fun v w' => decT [(false, [(.int .i64)]), (false, [(.int .i64)])] v fun s => (fun (y0 : Int) (y1 : Int) => K y0 y1 w') s.1 s.2.1) := by kernel_rfl
  exact Calls.mono (calls_of _ e h) (onRet_mono (fun _ _ h => by obtain ⟨s, h1, h2⟩ := decT_spec h; exact ⟨s.1, s.2.1, h1, h2⟩))

-- 11 prelude/batch.Check; callees ['batch_first']
def sh_batch_Check (c_batch_first : Slc → Value → World → (Int → Int → World → Prop) → Prop) (lib_0 : Slc) (b_1 : Slc) (w : World) (K : Int → Int → World → Prop) : Prop :=
  newP #[.slice lib_0.a lib_0.l lib_0.c] 22 w fun a1 w2 => c_batch_first b_1 (.func (.func 26) #[] #[.pointer (some a1)]) w2 fun r3 r4 w5 => K r3 r4 w5

def c_batch_Check (lib_0 : Slc) (b_1 : Slc) (w : World) (K : Int → Int → World → Prop) : Prop := Calls Tryd.prog 11 #[.slice lib_0.a lib_0.l lib_0.c, .slice b_1.a b_1.l b_1.c] w (onRet (fun v w' => ∃ (y0 : Int), ∃ (y1 : Int), v = .tuple #[.int .i64 y0, .int .i64 y1] ∧ K y0 y1 w'))

theorem sim_batch_Check {lib_0 : Slc} {b_1 : Slc} {w : World} {K : Int → Int → World → Prop} (h : sh_batch_Check c_batch_first lib_0 b_1 w K) : c_batch_Check lib_0 b_1 w K := by
  have e : sh_batch_Check c_batch_first lib_0 b_1 w K = shF Tryd.prog 11 ⟨[], [], []⟩ [.slice lib_0.a lib_0.l lib_0.c, .slice b_1.a b_1.l b_1.c] w (fun v w' => decT [(false, [(.int .i64)]), (false, [(.int .i64)])] v fun s => (fun (y0 : Int) (y1 : Int) => K y0 y1 w') s.1 s.2.1) := by kernel_rfl
  exact Calls.mono (calls_of _ e h) (onRet_mono (fun _ _ h => by obtain ⟨s, h1, h2⟩ := decT_spec h; exact ⟨s.1, s.2.1, h1, h2⟩))

-- 5 prelude/batch.Accept; callees ['batch_Decode', 'batch_Check']
def sh_batch_Accept (c_batch_Decode : Slc → World → (Slc → Int → Int → World → Prop) → Prop) (c_batch_Check : Slc → Slc → World → (Int → Int → World → Prop) → Prop) (lib_0 : Slc) (data_1 : Slc) (w : World) (K : Slc → Value → World → Prop) : Prop :=
  c_batch_Decode data_1 w fun r1 r2 r3 w4 => iteB ((r3 : Int) != 0)
  (newP #[.int .i64 r2, .iface 43 (.int .i64 r3)] 48 w4 fun a5 w6 => K ⟨none, 0, 0⟩ (.iface 46 (.pointer (some a5))) w6)
  (c_batch_Check lib_0 r1 w4 fun r7 r8 w9 => iteB ((r8 : Int) != 0)
  (newP #[.int .i64 r7, .iface 43 (.int .i64 r8)] 53 w9 fun a10 w11 => K ⟨none, 0, 0⟩ (.iface 51 (.pointer (some a10))) w11)
  (K r1 .nilIface w9))

def c_batch_Accept (lib_0 : Slc) (data_1 : Slc) (w : World) (K : Slc → Value → World → Prop) : Prop := Calls Tryd.prog 5 #[.slice lib_0.a lib_0.l lib_0.c, .slice data_1.a data_1.l data_1.c] w (onRet (fun v w' => ∃ (y0 : Slc), ∃ (y1 : Value), v = .tuple #[.slice y0.a y0.l y0.c, y1] ∧ K y0 y1 w'))

theorem sim_batch_Accept {lib_0 : Slc} {data_1 : Slc} {w : World} {K : Slc → Value → World → Prop} (h : sh_batch_Accept c_batch_Decode c_batch_Check lib_0 data_1 w K) : c_batch_Accept lib_0 data_1 w K := by
  have e : sh_batch_Accept c_batch_Decode c_batch_Check lib_0 data_1 w K = shF Tryd.prog 5 ⟨[], [], []⟩ [.slice lib_0.a lib_0.l lib_0.c, .slice data_1.a data_1.l data_1.c] w (fun v w' => decT [(false, [.sl]), (false, [.any])] v fun s => (fun (y0 : Slc) (y1 : Value) => K y0 y1 w') s.1 s.2.1) := by kernel_rfl
  exact Calls.mono (calls_of _ e h) (onRet_mono (fun _ _ h => by obtain ⟨s, h1, h2⟩ := decT_spec h; exact ⟨s.1, s.2.1, h1, h2⟩))

-- 42 prelude/preluderef01.number; callees []
def sh_preluderef01_number (b_0 : Slc) (w : World) (K : Int → Int → Int → World → Prop) : Prop :=
  loopP (σ := Int × Int × Unit) (fun st2 next1 w3 => (fun (n_4 : Int) (k_5 : Int) => iteB (decide ((k_5 : Int) < 10))
  (iteB ((k_5 : Int) == (b_0.l : Int))
  (K 0 0 10 w3)
  (iteB ((k_5 : Int) == 9)
  (idxP b_0.a b_0.l k_5 1 fun a6 => ldI .u8 a6 w3 fun n7 => iteB (decide ((n7 : Int) > 1))
  (K 0 0 11 w3)
  (iteB (decide ((k_5 : Int) > 0))
  (idxP b_0.a b_0.l k_5 1 fun a8 => ldI .u8 a8 w3 fun n9 => iteB ((n9 : Int) == 0)
  (K 0 0 11 w3)
  (idxP b_0.a b_0.l k_5 1 fun a10 => ldI .u8 a10 w3 fun n11 => dzP 128 (shP (IntKind.i64.wrap (7 * k_5)) (idxP b_0.a b_0.l k_5 1 fun a12 => ldI .u8 a12 w3 fun n13 => iteB (decide ((n13 : Int) < 128))
  (K (IntKind.u64.wrap (n_4 + (IntKind.u64.wrap ((IntKind.u64.wrap (Int.tmod n11 128)) * 2 ^ (min (Int.toNat (IntKind.i64.wrap (7 * k_5))) (IntKind.bits .u64)))))) (IntKind.i64.wrap (k_5 + 1)) 0 w3)
  (next1 ((IntKind.u64.wrap (n_4 + (IntKind.u64.wrap ((IntKind.u64.wrap (Int.tmod n11 128)) * 2 ^ (min (Int.toNat (IntKind.i64.wrap (7 * k_5))) (IntKind.bits .u64)))))), (IntKind.i64.wrap (k_5 + 1)), ()) w3)))))
  (idxP b_0.a b_0.l k_5 1 fun a14 => ldI .u8 a14 w3 fun n15 => dzP 128 (shP (IntKind.i64.wrap (7 * k_5)) (idxP b_0.a b_0.l k_5 1 fun a16 => ldI .u8 a16 w3 fun n17 => iteB (decide ((n17 : Int) < 128))
  (K (IntKind.u64.wrap (n_4 + (IntKind.u64.wrap ((IntKind.u64.wrap (Int.tmod n15 128)) * 2 ^ (min (Int.toNat (IntKind.i64.wrap (7 * k_5))) (IntKind.bits .u64)))))) (IntKind.i64.wrap (k_5 + 1)) 0 w3)
  (next1 ((IntKind.u64.wrap (n_4 + (IntKind.u64.wrap ((IntKind.u64.wrap (Int.tmod n15 128)) * 2 ^ (min (Int.toNat (IntKind.i64.wrap (7 * k_5))) (IntKind.bits .u64)))))), (IntKind.i64.wrap (k_5 + 1)), ()) w3))))))
  (iteB (decide ((k_5 : Int) > 0))
  (idxP b_0.a b_0.l k_5 1 fun a18 => ldI .u8 a18 w3 fun n19 => iteB ((n19 : Int) == 0)
  (K 0 0 11 w3)
  (idxP b_0.a b_0.l k_5 1 fun a20 => ldI .u8 a20 w3 fun n21 => dzP 128 (shP (IntKind.i64.wrap (7 * k_5)) (idxP b_0.a b_0.l k_5 1 fun a22 => ldI .u8 a22 w3 fun n23 => iteB (decide ((n23 : Int) < 128))
  (K (IntKind.u64.wrap (n_4 + (IntKind.u64.wrap ((IntKind.u64.wrap (Int.tmod n21 128)) * 2 ^ (min (Int.toNat (IntKind.i64.wrap (7 * k_5))) (IntKind.bits .u64)))))) (IntKind.i64.wrap (k_5 + 1)) 0 w3)
  (next1 ((IntKind.u64.wrap (n_4 + (IntKind.u64.wrap ((IntKind.u64.wrap (Int.tmod n21 128)) * 2 ^ (min (Int.toNat (IntKind.i64.wrap (7 * k_5))) (IntKind.bits .u64)))))), (IntKind.i64.wrap (k_5 + 1)), ()) w3)))))
  (idxP b_0.a b_0.l k_5 1 fun a24 => ldI .u8 a24 w3 fun n25 => dzP 128 (shP (IntKind.i64.wrap (7 * k_5)) (idxP b_0.a b_0.l k_5 1 fun a26 => ldI .u8 a26 w3 fun n27 => iteB (decide ((n27 : Int) < 128))
  (K (IntKind.u64.wrap (n_4 + (IntKind.u64.wrap ((IntKind.u64.wrap (Int.tmod n25 128)) * 2 ^ (min (Int.toNat (IntKind.i64.wrap (7 * k_5))) (IntKind.bits .u64)))))) (IntKind.i64.wrap (k_5 + 1)) 0 w3)
  (next1 ((IntKind.u64.wrap (n_4 + (IntKind.u64.wrap ((IntKind.u64.wrap (Int.tmod n25 128)) * 2 ^ (min (Int.toNat (IntKind.i64.wrap (7 * k_5))) (IntKind.bits .u64)))))), (IntKind.i64.wrap (k_5 + 1)), ()) w3)))))))
  (K 0 0 11 w3)) st2.1 st2.2.1) (0, 0, ()) w

def c_preluderef01_number (b_0 : Slc) (w : World) (K : Int → Int → Int → World → Prop) : Prop := Calls Tryd.prog 42 #[.slice b_0.a b_0.l b_0.c] w (onRet (fun v w' => ∃ (y0 : Int), ∃ (y1 : Int), ∃ (y2 : Int), v = .tuple #[.int .u64 y0, .int .i64 y1, .int .i64 y2] ∧ K y0 y1 y2 w'))

theorem sim_preluderef01_number {b_0 : Slc} {w : World} {K : Int → Int → Int → World → Prop} (h : sh_preluderef01_number b_0 w K) : c_preluderef01_number b_0 w K := by
  have e : sh_preluderef01_number b_0 w K = shF Tryd.prog 42 ⟨[], [(3, [(5, (.int .u64)), (6, (.int .i64))], [0])], []⟩ [.slice b_0.a b_0.l b_0.c] w (fun v w' => decT [(false, [(.int .u64)]), (false, [(.int .i64)]), (false, [(.int .i64)])] v fun s => (fun (y0 : Int) (y1 : Int) (y2 : Int) => K y0 y1 y2 w') s.1 s.2.1 s.2.2.1) := by kernel_rfl
  exact Calls.mono (calls_of _ e h) (onRet_mono (fun _ _ h => by obtain ⟨s, h1, h2⟩ := decT_spec h; exact ⟨s.1, s.2.1, s.2.2.1, h1, h2⟩))

-- 28 (*prelude/preluderef01.Reader).Uint; callees ['preluderef01_number']
def sh_preluderef01_Reader_Uint (c_preluderef01_number : Slc → World → (Int → Int → Int → World → Prop) → Prop) (r_0 : Option Addr) (w : World) (K : Int → World → Prop) : Prop :=
  nnP r_0 fun a1 => ldI .i64 (a1.add 2) w fun n2 => iteB ((n2 : Int) != 0)
  (K 0 w)
  (nnP r_0 fun a3 => ldS a3 w.drew fun s4 => nnP r_0 fun a5 => ldI .i64 (a5.add 1) w.drew fun n6 => slP s4.a s4.l s4.c (some n6) none 1 fun p7 l8 c9 => c_preluderef01_number ⟨p7, l8, c9⟩ w.drew fun r10 r11 r12 w13 => nnP r_0 fun a14 => stP (a14.add 2) (.int .i64 r12) w13 fun w15 => nnP r_0 fun a16 => ldI .i64 (a16.add 1) w15 fun n17 => nnP r_0 fun a18 => stP (a18.add 1) (.int .i64 (IntKind.i64.wrap (n17 + r11))) w15 fun w19 => K r10 w19)

def c_preluderef01_Reader_Uint (r_0 : Option Addr) (w : World) (K : Int → World → Prop) : Prop := Calls Tryd.prog 28 #[.pointer r_0] w (onRet (fun v w' => ∃ (y0 : Int), v = .int .u64 y0 ∧ K y0 w'))

theorem sim_preluderef01_Reader_Uint {r_0 : Option Addr} {w : World} {K : Int → World → Prop} (h : sh_preluderef01_Reader_Uint c_preluderef01_number r_0 w K) : c_preluderef01_Reader_Uint r_0 w K := by
  have e : sh_preluderef01_Reader_Uint c_preluderef01_number r_0 w K = shF Tryd.prog 28 ⟨[(3, .of [0, 1, 2, 3, 4, 5, 6, 7, 8, 9, 10, 11, 12, 13, 14, 15, 16])], [], []⟩ [.pointer r_0] w (fun v w' => decV (.int .u64) v fun y0 => K y0 w') := by kernel_rfl
  exact Calls.mono (calls_of _ e h) (onRet_mono (fun _ _ h => decV_spec h))

-- 12 (*prelude/preluderef01.Reader).Upto; callees ['preluderef01_Reader_Uint']
def sh_preluderef01_Reader_Upto (c_preluderef01_Reader_Uint : Option Addr → World → (Int → World → Prop) → Prop) (r_0 : Option Addr) (most_1 : Int) (w : World) (K : Int → World → Prop) : Prop :=
  nnP r_0 fun a1 => ldI .i64 (a1.add 1) w fun n2 => c_preluderef01_Reader_Uint r_0 w fun r3 w4 => nnP r_0 fun a5 => ldI .i64 (a5.add 2) w4 fun n6 => iteB ((n6 : Int) == 0)
  (iteB (decide ((r3 : Int) > most_1))
  (nnP r_0 fun a7 => stP (a7.add 2) (.int .i64 12) w4 fun w8 => nnP r_0 fun a9 => stP (a9.add 1) (.int .i64 n2) w8 fun w10 => K 0 w10)
  (K r3 w4))
  (K r3 w4)

def c_preluderef01_Reader_Upto (r_0 : Option Addr) (most_1 : Int) (w : World) (K : Int → World → Prop) : Prop := Calls Tryd.prog 12 #[.pointer r_0, .int .u64 most_1] w (onRet (fun v w' => ∃ (y0 : Int), v = .int .u64 y0 ∧ K y0 w'))

theorem sim_preluderef01_Reader_Upto {r_0 : Option Addr} {most_1 : Int} {w : World} {K : Int → World → Prop} (h : sh_preluderef01_Reader_Upto c_preluderef01_Reader_Uint r_0 most_1 w K) : c_preluderef01_Reader_Upto r_0 most_1 w K := by
  have e : sh_preluderef01_Reader_Upto c_preluderef01_Reader_Uint r_0 most_1 w K = shF Tryd.prog 12 ⟨[], [], []⟩ [.pointer r_0, .int .u64 most_1] w (fun v w' => decV (.int .u64) v fun y0 => K y0 w') := by kernel_rfl
  exact Calls.mono (calls_of _ e h) (onRet_mono (fun _ _ h => decV_spec h))

-- 43 prelude/preluderef01.Unfold; callees []
def sh_preluderef01_Unfold (n_0 : Int) (w : World) (K : Int → World → Prop) : Prop :=
  dzP 2 (iteB (((Int.tmod n_0 2) : Int) == 0)
  (dzP 2 (K (IntKind.i64.wrap (IntKind.u64.wrap (Int.tdiv n_0 2))) w))
  (dzP 2 (K (IntKind.i64.wrap ((-1) - (IntKind.i64.wrap (IntKind.u64.wrap (Int.tdiv n_0 2))))) w)))

def c_preluderef01_Unfold (n_0 : Int) (w : World) (K : Int → World → Prop) : Prop := Calls Tryd.prog 43 #[.int .u64 n_0] w (onRet (fun v w' => ∃ (y0 : Int), v = .int .i64 y0 ∧ K y0 w'))

theorem sim_preluderef01_Unfold {n_0 : Int} {w : World} {K : Int → World → Prop} (h : sh_preluderef01_Unfold n_0 w K) : c_preluderef01_Unfold n_0 w K := by
  have e : sh_preluderef01_Unfold n_0 w K = shF Tryd.prog 43 ⟨[], [], []⟩ [.int .u64 n_0] w (fun v w' => decV (.int .i64) v fun y0 => K y0 w') := by kernel_rfl
  exact Calls.mono (calls_of _ e h) (onRet_mono (fun _ _ h => decV_spec h))

-- 29 (*prelude/preluderef01.Reader).Int; callees ['preluderef01_Reader_Uint', 'preluderef01_Unfold']
def sh_preluderef01_Reader_Int (c_preluderef01_Reader_Uint : Option Addr → World → (Int → World → Prop) → Prop) (c_preluderef01_Unfold : Int → World → (Int → World → Prop) → Prop) (r_0 : Option Addr) (w : World) (K : Int → World → Prop) : Prop :=
  c_preluderef01_Reader_Uint r_0 w fun r1 w2 => c_preluderef01_Unfold r1 w2 fun r3 w4 => K r3 w4

def c_preluderef01_Reader_Int (r_0 : Option Addr) (w : World) (K : Int → World → Prop) : Prop := Calls Tryd.prog 29 #[.pointer r_0] w (onRet (fun v w' => ∃ (y0 : Int), v = .int .i64 y0 ∧ K y0 w'))

theorem sim_preluderef01_Reader_Int {r_0 : Option Addr} {w : World} {K : Int → World → Prop} (h : sh_preluderef01_Reader_Int c_preluderef01_Reader_Uint c_preluderef01_Unfold r_0 w K) : c_preluderef01_Reader_Int r_0 w K := by
  have e : sh_preluderef01_Reader_Int c_preluderef01_Reader_Uint c_preluderef01_Unfold r_0 w K = shF Tryd.prog 29 ⟨[], [], []⟩ [.pointer r_0] w (fun v w' => decV (.int .i64) v fun y0 => K y0 w') := by kernel_rfl
  exact Calls.mono (calls_of _ e h) (onRet_mono (fun _ _ h => decV_spec h))

-- 44 (*prelude/preluderef01.Reader).Raw; callees []
def sh_preluderef01_Reader_Raw (r_0 : Option Addr) (n_1 : Int) (w : World) (K : Slc → World → Prop) : Prop :=
  nnP r_0 fun a1 => ldI .i64 (a1.add 2) w fun n2 => iteB ((n2 : Int) != 0)
  (K ⟨none, 0, 0⟩ w)
  (iteB (decide ((n_1 : Int) < 0))
  (nnP r_0 fun a3 => stP (a3.add 2) (.int .i64 11) w fun w4 => K ⟨none, 0, 0⟩ w4)
  (nnP r_0 fun a5 => ldS a5 w.drew fun s6 => nnP r_0 fun a7 => ldI .i64 (a7.add 1) w.drew fun n8 => iteB (decide ((n_1 : Int) > (IntKind.i64.wrap ((s6.l : Int) - n8))))
  (nnP r_0 fun a9 => stP (a9.add 2) (.int .i64 10) w.drew fun w10 => K ⟨none, 0, 0⟩ w10)
  (loopP (σ := Slc × Int × Unit) (fun st12 next11 w13 => (fun (l_14 : Slc) (i_15 : Int) => iteB (decide ((i_15 : Int) < n_1))
  (nnP r_0 fun a16 => ldS a16 w13.drew fun s17 => nnP r_0 fun a18 => ldI .i64 (a18.add 1) w13.drew fun n19 => idxP s17.a s17.l (IntKind.i64.wrap (n19 + i_15)) 1 fun a20 => ldI .u8 a20 w13.drew fun n21 => newP #[.int .u8 n21] 5 w13.drew fun a22 w23 => apP Tryd.prog #[23, 23] 23 [.slice l_14.a l_14.l l_14.c, .slice (some a22) 1 1] w23 fun s25 w24 => next11 (s25, (IntKind.i64.wrap (i_15 + 1)), ()) w24)
  (nnP r_0 fun a26 => ldI .i64 (a26.add 1) w13 fun n27 => nnP r_0 fun a28 => stP (a28.add 1) (.int .i64 (IntKind.i64.wrap (n27 + n_1))) w13 fun w29 => K l_14 w29)) st12.1 st12.2.1) (⟨none, 0, 0⟩, 0, ()) w.drew)))

def c_preluderef01_Reader_Raw (r_0 : Option Addr) (n_1 : Int) (w : World) (K : Slc → World → Prop) : Prop := Calls Tryd.prog 44 #[.pointer r_0, .int .i64 n_1] w (onRet (fun v w' => ∃ (y0 : Slc), v = .slice y0.a y0.l y0.c ∧ K y0 w'))

theorem sim_preluderef01_Reader_Raw {r_0 : Option Addr} {n_1 : Int} {w : World} {K : Slc → World → Prop} (h : sh_preluderef01_Reader_Raw r_0 n_1 w K) : c_preluderef01_Reader_Raw r_0 n_1 w K := by
  have e : sh_preluderef01_Reader_Raw r_0 n_1 w K = shF Tryd.prog 44 ⟨[(6, .of [0, 1, 2, 3, 4, 5, 6, 7, 8, 9, 10, 11]), (13, .of [0, 1, 2, 3, 4, 5, 6, 7, 8, 9, 10, 11, 12, 13, 14, 15])], [(11, [(5, .sl), (6, (.int .i64))], [0, 1])], []⟩ [.pointer r_0, .int .i64 n_1] w (fun v w' => decV .sl v fun y0 => K y0 w') := by kernel_rfl
  exact Calls.mono (calls_of _ e h) (onRet_mono (fun _ _ h => decV_spec h))

-- 45 prelude/preluderef02.FromBytes; callees []
def sh_preluderef02_FromBytes (b_0 : Slc) (w : World) (K : Int → Int → Int → World → Prop) : Prop :=
  newP #[.int .i64 0, .int .i64 0] 100 w fun a1 w2 => iteB (decide (((b_0.l : Int) : Int) < 10))
  (stP a1 (.int .i64 0) w2 fun w3 => stP (a1.add 1) (.int .i64 0) w3 fun w4 => ldI .i64 a1 w4 fun n5 => ldI .i64 (a1.add 1) w4 fun n6 => K n5 n6 10 w4)
  (iteB (decide (((b_0.l : Int) : Int) > 10))
  (stP a1 (.int .i64 0) w2 fun w7 => stP (a1.add 1) (.int .i64 0) w7 fun w8 => ldI .i64 a1 w8 fun n9 => ldI .i64 (a1.add 1) w8 fun n10 => K n9 n10 11 w8)
  (loopP (σ := Int × Int × Unit) (fun st12 next11 w13 => (fun (u_14 : Int) (i_15 : Int) => iteB (decide ((i_15 : Int) < 10))
  (idxP b_0.a b_0.l i_15 1 fun a16 => ldI .u8 a16 w13 fun n17 => next11 ((IntKind.u64.wrap ((IntKind.u64.wrap (u_14 * 256)) + (IntKind.u64.wrap n17))), (IntKind.i64.wrap (i_15 + 1)), ()) w13)
  (idxP b_0.a b_0.l 0 1 fun a18 => ldI .u8 a18 w13.drew fun n19 => idxP b_0.a b_0.l 1 1 fun a20 => ldI .u8 a20 w13.drew fun n21 => stP a1 (.int .i64 (IntKind.i64.wrap ((IntKind.i64.wrap ((IntKind.i64.wrap n19) * 256)) + (IntKind.i64.wrap n21)))) w13.drew fun w22 => stP (a1.add 1) (.int .i64 (IntKind.i64.wrap (bXor .u64 u_14 9223372036854775808))) w22 fun w23 => ldI .i64 a1 w23 fun n24 => ldI .i64 (a1.add 1) w23 fun n25 => K n24 n25 0 w23)) st12.1 st12.2.1) (0, 2, ()) w2))

def c_preluderef02_FromBytes (b_0 : Slc) (w : World) (K : Int → Int → Int → World → Prop) : Prop := Calls Tryd.prog 45 #[.slice b_0.a b_0.l b_0.c] w (onRet (fun v w' => ∃ (y0 : Int), ∃ (y1 : Int), ∃ (y2 : Int), v = .tuple #[.agg #[.int .i64 y0, .int .i64 y1], .int .i64 y2] ∧ K y0 y1 y2 w'))

theorem sim_preluderef02_FromBytes {b_0 : Slc} {w : World} {K : Int → Int → Int → World → Prop} (h : sh_preluderef02_FromBytes b_0 w K) : c_preluderef02_FromBytes b_0 w K := by
  have e : sh_preluderef02_FromBytes b_0 w K = shF Tryd.prog 45 ⟨[(10, .of [0, 1, 2, 3, 4, 5, 6, 7, 8, 9, 10, 11, 12, 13, 14, 15])], [(7, [(4, (.int .u64)), (5, (.int .i64))], [0, 2])], []⟩ [.slice b_0.a b_0.l b_0.c] w (fun v w' => decT [(true, [(.int .i64), (.int .i64)]), (false, [(.int .i64)])] v fun s => (fun (y0 : Int) (y1 : Int) (y2 : Int) => K y0 y1 y2 w') s.1 s.2.1 s.2.2.1) := by kernel_rfl
  exact Calls.mono (calls_of _ e h) (onRet_mono (fun _ _ h => by obtain ⟨s, h1, h2⟩ := decT_spec h; exact ⟨s.1, s.2.1, s.2.2.1, h1, h2⟩))

-- 46 prelude/preluderef02.Compare; callees []
def sh_preluderef02_Compare (a_0_0 : Int) (a_0_1 : Int) (b_1_0 : Int) (b_1_1 : Int) (w : World) (K : Int → World → Prop) : Prop :=
  newP #[.int .i64 a_0_0, .int .i64 a_0_1] 100 w fun a1 w2 => newP #[.int .i64 b_1_0, .int .i64 b_1_1] 100 w2 fun a3 w4 => ldI .i64 a1 w4 fun n5 => ldI .i64 a3 w4 fun n6 => iteB (decide ((n5 : Int) < n6))
  (K (-1) w4)
  (ldI .i64 a1 w4 fun n7 => ldI .i64 a3 w4 fun n8 => iteB (decide ((n7 : Int) > n8))
  (K 1 w4)
  (ldI .i64 (a1.add 1) w4 fun n9 => ldI .i64 (a3.add 1) w4 fun n10 => iteB (decide ((n9 : Int) < n10))
  (K (-1) w4)
  (ldI .i64 (a1.add 1) w4 fun n11 => ldI .i64 (a3.add 1) w4 fun n12 => iteB (decide ((n11 : Int) > n12))
  (K 1 w4)
  (K 0 w4))))

def c_preluderef02_Compare (a_0_0 : Int) (a_0_1 : Int) (b_1_0 : Int) (b_1_1 : Int) (w : World) (K : Int → World → Prop) : Prop := Calls Tryd.prog 46 #[.agg #[.int .i64 a_0_0, .int .i64 a_0_1], .agg #[.int .i64 b_1_0, .int .i64 b_1_1]] w (onRet (fun v w' => ∃ (y0 : Int), v = .int .i64 y0 ∧ K y0 w'))

theorem sim_preluderef02_Compare {a_0_0 : Int} {a_0_1 : Int} {b_1_0 : Int} {b_1_1 : Int} {w : World} {K : Int → World → Prop} (h : sh_preluderef02_Compare a_0_0 a_0_1 b_1_0 b_1_1 w K) : c_preluderef02_Compare a_0_0 a_0_1 b_1_0 b_1_1 w K := by
  have e : sh_preluderef02_Compare a_0_0 a_0_1 b_1_0 b_1_1 w K = shF Tryd.prog 46 ⟨[], [], []⟩ [.agg #[.int .i64 a_0_0, .int .i64 a_0_1], .agg #[.int .i64 b_1_0, .int .i64 b_1_1]] w (fun v w' => decV (.int .i64) v fun y0 => K y0 w') := by kernel_rfl
  exact Calls.mono (calls_of _ e h) (onRet_mono (fun _ _ h => decV_spec h))

-- 30 prelude/preluderef06.keys; callees ['preluderef01_Reader_Upto', 'preluderef01_Reader_Raw', 'preluderef02_FromBytes', 'preluderef02_Compare']
def sh_preluderef06_keys (c_preluderef01_Reader_Upto : Option Addr → Int → World → (Int → World → Prop) → Prop) (c_preluderef01_Reader_Raw : Option Addr → Int → World → (Slc → World → Prop) → Prop) (c_preluderef02_FromBytes : Slc → World → (Int → Int → Int → World → Prop) → Prop) (c_preluderef02_Compare : Int → Int → Int → Int → World → (Int → World → Prop) → Prop) (x_0 : Option Addr) (x_1 : Int) (w : World) (K : Slc → World → Prop) : Prop :=
  c_preluderef01_Reader_Upto x_0 x_1 w fun r1 w2 => loopP (σ := Slc × Int × Unit) (fun st4 next3 w5 => (fun (x6 : Slc) (x7 : Int) => iteB (decide ((x7 : Int) < r1))
  (nnP x_0 fun a8 => ldI .i64 (a8.add 2) w5 fun n9 => iteB ((n9 : Int) == 0)
  (nnP x_0 fun a10 => ldI .i64 (a10.add 1) w5 fun n11 => c_preluderef01_Reader_Raw x_0 10 w5 fun r12 w13 => nnP x_0 fun a14 => ldI .i64 (a14.add 2) w13 fun n15 => iteB ((n15 : Int) != 0)
  (K ⟨none, 0, 0⟩ w13)
  (c_preluderef02_FromBytes r12 w13 fun r16 r17 r18 w19 => newP #[.int .i64 0, .int .i64 0] 100 w19 fun a20 w21 => stP a20 (.int .i64 r16) w21 fun w22 => stP (a20.add 1) (.int .i64 r17) w22 fun w23 => iteB (decide (((x6.l : Int) : Int) > 0))
  (idxP x6.a x6.l (IntKind.i64.wrap ((x6.l : Int) - 1)) 2 fun a24 => ldI .i64 a24 w23.drew fun n25 => ldI .i64 (a24.add 1) w23.drew fun n26 => ldI .i64 a20 w23.drew fun n27 => ldI .i64 (a20.add 1) w23.drew fun n28 => c_preluderef02_Compare n25 n26 n27 n28 w23.drew fun r29 w30 => iteB (decide ((r29 : Int) ≥ 0))
  (nnP x_0 fun a31 => stP (a31.add 1) (.int .i64 n11) w30 fun w32 => nnP x_0 fun a33 => stP (a33.add 2) (.int .i64 65) w32 fun w34 => K ⟨none, 0, 0⟩ w34)
  (ldI .i64 a20 w30 fun n35 => ldI .i64 (a20.add 1) w30 fun n36 => newP #[.int .i64 n35, .int .i64 n36] 100 w30 fun a37 w38 => apP Tryd.prog #[60, 60] 60 [.slice x6.a x6.l x6.c, .slice (some a37) 1 1] w38 fun s40 w39 => next3 (s40, (IntKind.u64.wrap (x7 + 1)), ()) w39))
  (ldI .i64 a20 w23.drew fun n41 => ldI .i64 (a20.add 1) w23.drew fun n42 => newP #[.int .i64 n41, .int .i64 n42] 100 w23.drew fun a43 w44 => apP Tryd.prog #[60, 60] 60 [.slice x6.a x6.l x6.c, .slice (some a43) 1 1] w44 fun s46 w45 => next3 (s46, (IntKind.u64.wrap (x7 + 1)), ()) w45)))
  (K x6 w5))
  (K x6 w5)) st4.1 st4.2.1) (⟨none, 0, 0⟩, 0, ()) w2

def c_preluderef06_keys (x_0 : Option Addr) (x_1 : Int) (w : World) (K : Slc → World → Prop) : Prop := Calls Tryd.prog 30 #[.pointer x_0, .int .u64 x_1] w (onRet (fun v w' => ∃ (y0 : Slc), v = .slice y0.a y0.l y0.c ∧ K y0 w'))

theorem sim_preluderef06_keys {x_0 : Option Addr} {x_1 : Int} {w : World} {K : Slc → World → Prop} (h : sh_preluderef06_keys c_preluderef01_Reader_Upto c_preluderef01_Reader_Raw c_preluderef02_FromBytes c_preluderef02_Compare x_0 x_1 w K) : c_preluderef06_keys x_0 x_1 w K := by
  have e : sh_preluderef06_keys c_preluderef01_Reader_Upto c_preluderef01_Reader_Raw c_preluderef02_FromBytes c_preluderef02_Compare x_0 x_1 w K = shF Tryd.prog 30 ⟨[(11, .of [0, 1, 2, 3, 4, 5, 6, 7, 8, 9, 10, 11, 12, 13])], [(4, [(6, .sl), (7, (.int .u64))], [0, 5])], []⟩ [.pointer x_0, .int .u64 x_1] w (fun v w' => decV .sl v fun y0 => K y0 w') := by kernel_rfl
  exact Calls.mono (calls_of _ e h) (onRet_mono (fun _ _ h => decV_spec h))

-- 13 prelude/preluderef06.one; callees ['preluderef01_Reader_Upto', 'preluderef01_Reader_Int', 'preluderef06_keys']
def sh_preluderef06_one (c_preluderef01_Reader_Upto : Option Addr → Int → World → (Int → World → Prop) → Prop) (c_preluderef01_Reader_Int : Option Addr → World → (Int → World → Prop) → Prop) (c_preluderef06_keys : Option Addr → Int → World → (Slc → World → Prop) → Prop) (r_0 : Option Addr) (w : World) (K : Int → Slc → Slc → Slc → World → Prop) : Prop :=
  newP #[.int .i64 0, .slice none 0 0, .slice none 0 0, .slice none 0 0] 62 w fun a1 w2 => newP #[.int .i64 0, .slice none 0 0, .slice none 0 0, .slice none 0 0] 62 w2 fun a3 w4 => c_preluderef01_Reader_Upto r_0 63 w4 fun r5 w6 => stP a3 (.int .i64 (IntKind.i64.wrap r5)) w6 fun w7 => c_preluderef01_Reader_Upto r_0 16 w7 fun r8 w9 => loopP (σ := Int × Unit) (fun st11 next10 w12 => (fun (i_13 : Int) => iteB (decide ((i_13 : Int) < r8))
  (nnP r_0 fun a14 => ldI .i64 (a14.add 2) w12 fun n15 => iteB ((n15 : Int) == 0)
  (c_preluderef01_Reader_Int r_0 w12 fun r16 w17 => ldS (a3.add 1) w17 fun s18 => newP #[.int .i64 r16] 2 w17 fun a19 w20 => apP Tryd.prog #[59, 59] 59 [.slice s18.a s18.l s18.c, .slice (some a19) 1 1] w20 fun s22 w21 => stP (a3.add 1) (.slice s22.a s22.l s22.c) w21 fun w23 => next10 ((IntKind.u64.wrap (i_13 + 1)), ()) w23)
  (c_preluderef06_keys r_0 16 w12 fun r24 w25 => stP (a3.add 2) (.slice r24.a r24.l r24.c) w25 fun w26 => c_preluderef06_keys r_0 16 w26 fun r27 w28 => stP (a3.add 3) (.slice r27.a r27.l r27.c) w28 fun w29 => ldI .i64 a3 w29 fun n30 => ldS (a3.add 1) w29 fun s31 => ldS (a3.add 2) w29 fun s32 => ldS (a3.add 3) w29 fun s33 => stP a1 (.int .i64 n30) w29 fun w34 => stP (a1.add 1) (.slice s31.a s31.l s31.c) w34 fun w35 => stP (a1.add 2) (.slice s32.a s32.l s32.c) w35 fun w36 => stP (a1.add 3) (.slice s33.a s33.l s33.c) w36 fun w37 => ldI .i64 a1 w37 fun n38 => ldS (a1.add 1) w37 fun s39 => ldS (a1.add 2) w37 fun s40 => ldS (a1.add 3) w37 fun s41 => K n38 s39 s40 s41 w37))
  (c_preluderef06_keys r_0 16 w12 fun r42 w43 => stP (a3.add 2) (.slice r42.a r42.l r42.c) w43 fun w44 => c_preluderef06_keys r_0 16 w44 fun r45 w46 => stP (a3.add 3) (.slice r45.a r45.l r45.c) w46 fun w47 => ldI .i64 a3 w47 fun n48 => ldS (a3.add 1) w47 fun s49 => ldS (a3.add 2) w47 fun s50 => ldS (a3.add 3) w47 fun s51 => stP a1 (.int .i64 n48) w47 fun w52 => stP (a1.add 1) (.slice s49.a s49.l s49.c) w52 fun w53 => stP (a1.add 2) (.slice s50.a s50.l s50.c) w53 fun w54 => stP (a1.add 3) (.slice s51.a s51.l s51.c) w54 fun w55 => ldI .i64 a1 w55 fun n56 => ldS (a1.add 1) w55 fun s57 => ldS (a1.add 2) w55 fun s58 => ldS (a1.add 3) w55 fun s59 => K n56 s57 s58 s59 w55)) st11.1) (0, ()) w9

def c_preluderef06_one (r_0 : Option Addr) (w : World) (K : Int → Slc → Slc → Slc → World → Prop) : Prop := Calls Tryd.prog 13 #[.pointer r_0] w (onRet (fun v w' => ∃ (y0 : Int), ∃ (y1 : Slc), ∃ (y2 : Slc), ∃ (y3 : Slc), v = .agg #[.int .i64 y0, .slice y1.a y1.l y1.c, .slice y2.a y2.l y2.c, .slice y3.a y3.l y3.c] ∧ K y0 y1 y2 y3 w'))

theorem sim_preluderef06_one {r_0 : Option Addr} {w : World} {K : Int → Slc → Slc → Slc → World → Prop} (h : sh_preluderef06_one c_preluderef01_Reader_Upto c_preluderef01_Reader_Int c_preluderef06_keys r_0 w K) : c_preluderef06_one r_0 w K := by
  have e : sh_preluderef06_one c_preluderef01_Reader_Upto c_preluderef01_Reader_Int c_preluderef06_keys r_0 w K = shF Tryd.prog 13 ⟨[], [(5, [(5, (.int .u64))], [0, 2, 3, 4])], []⟩ [.pointer r_0] w (fun v w' => decA [(.int .i64), .sl, .sl, .sl] v fun s => (fun (y0 : Int) (y1 : Slc) (y2 : Slc) (y3 : Slc) => K y0 y1 y2 y3 w') s.1 s.2.1 s.2.2.1 s.2.2.2.1) := by kernel_rfl
  exact Calls.mono (calls_of _ e h) (onRet_mono (fun _ _ h => by obtain ⟨s, h1, h2⟩ := decA_spec h; exact ⟨s.1, s.2.1, s.2.2.1, s.2.2.2.1, h1, h2⟩))

-- 14 (*prelude/preluderef01.Reader).End; callees []
def sh_preluderef01_Reader_End (r_0 : Option Addr) (w : World) (K : Int → World → Prop) : Prop :=
  nnP r_0 fun a1 => ldI .i64 (a1.add 2) w.drew fun n2 => iteB ((n2 : Int) == 0)
  (nnP r_0 fun a3 => ldI .i64 (a3.add 1) w.drew fun n4 => nnP r_0 fun a5 => ldS a5 w.drew fun s6 => iteB (decide ((n4 : Int) < (s6.l : Int)))
  (K 11 w.drew)
  (nnP r_0 fun a7 => ldI .i64 (a7.add 2) w.drew fun n8 => K n8 w.drew))
  (nnP r_0 fun a9 => ldI .i64 (a9.add 2) w.drew fun n10 => K n10 w.drew)

def c_preluderef01_Reader_End (r_0 : Option Addr) (w : World) (K : Int → World → Prop) : Prop := Calls Tryd.prog 14 #[.pointer r_0] w (onRet (fun v w' => ∃ (y0 : Int), v = .int .i64 y0 ∧ K y0 w'))

theorem sim_preluderef01_Reader_End {r_0 : Option Addr} {w : World} {K : Int → World → Prop} (h : sh_preluderef01_Reader_End r_0 w K) : c_preluderef01_Reader_End r_0 w K := by
  have e : sh_preluderef01_Reader_End r_0 w K = shF Tryd.prog 14 ⟨[(1, .of [0, 1, 2, 3, 4, 5, 6, 7, 8, 9, 10, 11, 12, 13, 14, 15, 16])], [], []⟩ [.pointer r_0] w (fun v w' => decV (.int .i64) v fun y0 => K y0 w') := by kernel_rfl
  exact Calls.mono (calls_of _ e h) (onRet_mono (fun _ _ h => decV_spec h))

-- 6 prelude/preluderef06.Decode; callees ['preluderef01_Reader_Upto', 'preluderef06_one', 'preluderef01_Reader_End']
def sh_preluderef06_Decode (c_preluderef01_Reader_Upto : Option Addr → Int → World → (Int → World → Prop) → Prop) (c_preluderef06_one : Option Addr → World → (Int → Slc → Slc → Slc → World → Prop) → Prop) (c_preluderef01_Reader_End : Option Addr → World → (Int → World → Prop) → Prop) (data_0 : Slc) (w : World) (K : Slc → Int → Int → World → Prop) : Prop :=
  newP #[.slice data_0.a data_0.l data_0.c, .int .i64 0, .int .i64 0] 56 w fun a1 w2 => c_preluderef01_Reader_Upto (some a1) 64 w2 fun r3 w4 => loopP (σ := Slc × Int × Unit) (fun st6 next5 w7 => (fun (b_8 : Slc) (i_9 : Int) => iteB (decide ((i_9 : Int) < r3))
  (nnP (some a1) fun a10 => ldI .i64 (a10.add 2) w7 fun n11 => iteB ((n11 : Int) == 0)
  (c_preluderef06_one (some a1) w7 fun r12 r13 r14 r15 w16 => newP #[.int .i64 0, .slice none 0 0, .slice none 0 0, .slice none 0 0] 62 w16 fun a17 w18 => stP a17 (.int .i64 r12) w18 fun w19 => stP (a17.add 1) (.slice r13.a r13.l r13.c) w19 fun w20 => stP (a17.add 2) (.slice r14.a r14.l r14.c) w20 fun w21 => stP (a17.add 3) (.slice r15.a r15.l r15.c) w21 fun w22 => ldI .i64 a17 w22 fun n23 => ldS (a17.add 1) w22 fun s24 => ldS (a17.add 2) w22 fun s25 => ldS (a17.add 3) w22 fun s26 => newP #[.int .i64 n23, .slice s24.a s24.l s24.c, .slice s25.a s25.l s25.c, .slice s26.a s26.l s26.c] 62 w22 fun a27 w28 => apP Tryd.prog #[25, 25] 25 [.slice b_8.a b_8.l b_8.c, .slice (some a27) 1 1] w28 fun s30 w29 => next5 (s30, (IntKind.u64.wrap (i_9 + 1)), ()) w29)
  (c_preluderef01_Reader_End (some a1) w7 fun r31 w32 => iteB ((r31 : Int) != 0)
  (nnP (some a1) fun a33 => ldI .i64 (a33.add 1) w32.drew fun n34 => K ⟨none, 0, 0⟩ n34 r31 w32.drew)
  (K b_8 0 0 w32)))
  (c_preluderef01_Reader_End (some a1) w7 fun r35 w36 => iteB ((r35 : Int) != 0)
  (nnP (some a1) fun a37 => ldI .i64 (a37.add 1) w36.drew fun n38 => K ⟨none, 0, 0⟩ n38 r35 w36.drew)
  (K b_8 0 0 w36))) st6.1 st6.2.1) (⟨none, 0, 0⟩, 0, ()) w4

def c_preluderef06_Decode (data_0 : Slc) (w : World) (K : Slc → Int → Int → World → Prop) : Prop := Calls Tryd.prog 6 #[.slice data_0.a data_0.l data_0.c] w (onRet (fun v w' => ∃ (y0 : Slc), ∃ (y1 : Int), ∃ (y2 : Int), v = .tuple #[.slice y0.a y0.l y0.c, .int .i64 y1, .int .i64 y2] ∧ K y0 y1 y2 w'))

theorem sim_preluderef06_Decode {data_0 : Slc} {w : World} {K : Slc → Int → Int → World → Prop} (h : sh_preluderef06_Decode c_preluderef01_Reader_Upto c_preluderef06_one c_preluderef01_Reader_End data_0 w K) : c_preluderef06_Decode data_0 w K := by
  have e : sh_preluderef06_Decode c_preluderef01_Reader_Upto c_preluderef06_one c_preluderef01_Reader_End data_0 w K = shF Tryd.prog 6 ⟨[(11, .of [0, 1, 2, 3, 4, 5, 6, 7])], [(5, [(7, .sl), (8, (.int .u64))], [5, 6])], []⟩ [.slice data_0.a data_0.l data_0.c] w (fun v w' => decT [(false, [.sl]), (false, [(.int .i64)]), (false, [(.int .i64)])] v fun s => (fun (y0 : Slc) (y1 : Int) (y2 : Int) => K y0 y1 y2 w') s.1 s.2.1 s.2.2.1) := by kernel_rfl
  exact Calls.mono (calls_of _ e h) (onRet_mono (fun _ _ h => by obtain ⟨s, h1, h2⟩ := decT_spec h; exact ⟨s.1, s.2.1, s.2.2.1, h1, h2⟩))

-- 7 prelude/preludelaw06.told; callees []
def c_preludelaw06_told (err_0 : Value) (w : World) (K : Bool → Int → Int → World → Prop) : Prop := Calls Tryd.prog 7 #[err_0] w (onRet (fun v w' => ∃ (y0 : Bool), ∃ (y1 : Int), ∃ (y2 : Int), v = .tuple #[.bool y0, .int .i64 y1, .int .i64 y2] ∧ K y0 y1 y2 w'))

-- 63 prelude/preluderef02.Check; callees []
def sh_preluderef02_Check (k_0_0 : Int) (k_0_1 : Int) (w : World) (K : Int → World → Prop) : Prop :=
  newP #[.int .i64 k_0_0, .int .i64 k_0_1] 100 w fun a1 w2 => ldI .i64 a1 w2 fun n3 => iteB (decide ((n3 : Int) < 0))
  (K 20 w2)
  (ldI .i64 a1 w2 fun n4 => iteB (decide ((n4 : Int) > 65535))
  (K 20 w2)
  (K 0 w2))

def c_preluderef02_Check (k_0_0 : Int) (k_0_1 : Int) (w : World) (K : Int → World → Prop) : Prop := Calls Tryd.prog 63 #[.agg #[.int .i64 k_0_0, .int .i64 k_0_1]] w (onRet (fun v w' => ∃ (y0 : Int), v = .int .i64 y0 ∧ K y0 w'))

theorem sim_preluderef02_Check {k_0_0 : Int} {k_0_1 : Int} {w : World} {K : Int → World → Prop} (h : sh_preluderef02_Check k_0_0 k_0_1 w K) : c_preluderef02_Check k_0_0 k_0_1 w K := by
  have e : sh_preluderef02_Check k_0_0 k_0_1 w K = shF Tryd.prog 63 ⟨[], [], []⟩ [.agg #[.int .i64 k_0_0, .int .i64 k_0_1]] w (fun v w' => decV (.int .i64) v fun y0 => K y0 w') := by kernel_rfl
  exact Calls.mono (calls_of _ e h) (onRet_mono (fun _ _ h => decV_spec h))

-- 58 prelude/preluderef02.all; callees ['preluderef02_Check']
def sh_preluderef02_all (c_preluderef02_Check : Int → Int → World → (Int → World → Prop) → Prop) (l_0 : Slc) (w : World) (K : Bool → World → Prop) : Prop :=
  loopP (σ := Int × Unit) (fun st2 next1 w3 => (fun (i_4 : Int) => iteB (decide ((i_4 : Int) < (l_0.l : Int)))
  (idxP l_0.a l_0.l i_4 2 fun a5 => ldI .i64 a5 w3 fun n6 => ldI .i64 (a5.add 1) w3 fun n7 => c_preluderef02_Check n6 n7 w3 fun r8 w9 => iteB ((r8 : Int) != 0)
  (K false w9)
  (next1 ((IntKind.i64.wrap (i_4 + 1)), ()) w9))
  (K true w3)) st2.1) (0, ()) w

def c_preluderef02_all (l_0 : Slc) (w : World) (K : Bool → World → Prop) : Prop := Calls Tryd.prog 58 #[.slice l_0.a l_0.l l_0.c] w (onRet (fun v w' => ∃ (y0 : Bool), v = .bool y0 ∧ K y0 w'))

theorem sim_preluderef02_all {l_0 : Slc} {w : World} {K : Bool → World → Prop} (h : sh_preluderef02_all c_preluderef02_Check l_0 w K) : c_preluderef02_all l_0 w K := by
  have e : sh_preluderef02_all c_preluderef02_Check l_0 w K = shF Tryd.prog 58 ⟨[], [(2, [(3, (.int .i64))], [0])], []⟩ [.slice l_0.a l_0.l l_0.c] w (fun v w' => decV .b v fun y0 => K y0 w') := by kernel_rfl
  exact Calls.mono (calls_of _ e h) (onRet_mono (fun _ _ h => decV_spec h))

-- 50 prelude/preluderef02.Rises; callees ['preluderef02_all', 'preluderef02_Compare']
def sh_preluderef02_Rises (c_preluderef02_all : Slc → World → (Bool → World → Prop) → Prop) (c_preluderef02_Compare : Int → Int → Int → Int → World → (Int → World → Prop) → Prop) (l_0 : Slc) (w : World) (K : Bool → World → Prop) : Prop :=
  c_preluderef02_all l_0 w fun r1 w2 => loopP (σ := Bool × Int × Unit) (fun st4 next3 w5 => (fun (ok_6 : Bool) (i_7 : Int) => iteB (decide ((i_7 : Int) < (l_0.l : Int)))
  (iteB ok_6
  (idxP l_0.a l_0.l (IntKind.i64.wrap (i_7 - 1)) 2 fun a8 => ldI .i64 a8 w5.drew fun n9 => ldI .i64 (a8.add 1) w5.drew fun n10 => idxP l_0.a l_0.l i_7 2 fun a11 => ldI .i64 a11 w5.drew fun n12 => ldI .i64 (a11.add 1) w5.drew fun n13 => c_preluderef02_Compare n9 n10 n12 n13 w5.drew fun r14 w15 => next3 ((decide ((r14 : Int) < 0)), (IntKind.i64.wrap (i_7 + 1)), ()) w15)
  (next3 (false, (IntKind.i64.wrap (i_7 + 1)), ()) w5.drew))
  (K ok_6 w5)) st4.1 st4.2.1) (r1, 1, ()) w2

def c_preluderef02_Rises (l_0 : Slc) (w : World) (K : Bool → World → Prop) : Prop := Calls Tryd.prog 50 #[.slice l_0.a l_0.l l_0.c] w (onRet (fun v w' => ∃ (y0 : Bool), v = .bool y0 ∧ K y0 w'))

theorem sim_preluderef02_Rises {l_0 : Slc} {w : World} {K : Bool → World → Prop} (h : sh_preluderef02_Rises c_preluderef02_all c_preluderef02_Compare l_0 w K) : c_preluderef02_Rises l_0 w K := by
  have e : sh_preluderef02_Rises c_preluderef02_all c_preluderef02_Compare l_0 w K = shF Tryd.prog 50 ⟨[(5, .of [0, 1, 2, 3, 4, 5, 6, 7, 8, 9, 10, 11, 12, 13, 14])], [(3, [(3, .b), (4, (.int .i64))], [0])], []⟩ [.slice l_0.a l_0.l l_0.c] w (fun v w' => decV .b v fun y0 => K y0 w') := by kernel_rfl
  exact Calls.mono (calls_of _ e h) (onRet_mono (fun _ _ h => decV_spec h))

-- 35 prelude/preluderef06.Formed; callees ['preluderef02_Rises']
def sh_preluderef06_Formed (c_preluderef02_Rises : Slc → World → (Bool → World → Prop) → Prop) (x_0_0 : Int) (x_0_1 : Slc) (x_0_2 : Slc) (x_0_3 : Slc) (w : World) (K : Int → World → Prop) : Prop :=
  newP #[.int .i64 x_0_0, .slice x_0_1.a x_0_1.l x_0_1.c, .slice x_0_2.a x_0_2.l x_0_2.c, .slice x_0_3.a x_0_3.l x_0_3.c] 62 w fun a1 w2 => ldI .i64 a1 w2 fun n3 => iteB (decide ((n3 : Int) < 0))
  (K 61 w2)
  (ldI .i64 a1 w2 fun n4 => iteB (decide ((n4 : Int) ≥ 64))
  (K 61 w2)
  (ldS (a1.add 1) w2 fun s5 => iteB (decide (((s5.l : Int) : Int) > 16))
  (K 62 w2)
  (ldS (a1.add 2) w2 fun s6 => iteB (decide (((s6.l : Int) : Int) > 16))
  (K 63 w2)
  (ldS (a1.add 3) w2 fun s7 => iteB (decide (((s7.l : Int) : Int) > 16))
  (K 64 w2)
  (ldS (a1.add 2) w2 fun s8 => c_preluderef02_Rises s8 w2 fun r9 w10 => ldS (a1.add 3) w10 fun s11 => c_preluderef02_Rises s11 w10 fun r12 w13 => iteB (!r9)
  (K 65 w13)
  (iteB (!r12)
  (K 65 w13)
  (K 0 w13)))))))

def c_preluderef06_Formed (x_0_0 : Int) (x_0_1 : Slc) (x_0_2 : Slc) (x_0_3 : Slc) (w : World) (K : Int → World → Prop) : Prop := Calls Tryd.prog 35 #[.agg #[.int .i64 x_0_0, .slice x_0_1.a x_0_1.l x_0_1.c, .slice x_0_2.a x_0_2.l x_0_2.c, .slice x_0_3.a x_0_3.l x_0_3.c]] w (onRet (fun v w' => ∃ (y0 : Int), v = .int .i64 y0 ∧ K y0 w'))

theorem sim_preluderef06_Formed {x_0_0 : Int} {x_0_1 : Slc} {x_0_2 : Slc} {x_0_3 : Slc} {w : World} {K : Int → World → Prop} (h : sh_preluderef06_Formed c_preluderef02_Rises x_0_0 x_0_1 x_0_2 x_0_3 w K) : c_preluderef06_Formed x_0_0 x_0_1 x_0_2 x_0_3 w K := by
  have e : sh_preluderef06_Formed c_preluderef02_Rises x_0_0 x_0_1 x_0_2 x_0_3 w K = shF Tryd.prog 35 ⟨[], [], []⟩ [.agg #[.int .i64 x_0_0, .slice x_0_1.a x_0_1.l x_0_1.c, .slice x_0_2.a x_0_2.l x_0_2.c, .slice x_0_3.a x_0_3.l x_0_3.c]] w (fun v w' => decV (.int .i64) v fun y0 => K y0 w') := by kernel_rfl
  exact Calls.mono (calls_of _ e h) (onRet_mono (fun _ _ h => decV_spec h))

-- 16 prelude/preluderef06.Sound; callees ['preluderef06_Formed']
def sh_preluderef06_Sound (c_preluderef06_Formed : Int → Slc → Slc → Slc → World → (Int → World → Prop) → Prop) (lib_0 : Slc) (x_1_0 : Int) (x_1_1 : Slc) (x_1_2 : Slc) (x_1_3 : Slc) (w : World) (K : Int → World → Prop) : Prop :=
  newP #[.int .i64 x_1_0, .slice x_1_1.a x_1_1.l x_1_1.c, .slice x_1_2.a x_1_2.l x_1_2.c, .slice x_1_3.a x_1_3.l x_1_3.c] 62 w fun a1 w2 => ldI .i64 a1 w2 fun n3 => iteB (decide ((n3 : Int) < 0))
  (K 61 w2)
  (ldI .i64 a1 w2 fun n4 => iteB (decide ((n4 : Int) ≥ (lib_0.l : Int)))
  (K 61 w2)
  (ldI .i64 a1 w2 fun n5 => idxP lib_0.a lib_0.l n5 6 fun a6 => ldI .i64 (a6.add 1) w2 fun n7 => ldI .i64 ((a6.add 1).add 1) w2 fun n8 => ldI .i64 ((a6.add 1).add 2) w2 fun n9 => ldI .i64 ((a6.add 1).add 3) w2 fun n10 => ldS ((a6.add 1).add 4) w2 fun s11 => newP #[.int .i64 0, .int .i64 0, .int .i64 0, .int .i64 0, .slice none 0 0] 40 w2 fun a12 w13 => stP a12 (.int .i64 n7) w13 fun w14 => stP (a12.add 1) (.int .i64 n8) w14 fun w15 => stP (a12.add 2) (.int .i64 n9) w15 fun w16 => stP (a12.add 3) (.int .i64 n10) w16 fun w17 => stP (a12.add 4) (.slice s11.a s11.l s11.c) w17 fun w18 => ldS (a1.add 1) w18 fun s19 => ldI .i64 a12 w18 fun n20 => iteB (((s19.l : Int) : Int) != n20)
  (K 62 w18)
  (ldS (a1.add 2) w18 fun s21 => ldI .i64 (a12.add 1) w18 fun n22 => iteB (((s21.l : Int) : Int) != n22)
  (K 63 w18)
  (ldS (a1.add 3) w18 fun s23 => ldI .i64 (a12.add 2) w18 fun n24 => iteB (((s23.l : Int) : Int) != n24)
  (K 64 w18)
  (ldI .i64 a1 w18 fun n25 => ldS (a1.add 1) w18 fun s26 => ldS (a1.add 2) w18 fun s27 => ldS (a1.add 3) w18 fun s28 => c_preluderef06_Formed n25 s26 s27 s28 w18 fun r29 w30 => K r29 w30)))))

def c_preluderef06_Sound (lib_0 : Slc) (x_1_0 : Int) (x_1_1 : Slc) (x_1_2 : Slc) (x_1_3 : Slc) (w : World) (K : Int → World → Prop) : Prop := Calls Tryd.prog 16 #[.slice lib_0.a lib_0.l lib_0.c, .agg #[.int .i64 x_1_0, .slice x_1_1.a x_1_1.l x_1_1.c, .slice x_1_2.a x_1_2.l x_1_2.c, .slice x_1_3.a x_1_3.l x_1_3.c]] w (onRet (fun v w' => ∃ (y0 : Int), v = .int .i64 y0 ∧ K y0 w'))

theorem sim_preluderef06_Sound {lib_0 : Slc} {x_1_0 : Int} {x_1_1 : Slc} {x_1_2 : Slc} {x_1_3 : Slc} {w : World} {K : Int → World → Prop} (h : sh_preluderef06_Sound c_preluderef06_Formed lib_0 x_1_0 x_1_1 x_1_2 x_1_3 w K) : c_preluderef06_Sound lib_0 x_1_0 x_1_1 x_1_2 x_1_3 w K := by
  have e : sh_preluderef06_Sound c_preluderef06_Formed lib_0 x_1_0 x_1_1 x_1_2 x_1_3 w K = shF Tryd.prog 16 ⟨[], [], []⟩ [.slice lib_0.a lib_0.l lib_0.c, .agg #[.int .i64 x_1_0, .slice x_1_1.a x_1_1.l x_1_1.c, .slice x_1_2.a x_1_2.l x_1_2.c, .slice x_1_3.a x_1_3.l x_1_3.c]] w (fun v w' => decV (.int .i64) v fun y0 => K y0 w') := by kernel_rfl
  exact Calls.mono (calls_of _ e h) (onRet_mono (fun _ _ h => decV_spec h))

-- 8 prelude/preluderef06.Check; callees ['preluderef06_Sound']
def sh_preluderef06_Check (c_preluderef06_Sound : Slc → Int → Slc → Slc → Slc → World → (Int → World → Prop) → Prop) (lib_0 : Slc) (b_1 : Slc) (w : World) (K : Int → Int → World → Prop) : Prop :=
  iteB (decide (((b_1.l : Int) : Int) > 64))
  (K 0 60 w)
  (loopP (σ := Int × Unit) (fun st2 next1 w3 => (fun (i_4 : Int) => iteB (decide ((i_4 : Int) < (b_1.l : Int)))
  (idxP b_1.a b_1.l i_4 4 fun a5 => ldI .i64 a5 w3 fun n6 => ldS (a5.add 1) w3 fun s7 => ldS (a5.add 2) w3 fun s8 => ldS (a5.add 3) w3 fun s9 => c_preluderef06_Sound lib_0 n6 s7 s8 s9 w3 fun r10 w11 => iteB ((r10 : Int) != 0)
  (K i_4 r10 w11)
  (next1 ((IntKind.i64.wrap (i_4 + 1)), ()) w11))
  (K 0 0 w3)) st2.1) (0, ()) w)

def c_preluderef06_Check (lib_0 : Slc) (b_1 : Slc) (w : World) (K : Int → Int → World → Prop) : Prop := Calls Tryd.prog 8 #[.slice lib_0.a lib_0.l lib_0.c, .slice b_1.a b_1.l b_1.c] w (onRet (fun v w' => ∃ (y0 : Int), ∃ (y1 : Int), v = .tuple #[.int .i64 y0, .int .i64 y1] ∧ K y0 y1 w'))

theorem sim_preluderef06_Check {lib_0 : Slc} {b_1 : Slc} {w : World} {K : Int → Int → World → Prop} (h : sh_preluderef06_Check c_preluderef06_Sound lib_0 b_1 w K) : c_preluderef06_Check lib_0 b_1 w K := by
  have e : sh_preluderef06_Check c_preluderef06_Sound lib_0 b_1 w K = shF Tryd.prog 8 ⟨[], [(4, [(6, (.int .i64))], [0, 1])], []⟩ [.slice lib_0.a lib_0.l lib_0.c, .slice b_1.a b_1.l b_1.c] w (fun v w' => decT [(false, [(.int .i64)]), (false, [(.int .i64)])] v fun s => (fun (y0 : Int) (y1 : Int) => K y0 y1 w') s.1 s.2.1) := by kernel_rfl
  exact Calls.mono (calls_of _ e h) (onRet_mono (fun _ _ h => by obtain ⟨s, h1, h2⟩ := decT_spec h; exact ⟨s.1, s.2.1, h1, h2⟩))

-- 17 prelude/preludelaw06.sameInts; callees []
def sh_preludelaw06_sameInts (a_0 : Slc) (b_1 : Slc) (w : World) (K : Bool → World → Prop) : Prop :=
  iteB (((a_0.l : Int) : Int) != (b_1.l : Int))
  (K false w)
  (loopP (σ := Int × Unit) (fun st2 next1 w3 => (fun (i_4 : Int) => iteB (decide ((i_4 : Int) < (a_0.l : Int)))
  (idxP a_0.a a_0.l i_4 1 fun a5 => ldI .i64 a5 w3.drew fun n6 => idxP b_1.a b_1.l i_4 1 fun a7 => ldI .i64 a7 w3.drew fun n8 => iteB ((n6 : Int) != n8)
  (K false w3.drew)
  (next1 ((IntKind.i64.wrap (i_4 + 1)), ()) w3.drew))
  (K true w3)) st2.1) (0, ()) w)

def c_preludelaw06_sameInts (a_0 : Slc) (b_1 : Slc) (w : World) (K : Bool → World → Prop) : Prop := Calls Tryd.prog 17 #[.slice a_0.a a_0.l a_0.c, .slice b_1.a b_1.l b_1.c] w (onRet (fun v w' => ∃ (y0 : Bool), v = .bool y0 ∧ K y0 w'))

theorem sim_preludelaw06_sameInts {a_0 : Slc} {b_1 : Slc} {w : World} {K : Bool → World → Prop} (h : sh_preludelaw06_sameInts a_0 b_1 w K) : c_preludelaw06_sameInts a_0 b_1 w K := by
  have e : sh_preludelaw06_sameInts a_0 b_1 w K = shF Tryd.prog 17 ⟨[(6, .of [0, 1, 2, 3, 4, 5, 6, 7, 8])], [(4, [(5, (.int .i64))], [0, 1])], []⟩ [.slice a_0.a a_0.l a_0.c, .slice b_1.a b_1.l b_1.c] w (fun v w' => decV .b v fun y0 => K y0 w') := by kernel_rfl
  exact Calls.mono (calls_of _ e h) (onRet_mono (fun _ _ h => decV_spec h))

-- 18 prelude/preludelaw06.sameKeys; callees []
def sh_preludelaw06_sameKeys (a_0 : Slc) (b_1 : Slc) (w : World) (K : Bool → World → Prop) : Prop :=
  iteB (((a_0.l : Int) : Int) != (b_1.l : Int))
  (K false w)
  (loopP (σ := Int × Unit) (fun st2 next1 w3 => (fun (i_4 : Int) => iteB (decide ((i_4 : Int) < (a_0.l : Int)))
  (idxP a_0.a a_0.l i_4 2 fun a5 => ldI .i64 a5 w3.drew fun n6 => ldI .i64 (a5.add 1) w3.drew fun n7 => idxP b_1.a b_1.l i_4 2 fun a8 => ldI .i64 a8 w3.drew fun n9 => ldI .i64 (a8.add 1) w3.drew fun n10 => (∃ (r11 : Bool), ∃ w12, (do eqGuard .neq 100 (.tmp 20) (.tmp 24) (.agg #[.int .i64 n6, .int .i64 n7]) (.agg #[.int .i64 n9, .int .i64 n10]); binOp .neq 100 (.agg #[.int .i64 n6, .int .i64 n7]) (.agg #[.int .i64 n9, .int .i64 n10])).run Tryd.prog w3.drew = .ok (.bool r11) w12 ∧ (iteB r11
  (K false w12)
  (next1 ((IntKind.i64.wrap (i_4 + 1)), ()) w12))))
  (K true w3)) st2.1) (0, ()) w)

def c_preludelaw06_sameKeys (a_0 : Slc) (b_1 : Slc) (w : World) (K : Bool → World → Prop) : Prop := Calls Tryd.prog 18 #[.slice a_0.a a_0.l a_0.c, .slice b_1.a b_1.l b_1.c] w (onRet (fun v w' => ∃ (y0 : Bool), v = .bool y0 ∧ K y0 w'))

theorem sim_preludelaw06_sameKeys {a_0 : Slc} {b_1 : Slc} {w : World} {K : Bool → World → Prop} (h : sh_preludelaw06_sameKeys a_0 b_1 w K) : c_preludelaw06_sameKeys a_0 b_1 w K := by
  have e : sh_preludelaw06_sameKeys a_0 b_1 w K = shF Tryd.prog 18 ⟨[(6, .of [0, 1, 2, 3, 4, 5, 6, 7, 8])], [(4, [(5, (.int .i64))], [0, 1])], []⟩ [.slice a_0.a a_0.l a_0.c, .slice b_1.a b_1.l b_1.c] w (fun v w' => decV .b v fun y0 => K y0 w') := by kernel_rfl
  exact Calls.mono (calls_of _ e h) (onRet_mono (fun _ _ h => decV_spec h))

-- 9 prelude/preludelaw06.sameBatch; callees ['preludelaw06_sameInts', 'preludelaw06_sameKeys']
def sh_preludelaw06_sameBatch (c_preludelaw06_sameInts : Slc → Slc → World → (Bool → World → Prop) → Prop) (c_preludelaw06_sameKeys : Slc → Slc → World → (Bool → World → Prop) → Prop) (a_0 : Slc) (b_1 : Slc) (w : World) (K : Bool → World → Prop) : Prop :=
  iteB (((a_0.l : Int) : Int) != (b_1.l : Int))
  (K false w)
  (loopP (σ := Int × Unit) (fun st2 next1 w3 => (fun (i_4 : Int) => iteB (decide ((i_4 : Int) < (a_0.l : Int)))
  (idxP a_0.a a_0.l i_4 4 fun a5 => ldI .i64 a5 w3 fun n6 => ldS (a5.add 1) w3 fun s7 => ldS (a5.add 2) w3 fun s8 => ldS (a5.add 3) w3 fun s9 => newP #[.int .i64 0, .slice none 0 0, .slice none 0 0, .slice none 0 0] 62 w3 fun a10 w11 => stP a10 (.int .i64 n6) w11 fun w12 => stP (a10.add 1) (.slice s7.a s7.l s7.c) w12 fun w13 => stP (a10.add 2) (.slice s8.a s8.l s8.c) w13 fun w14 => stP (a10.add 3) (.slice s9.a s9.l s9.c) w14 fun w15 => idxP b_1.a b_1.l i_4 4 fun a16 => ldI .i64 a16 w15 fun n17 => ldS (a16.add 1) w15 fun s18 => ldS (a16.add 2) w15 fun s19 => ldS (a16.add 3) w15 fun s20 => newP #[.int .i64 0, .slice none 0 0, .slice none 0 0, .slice none 0 0] 62 w15 fun a21 w22 => stP a21 (.int .i64 n17) w22 fun w23 => stP (a21.add 1) (.slice s18.a s18.l s18.c) w23 fun w24 => stP (a21.add 2) (.slice s19.a s19.l s19.c) w24 fun w25 => stP (a21.add 3) (.slice s20.a s20.l s20.c) w25 fun w26 => ldI .i64 a10 w26 fun n27 => ldI .i64 a21 w26 fun n28 => iteB ((n27 : Int) != n28)
  (K false w26)
  (ldS (a10.add 1) w26 fun s29 => ldS (a21.add 1) w26 fun s30 => c_preludelaw06_sameInts s29 s30 w26 fun r31 w32 => iteB (!r31)
  (K false w32)
  (ldS (a10.add 2) w32 fun s33 => ldS (a21.add 2) w32 fun s34 => c_preludelaw06_sameKeys s33 s34 w32 fun r35 w36 => iteB (!r35)
  (K false w36)
  (ldS (a10.add 3) w36 fun s37 => ldS (a21.add 3) w36 fun s38 => c_preludelaw06_sameKeys s37 s38 w36 fun r39 w40 => iteB (!r39)
  (K false w40)
  (next1 ((IntKind.i64.wrap (i_4 + 1)), ()) w40)))))
  (K true w3)) st2.1) (0, ()) w)

def c_preludelaw06_sameBatch (a_0 : Slc) (b_1 : Slc) (w : World) (K : Bool → World → Prop) : Prop := Calls Tryd.prog 9 #[.slice a_0.a a_0.l a_0.c, .slice b_1.a b_1.l b_1.c] w (onRet (fun v w' => ∃ (y0 : Bool), v = .bool y0 ∧ K y0 w'))

theorem sim_preludelaw06_sameBatch {a_0 : Slc} {b_1 : Slc} {w : World} {K : Bool → World → Prop} (h : sh_preludelaw06_sameBatch c_preludelaw06_sameInts c_preludelaw06_sameKeys a_0 b_1 w K) : c_preludelaw06_sameBatch a_0 b_1 w K := by
  have e : sh_preludelaw06_sameBatch c_preludelaw06_sameInts c_preludelaw06_sameKeys a_0 b_1 w K = shF Tryd.prog 9 ⟨[], [(4, [(5, (.int .i64))], [0, 1])], []⟩ [.slice a_0.a a_0.l a_0.c, .slice b_1.a b_1.l b_1.c] w (fun v w' => decV .b v fun y0 => K y0 w') := by kernel_rfl
  exact Calls.mono (calls_of _ e h) (onRet_mono (fun _ _ h => decV_spec h))

-- 3 prelude/preludelaw06.BatchAccepts; callees ['preluderef04_Parts', 'batch_Accept', 'preluderef06_Decode', 'preludelaw06_told', 'preluderef06_Check', 'preludelaw06_sameBatch']
def sh_preludelaw06_BatchAccepts (c_preluderef04_Parts : Slc → Int → World → (Int → World → Prop) → Prop) (c_batch_Accept : Slc → Slc → World → (Slc → Value → World → Prop) → Prop) (c_preluderef06_Decode : Slc → World → (Slc → Int → Int → World → Prop) → Prop) (c_preludelaw06_told : Value → World → (Bool → Int → Int → World → Prop) → Prop) (c_preluderef06_Check : Slc → Slc → World → (Int → Int → World → Prop) → Prop) (c_preludelaw06_sameBatch : Slc → Slc → World → (Bool → World → Prop) → Prop) (x_0 : Slc) (x_1 : Slc) (w : World) (K : Bool → World → Prop) : Prop :=
  c_preluderef04_Parts x_0 100000 w fun r1 w2 => iteB (decide ((r1 : Int) < 0))
  (K true w2)
  (newP #[] 5 w2 fun a3 w4 => apP Tryd.prog #[23, 23] 23 [.slice (some a3) 0 0, .slice x_1.a x_1.l x_1.c] w4 fun s6 w5 => c_batch_Accept x_0 s6 w5 fun r7 r8 w9 => c_preluderef06_Decode x_1 w9 fun r10 r11 r12 w13 => c_preludelaw06_told r8 w13 fun r14 r15 r16 w17 => iteB ((r12 : Int) != 0)
  (iteB (((r7.l : Int) : Int) == 0)
  (iteB r14
  (iteB ((r15 : Int) == r11)
  (K ((r16 : Int) == r12) w17)
  (K false w17))
  (K false w17))
  (K false w17))
  (c_preluderef06_Check x_0 r10 w17 fun r18 r19 w20 => iteB ((r19 : Int) != 0)
  (iteB (((r7.l : Int) : Int) == 0)
  (iteB (!r14)
  (iteB ((r15 : Int) == r18)
  (K ((r16 : Int) == r19) w20)
  (K false w20))
  (K false w20))
  (K false w20))
  (nilI r8 fun b21 => iteB b21
  (c_preludelaw06_sameBatch r7 r10 w20 fun r22 w23 => K r22 w23)
  (K false w20))))

def c_preludelaw06_BatchAccepts (x_0 : Slc) (x_1 : Slc) (w : World) (K : Bool → World → Prop) : Prop := Calls Tryd.prog 3 #[.slice x_0.a x_0.l x_0.c, .slice x_1.a x_1.l x_1.c] w (onRet (fun v w' => ∃ (y0 : Bool), v = .bool y0 ∧ K y0 w'))

theorem sim_preludelaw06_BatchAccepts {x_0 : Slc} {x_1 : Slc} {w : World} {K : Bool → World → Prop} (h : sh_preludelaw06_BatchAccepts c_preluderef04_Parts c_batch_Accept c_preluderef06_Decode c_preludelaw06_told c_preluderef06_Check c_preludelaw06_sameBatch x_0 x_1 w K) : c_preludelaw06_BatchAccepts x_0 x_1 w K := by
  have e : sh_preludelaw06_BatchAccepts c_preluderef04_Parts c_batch_Accept c_preluderef06_Decode c_preludelaw06_told c_preluderef06_Check c_preludelaw06_sameBatch x_0 x_1 w K = shF Tryd.prog 3 ⟨[], [], []⟩ [.slice x_0.a x_0.l x_0.c, .slice x_1.a x_1.l x_1.c] w (fun v w' => decV .b v fun y0 => K y0 w') := by kernel_rfl
  exact Calls.mono (calls_of _ e h) (onRet_mono (fun _ _ h => decV_spec h))

-- 19 prelude/batch.Decode$1; callees []
def shN_batch_Decode_1 (cap_0 : Addr) (cap_1 : Addr) (cap_2 : Addr) (w : World) (K : World → Prop) : Prop :=
  K w

theorem simN_batch_Decode_1 {cap_0 : Addr} {cap_1 : Addr} {cap_2 : Addr} {w : World} {K : World → Prop} (h : shN_batch_Decode_1 cap_0 cap_1 cap_2 w K) : CallsD Tryd.prog 19 #[.pointer (some cap_0), .pointer (some cap_1), .pointer (some cap_2)] .returning w (fun en u' w' => u' = (recov .returning).2 ∧ onRet (fun v w' => v = .tuple #[] ∧ K w') en w') := by
  have e : shN_batch_Decode_1 cap_0 cap_1 cap_2 w K = shFR Tryd.prog 19 ⟨[], [], []⟩ [.pointer (some cap_0), .pointer (some cap_1), .pointer (some cap_2)] (recov .returning).1 w (fun v w' => decU v (K w')) := by kernel_rfl
  exact CallsD.mono (callsR_of (u := .returning) _ e h) (fun en u' w' hx => ⟨hx.1, onRet_mono (fun _ _ h => decU_spec h) _ _ hx.2⟩)

def shR_batch_Decode_1 (x_0 : Int) (x_1 : Int) (cap_0 : Addr) (cap_1 : Addr) (cap_2 : Addr) (w : World) (K : World → Prop) : Prop :=
  (∃ (r1 : Int), ∃ (r2 : Int), ∃ (r3 : Bool), ∃ w4, (Instr.typeAssert (.iface 71 (.agg #[.int .i64 x_0, .int .i64 x_1])) 20 71 true).run Tryd.prog w = .ok (.tuple #[.agg #[.int .i64 r1, .int .i64 r2], .bool r3]) w4 ∧ (newP #[.int .i64 0, .int .i64 0] 71 w4 fun a5 w6 => stP a5 (.int .i64 r1) w6 fun w7 => stP (a5.add 1) (.int .i64 r2) w7 fun w8 => iteB (!r3)
  (panP (.iface 71 (.agg #[.int .i64 x_0, .int .i64 x_1])) noP w8)
  (ldI .i64 a5 w8.drew fun n9 => ldI .i64 (a5.add 1) w8.drew fun n10 => stP cap_0 (.slice none 0 0) w8.drew fun w11 => w11.cell? (a5.add 1) = some (.int .i64 n10) ∧ w11.cell? a5 = some (.int .i64 n9) ∧ (stP cap_1 (.int .i64 n9) w11 fun w12 => w12.cell? (a5.add 1) = some (.int .i64 n10) ∧ (stP cap_2 (.int .i64 n10) w12 fun w13 => K w13)))))

theorem simR_batch_Decode_1 {x_0 : Int} {x_1 : Int} {cap_0 : Addr} {cap_1 : Addr} {cap_2 : Addr} {older : List PanicEntry} {w : World} {K : World → Prop} (h : shR_batch_Decode_1 x_0 x_1 cap_0 cap_1 cap_2 w K) : CallsD Tryd.prog 19 #[.pointer (some cap_0), .pointer (some cap_1), .pointer (some cap_2)] (.panicking ({ v := .iface 71 (.agg #[.int .i64 x_0, .int .i64 x_1]), recovered := false, goexit := false } :: older)) w (fun en u' w' => u' = (recov (.panicking ({ v := .iface 71 (.agg #[.int .i64 x_0, .int .i64 x_1]), recovered := false, goexit := false } :: older))).2 ∧ onRet (fun v w' => v = .tuple #[] ∧ K w') en w') := by
  have e : shR_batch_Decode_1 x_0 x_1 cap_0 cap_1 cap_2 w K = shFR Tryd.prog 19 ⟨[(5, .of [0, 1, 2, 3, 4, 5, 6])], [], []⟩ [.pointer (some cap_0), .pointer (some cap_1), .pointer (some cap_2)] (recov (.panicking ({ v := .iface 71 (.agg #[.int .i64 x_0, .int .i64 x_1]), recovered := false, goexit := false } :: older))).1 w (fun v w' => decU v (K w')) := by kernel_rfl
  exact CallsD.mono (callsR_of (u := (.panicking ({ v := .iface 71 (.agg #[.int .i64 x_0, .int .i64 x_1]), recovered := false, goexit := false } :: older))) _ e h) (fun en u' w' hx => ⟨hx.1, onRet_mono (fun _ _ h => decU_spec h) _ _ hx.2⟩)

-- 62 prelude/keys.Check; callees []
def sh_keys_Check (k_0_0 : Int) (k_0_1 : Int) (w : World) (K : Int → World → Prop) : Prop :=
  newP #[.int .i64 k_0_0, .int .i64 k_0_1] 100 w fun a1 w2 => ldI .i64 a1 w2 fun n3 => iteB (decide ((n3 : Int) < 0))
  (K 20 w2)
  (ldI .i64 a1 w2 fun n4 => iteB (decide ((n4 : Int) > 65535))
  (K 20 w2)
  (K 0 w2))

def c_keys_Check (k_0_0 : Int) (k_0_1 : Int) (w : World) (K : Int → World → Prop) : Prop := Calls Tryd.prog 62 #[.agg #[.int .i64 k_0_0, .int .i64 k_0_1]] w (onRet (fun v w' => ∃ (y0 : Int), v = .int .i64 y0 ∧ K y0 w'))

theorem sim_keys_Check {k_0_0 : Int} {k_0_1 : Int} {w : World} {K : Int → World → Prop} (h : sh_keys_Check k_0_0 k_0_1 w K) : c_keys_Check k_0_0 k_0_1 w K := by
  have e : sh_keys_Check k_0_0 k_0_1 w K = shF Tryd.prog 62 ⟨[], [], []⟩ [.agg #[.int .i64 k_0_0, .int .i64 k_0_1]] w (fun v w' => decV (.int .i64) v fun y0 => K y0 w') := by kernel_rfl
  exact Calls.mono (calls_of _ e h) (onRet_mono (fun _ _ h => decV_spec h))

-- 57 prelude/keys.Rises; callees ['keys_Check', 'keys_Compare']
def sh_keys_Rises (c_keys_Check : Int → Int → World → (Int → World → Prop) → Prop) (c_keys_Compare : Int → Int → Int → Int → World → (Int → World → Prop) → Prop) (l_0 : Slc) (w : World) (K : Bool → World → Prop) : Prop :=
  loopP (σ := Int × Unit) (fun st2 next1 w3 => (fun (x4 : Int) => iteB (decide ((x4 : Int) < (l_0.l : Int)))
  (idxP l_0.a l_0.l x4 2 fun a5 => ldI .i64 a5 w3 fun n6 => ldI .i64 (a5.add 1) w3 fun n7 => newP #[.int .i64 0, .int .i64 0] 100 w3 fun a8 w9 => stP a8 (.int .i64 n6) w9 fun w10 => stP (a8.add 1) (.int .i64 n7) w10 fun w11 => ldI .i64 a8 w11.drew fun n12 => ldI .i64 (a8.add 1) w11.drew fun n13 => c_keys_Check n12 n13 w11.drew fun r14 w15 => iteB ((r14 : Int) != 0)
  (K false w15)
  (iteB (decide ((x4 : Int) > 0))
  (idxP l_0.a l_0.l (IntKind.i64.wrap (x4 - 1)) 2 fun a16 => ldI .i64 a16 w15 fun n17 => ldI .i64 (a16.add 1) w15 fun n18 => ldI .i64 a8 w15 fun n19 => ldI .i64 (a8.add 1) w15 fun n20 => c_keys_Compare n17 n18 n19 n20 w15 fun r21 w22 => iteB (decide ((r21 : Int) ≥ 0))
  (K false w22)
  (next1 ((IntKind.i64.wrap (x4 + 1)), ()) w22))
  (next1 ((IntKind.i64.wrap (x4 + 1)), ()) w15)))
  (K true w3)) st2.1) (0, ()) w

def c_keys_Rises (l_0 : Slc) (w : World) (K : Bool → World → Prop) : Prop := Calls Tryd.prog 57 #[.slice l_0.a l_0.l l_0.c] w (onRet (fun v w' => ∃ (y0 : Bool), v = .bool y0 ∧ K y0 w'))

theorem sim_keys_Rises {l_0 : Slc} {w : World} {K : Bool → World → Prop} (h : sh_keys_Rises c_keys_Check c_keys_Compare l_0 w K) : c_keys_Rises l_0 w K := by
  have e : sh_keys_Rises c_keys_Check c_keys_Compare l_0 w K = shF Tryd.prog 57 ⟨[(4, .of [0, 1, 2, 3, 4, 5, 6, 7, 8, 9, 10, 11, 12, 13, 14, 15, 16])], [(2, [(7, (.int .i64))], [0, 5, 6])], []⟩ [.slice l_0.a l_0.l l_0.c] w (fun v w' => decV .b v fun y0 => K y0 w') := by kernel_rfl
  exact Calls.mono (calls_of _ e h) (onRet_mono (fun _ _ h => decV_spec h))

-- 41 prelude/batch.formed; callees ['keys_Rises']
def sh_batch_formed (c_keys_Rises : Slc → World → (Bool → World → Prop) → Prop) (x_0_0 : Int) (x_0_1 : Slc) (x_0_2 : Slc) (x_0_3 : Slc) (w : World) (K : Int → World → Prop) : Prop :=
  newP #[.int .i64 x_0_0, .slice x_0_1.a x_0_1.l x_0_1.c, .slice x_0_2.a x_0_2.l x_0_2.c, .slice x_0_3.a x_0_3.l x_0_3.c] 62 w fun a1 w2 => ldI .i64 a1 w2 fun n3 => iteB (decide ((n3 : Int) < 0))
  (K 61 w2)
  (ldI .i64 a1 w2 fun n4 => iteB (decide ((n4 : Int) ≥ 64))
  (K 61 w2)
  (ldS (a1.add 1) w2 fun s5 => iteB (decide (((s5.l : Int) : Int) > 16))
  (K 62 w2)
  (ldS (a1.add 2) w2 fun s6 => iteB (decide (((s6.l : Int) : Int) > 16))
  (K 63 w2)
  (ldS (a1.add 3) w2 fun s7 => iteB (decide (((s7.l : Int) : Int) > 16))
  (K 64 w2)
  (ldS (a1.add 2) w2 fun s8 => c_keys_Rises s8 w2 fun r9 w10 => iteB (!r9)
  (K 65 w10)
  (ldS (a1.add 3) w10 fun s11 => c_keys_Rises s11 w10 fun r12 w13 => iteB (!r12)
  (K 65 w13)
  (K 0 w13)))))))

def c_batch_formed (x_0_0 : Int) (x_0_1 : Slc) (x_0_2 : Slc) (x_0_3 : Slc) (w : World) (K : Int → World → Prop) : Prop := Calls Tryd.prog 41 #[.agg #[.int .i64 x_0_0, .slice x_0_1.a x_0_1.l x_0_1.c, .slice x_0_2.a x_0_2.l x_0_2.c, .slice x_0_3.a x_0_3.l x_0_3.c]] w (onRet (fun v w' => ∃ (y0 : Int), v = .int .i64 y0 ∧ K y0 w'))

theorem sim_batch_formed {x_0_0 : Int} {x_0_1 : Slc} {x_0_2 : Slc} {x_0_3 : Slc} {w : World} {K : Int → World → Prop} (h : sh_batch_formed c_keys_Rises x_0_0 x_0_1 x_0_2 x_0_3 w K) : c_batch_formed x_0_0 x_0_1 x_0_2 x_0_3 w K := by
  have e : sh_batch_formed c_keys_Rises x_0_0 x_0_1 x_0_2 x_0_3 w K = shF Tryd.prog 41 ⟨[], [], []⟩ [.agg #[.int .i64 x_0_0, .slice x_0_1.a x_0_1.l x_0_1.c, .slice x_0_2.a x_0_2.l x_0_2.c, .slice x_0_3.a x_0_3.l x_0_3.c]] w (fun v w' => decV (.int .i64) v fun y0 => K y0 w') := by kernel_rfl
  exact Calls.mono (calls_of _ e h) (onRet_mono (fun _ _ h => decV_spec h))

-- 27 prelude/batch.fits; callees ['batch_formed']
def sh_batch_fits (c_batch_formed : Int → Slc → Slc → Slc → World → (Int → World → Prop) → Prop) (lib_0 : Slc) (x_1_0 : Int) (x_1_1 : Slc) (x_1_2 : Slc) (x_1_3 : Slc) (w : World) (K : Int → World → Prop) : Prop :=
  newP #[.int .i64 x_1_0, .slice x_1_1.a x_1_1.l x_1_1.c, .slice x_1_2.a x_1_2.l x_1_2.c, .slice x_1_3.a x_1_3.l x_1_3.c] 62 w fun a1 w2 => ldI .i64 a1 w2 fun n3 => iteB (decide ((n3 : Int) < 0))
  (K 61 w2)
  (ldI .i64 a1 w2 fun n4 => iteB (decide ((n4 : Int) ≥ (lib_0.l : Int)))
  (K 61 w2)
  (ldI .i64 a1 w2 fun n5 => idxP lib_0.a lib_0.l n5 6 fun a6 => ldI .i64 (a6.add 1) w2 fun n7 => ldI .i64 ((a6.add 1).add 1) w2 fun n8 => ldI .i64 ((a6.add 1).add 2) w2 fun n9 => ldI .i64 ((a6.add 1).add 3) w2 fun n10 => ldS ((a6.add 1).add 4) w2 fun s11 => newP #[.int .i64 0, .int .i64 0, .int .i64 0, .int .i64 0, .slice none 0 0] 40 w2 fun a12 w13 => stP a12 (.int .i64 n7) w13 fun w14 => stP (a12.add 1) (.int .i64 n8) w14 fun w15 => stP (a12.add 2) (.int .i64 n9) w15 fun w16 => stP (a12.add 3) (.int .i64 n10) w16 fun w17 => stP (a12.add 4) (.slice s11.a s11.l s11.c) w17 fun w18 => ldS (a1.add 1) w18 fun s19 => ldI .i64 a12 w18 fun n20 => iteB (((s19.l : Int) : Int) != n20)
  (K 62 w18)
  (ldS (a1.add 2) w18 fun s21 => ldI .i64 (a12.add 1) w18 fun n22 => iteB (((s21.l : Int) : Int) != n22)
  (K 63 w18)
  (ldS (a1.add 3) w18 fun s23 => ldI .i64 (a12.add 2) w18 fun n24 => iteB (((s23.l : Int) : Int) != n24)
  (K 64 w18)
  (ldI .i64 a1 w18 fun n25 => ldS (a1.add 1) w18 fun s26 => ldS (a1.add 2) w18 fun s27 => ldS (a1.add 3) w18 fun s28 => c_batch_formed n25 s26 s27 s28 w18 fun r29 w30 => K r29 w30)))))

def c_batch_fits (lib_0 : Slc) (x_1_0 : Int) (x_1_1 : Slc) (x_1_2 : Slc) (x_1_3 : Slc) (w : World) (K : Int → World → Prop) : Prop := Calls Tryd.prog 27 #[.slice lib_0.a lib_0.l lib_0.c, .agg #[.int .i64 x_1_0, .slice x_1_1.a x_1_1.l x_1_1.c, .slice x_1_2.a x_1_2.l x_1_2.c, .slice x_1_3.a x_1_3.l x_1_3.c]] w (onRet (fun v w' => ∃ (y0 : Int), v = .int .i64 y0 ∧ K y0 w'))

theorem sim_batch_fits {lib_0 : Slc} {x_1_0 : Int} {x_1_1 : Slc} {x_1_2 : Slc} {x_1_3 : Slc} {w : World} {K : Int → World → Prop} (h : sh_batch_fits c_batch_formed lib_0 x_1_0 x_1_1 x_1_2 x_1_3 w K) : c_batch_fits lib_0 x_1_0 x_1_1 x_1_2 x_1_3 w K := by
  have e : sh_batch_fits c_batch_formed lib_0 x_1_0 x_1_1 x_1_2 x_1_3 w K = shF Tryd.prog 27 ⟨[], [], []⟩ [.slice lib_0.a lib_0.l lib_0.c, .agg #[.int .i64 x_1_0, .slice x_1_1.a x_1_1.l x_1_1.c, .slice x_1_2.a x_1_2.l x_1_2.c, .slice x_1_3.a x_1_3.l x_1_3.c]] w (fun v w' => decV (.int .i64) v fun y0 => K y0 w') := by kernel_rfl
  exact Calls.mono (calls_of _ e h) (onRet_mono (fun _ _ h => decV_spec h))

-- 26 prelude/batch.Check$1; callees ['batch_fits']
def sh_batch_Check_1 (c_batch_fits : Slc → Int → Slc → Slc → Slc → World → (Int → World → Prop) → Prop) (x_0_0 : Int) (x_0_1 : Slc) (x_0_2 : Slc) (x_0_3 : Slc) (cap_0 : Addr) (w : World) (K : Int → World → Prop) : Prop :=
  newP #[.int .i64 x_0_0, .slice x_0_1.a x_0_1.l x_0_1.c, .slice x_0_2.a x_0_2.l x_0_2.c, .slice x_0_3.a x_0_3.l x_0_3.c] 62 w fun a1 w2 => ldS cap_0 w2 fun s3 => ldI .i64 a1 w2 fun n4 => ldS (a1.add 1) w2 fun s5 => ldS (a1.add 2) w2 fun s6 => ldS (a1.add 3) w2 fun s7 => c_batch_fits s3 n4 s5 s6 s7 w2 fun r8 w9 => K r8 w9

def c_batch_Check_1 (x_0_0 : Int) (x_0_1 : Slc) (x_0_2 : Slc) (x_0_3 : Slc) (cap_0 : Addr) (w : World) (K : Int → World → Prop) : Prop := Calls Tryd.prog 26 #[.agg #[.int .i64 x_0_0, .slice x_0_1.a x_0_1.l x_0_1.c, .slice x_0_2.a x_0_2.l x_0_2.c, .slice x_0_3.a x_0_3.l x_0_3.c], .pointer (some cap_0)] w (onRet (fun v w' => ∃ (y0 : Int), v = .int .i64 y0 ∧ K y0 w'))

theorem sim_batch_Check_1 {x_0_0 : Int} {x_0_1 : Slc} {x_0_2 : Slc} {x_0_3 : Slc} {cap_0 : Addr} {w : World} {K : Int → World → Prop} (h : sh_batch_Check_1 c_batch_fits x_0_0 x_0_1 x_0_2 x_0_3 cap_0 w K) : c_batch_Check_1 x_0_0 x_0_1 x_0_2 x_0_3 cap_0 w K := by
  have e : sh_batch_Check_1 c_batch_fits x_0_0 x_0_1 x_0_2 x_0_3 cap_0 w K = shF Tryd.prog 26 ⟨[], [], []⟩ [.agg #[.int .i64 x_0_0, .slice x_0_1.a x_0_1.l x_0_1.c, .slice x_0_2.a x_0_2.l x_0_2.c, .slice x_0_3.a x_0_3.l x_0_3.c], .pointer (some cap_0)] w (fun v w' => decV (.int .i64) v fun y0 => K y0 w') := by kernel_rfl
  exact Calls.mono (calls_of _ e h) (onRet_mono (fun _ _ h => decV_spec h))

end Go.Proofs.YtlnhecbgjjglfaaDoor
