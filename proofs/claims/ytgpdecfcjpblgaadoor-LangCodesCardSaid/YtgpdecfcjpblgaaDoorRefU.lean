/- RefU: the document's numbers as bytes (for seats without the laws of 01). -/
import Derived.Test.YtgpdecfcjpblgaaDoorWr
set_option linter.unusedVariables false
set_option linter.unusedSimpArgs false
namespace Go.Proofs.YtgpdecfcjpblgaaDoor
open Go Go.Sh Go.Pl Go.RowKit Go.Num
theorem wrap_tmod (m : Nat) : IntKind.u8.wrap ((IntKind.u8.wrap (Int.tmod (m : Int) 128)) + 128) = ((UInt8.ofNat (m % 128 + 128)).toNat : Int) := by
  have h1 : Int.tmod (m : Int) 128 = ((m % 128 : Nat) : Int) := by rw [Int.tmod_eq_emod_of_nonneg (by omega)]; omega
  rw [h1, wrap_u8 (x := ((m % 128 : Nat) : Int)) (by omega), ← wrap_u8_nat]
  congr 1
theorem refUint_ok {n : Nat} {w : World} {K : Slc → World → Prop} (hn : n < 18446744073709551616) (hK : ∀ s w', Own w' 5 1 s (U8 (encU n)) → Chg Nil w w' → NewS w.heap.size s → K s w') : c_preluderef01_Uint (n : Int) w K := by
  refine sim_preluderef01_Uint ?_
  unfold sh_preluderef01_Uint
  have hten := encU_ten n hn
  refine loopP_inv (fun st w1 => ∃ (m : Nat) (pre : List UInt8), st.1 = (m : Int) ∧ m < 18446744073709551616 ∧ pre ++ encU m = encU n ∧ Own w1 5 1 st.2.1 (U8 pre) ∧ Chg Nil w w1 ∧ NewS w.heap.size st.2.1) (fun st _ => st.1.toNat) ⟨n, [], rfl, hn, rfl, Own.nil _ _ _, Chg.refl _ _, fun b h => by cases h⟩ ?_
  rintro ⟨m0, s, u⟩ w1 next ⟨m, pre, rfl, hm64, hpre, ho1, hc1, hn1⟩ hnext
  simp only
  have hlen := congrArg List.length hpre
  rw [List.length_append] at hlen
  have hp1 := encU_pos m
  have hsl : s.l = pre.length := by have := ho1.rd.len; simpa using this
  have one : ∀ (c : UInt8) (K : Slc → World → Prop), (∀ s' w', Own w' 5 1 s' (U8 (pre ++ [c])) → Chg Nil w w' → NewS w.heap.size s' → K s' w') →
      newP #[.int .u8 (c.toNat : Int)] 5 w1 fun a6 w7 => apP Tryd.prog #[23, 23] 23 [.slice s.a s.l s.c, .slice (some a6) 1 1] w7 fun s9 w8 => K s9 w8 := fun c K hK => by
    refine newP_intro fun w2 hc2 hb2 hs2 => ?_
    have hr : Rd w2 ⟨some ⟨w1.heap.size, 0, none⟩, 1, 1⟩ (U8 [c]) := by
      have := hb2.rd (o := 0) (l := 1) (c := 1) (by simp) (by omega)
      simpa [U8] using this
    refine apP_rd TU8 (x := ⟨some ⟨w1.heap.size, 0, none⟩, 1, 1⟩) (ho1.chg hc2 fun _ _ h => h) hr (fun h => by cases h) (U8_one _) (by simp; omega) (by simp; omega) fun s' w3 ho3 hl3 hg3 _ => ?_
    rw [← U8_append] at ho3
    exact hK s' w3 ho3 (hg3.nil ((hc1.step hc2 fun _ _ h => h)) hn1) (hn1.gr hg3 ((hc1.step hc2 fun _ _ h => h)).size)
  refine iteB_intro (fun h => ?_) (fun h => ?_)
  · have hm : ¬ m < 128 := by simp at h; omega
    refine ⟨by omega, ?_⟩
    rw [wrap_tmod]
    refine one _ _ fun s' w3 ho3 hc3 hn3 => ⟨by omega, ?_⟩
    have e : IntKind.u64.wrap (Int.tdiv (m : Int) 128) = ((m / 128 : Nat) : Int) := by
      have : Int.tdiv (m : Int) 128 = ((m / 128 : Nat) : Int) := by rw [Int.tdiv_eq_ediv_of_nonneg (by omega)]; omega
      rw [this, wrap_u64 (by omega)]
    rw [e]
    refine hnext _ _ ⟨m / 128, _, rfl, by omega, ?_, ho3, hc3, hn3⟩ (by simp; omega)
    rw [← hpre, encU_high hm]
    simp
  · have hm : m < 128 := by simp at h; omega
    rw [wrap_u8_nat]
    refine one _ _ fun s' w3 ho3 hc3 hn3 => hK s' w3 ?_ hc3 hn3
    rw [← hpre, encU_low hm]
    exact ho3
theorem refInt_ok {n : Int} {w : World} {K : Slc → World → Prop} (h : -9223372036854775808 ≤ n ∧ n ≤ 9223372036854775807) (hK : ∀ s w', Own w' 5 1 s (U8 (encU (zig n))) → Chg Nil w w' → NewS w.heap.size s → K s w') : c_preluderef01_Int n w K := by
  refine sim_preluderef01_Int ?_
  unfold sh_preluderef01_Int
  refine sim_preluderef01_Fold ?_
  unfold sh_preluderef01_Fold
  have hz := zig_lt h
  refine iteB_intro (fun h0 => ?_) (fun h0 => ?_)
  · have h0 : 0 ≤ n := by simpa using h0
    have e : IntKind.u64.wrap (2 * (IntKind.u64.wrap n)) = (zig n : Int) := by
      rw [wrap_u64 (x := n) (by omega), wrap_u64 (by omega)]
      unfold zig; rw [if_pos h0]; omega
    rw [e]
    exact refUint_ok hz hK
  · have h0 : ¬ 0 ≤ n := by simpa using h0
    have e : IntKind.u64.wrap ((IntKind.u64.wrap (2 * (IntKind.u64.wrap (IntKind.i64.wrap ((-1) - n))))) + 1) = (zig n : Int) := by
      rw [wrap_i64 (by omega), wrap_u64 (x := (-1) - n) (by omega), wrap_u64 (x := 2 * ((-1) - n)) (by omega), wrap_u64 (by omega)]
      unfold zig; rw [if_neg h0]; omega
    rw [e]
    exact refUint_ok hz hK
end Go.Proofs.YtgpdecfcjpblgaaDoor
