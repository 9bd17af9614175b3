/- LawW: what the document writes for a call; the law CodecWrites. -/
import Derived.Test.YtmadhcoeiclalaaLawG
import Derived.Test.YtmadhcoeiclalaaBookE
set_option linter.unusedVariables false
set_option linter.unusedSimpArgs false
namespace Go.Proofs.Ytmadhcoeiclalaa
open Go Go.Sh Go.Pl Go.RowKit Go.Num Go.Gt
theorem wrap_tmod (m : Nat) : IntKind.u8.wrap ((IntKind.u8.wrap (Int.tmod (m : Int) 128)) + 128) = ((UInt8.ofNat (m % 128 + 128)).toNat : Int) := by
  have h1 : Int.tmod (m : Int) 128 = ((m % 128 : Nat) : Int) := by rw [Int.tmod_eq_emod_of_nonneg (by omega)]; omega
  rw [h1, wrap_u8 (x := ((m % 128 : Nat) : Int)) (by omega), ← wrap_u8_nat]
  congr 1
theorem refUint_ok {n : Nat} {w : World} {K : Slc → World → Prop} (hn : n < 18446744073709551616) (hK : ∀ s w', Own w' 5 1 s (U8 (encU n)) → Chg Nil w w' → NewS w.heap.size s → K s w') : c_preluderef01_Uint (n : Int) w K := by
  refine sim_preluderef01_Uint ?_
  unfold sh_preluderef01_Uint
  have hten := encU_ten n hn
  refine loopP_inv (fun st w1 => ∃ (m : Nat) (pre : List UInt8), st.1 = (m : Int) ∧ m < 18446744073709551616 ∧ pre ++ encU m = encU n ∧ Own w1 5 1 st.2.1 (U8 pre) ∧ Chg Nil w w1 ∧ NewS w.heap.size st.2.1) (fun st _ => st.1.toNat) ⟨n, [], rfl, hn, rfl, Own.nil _ _ _, Chg.refl _ _, fun b h => by cases h⟩ ?_
  rintro ⟨m0, s, u⟩ w1 next ⟨m, pre, rfl, hm64, hpre, ho1, hc1, hn1⟩ hnext
  simp only
  have hlen := congrArg List.length hpre
  rw [List.length_append] at hlen
  have hp1 := encU_pos m
  have hsl : s.l = pre.length := by have := ho1.rd.len; simpa using this
  have one : ∀ (c : UInt8) (K : Slc → World → Prop), (∀ s' w', Own w' 5 1 s' (U8 (pre ++ [c])) → Chg Nil w w' → NewS w.heap.size s' → K s' w') →
      newP #[.int .u8 (c.toNat : Int)] 5 w1 fun a6 w7 => apP Try.prog #[26, 26] 26 [.slice s.a s.l s.c, .slice (some a6) 1 1] w7 fun s9 w8 => K s9 w8 := fun c K hK => by
    refine newP_intro fun w2 hc2 hb2 hs2 => ?_
    have hr : Rd w2 ⟨some ⟨w1.heap.size, 0, none⟩, 1, 1⟩ (U8 [c]) := by
      have := hb2.rd (o := 0) (l := 1) (c := 1) (by simp) (by omega)
      simpa [U8] using this
    refine apP_rd TU8 (x := ⟨some ⟨w1.heap.size, 0, none⟩, 1, 1⟩) (ho1.chg hc2 fun _ _ h => h) hr (fun h => by cases h) (U8_one _) (by simp; omega) (by simp; omega) fun s' w3 ho3 hl3 hg3 _ => ?_
    rw [← U8_append] at ho3
    exact hK s' w3 ho3 (hg3.nil (chgNN hc1 hc2) hn1) (hn1.gr hg3 (chgNN hc1 hc2).size)
  refine iteB_intro (fun h => ?_) (fun h => ?_)
  · have hm : ¬ m < 128 := by simp at h; omega
    refine ⟨by omega, ?_⟩
    rw [wrap_tmod]
    refine one _ _ fun s' w3 ho3 hc3 hn3 => ⟨by omega, ?_⟩
    have e : IntKind.u64.wrap (Int.tdiv (m : Int) 128) = ((m / 128 : Nat) : Int) := by
      have : Int.tdiv (m : Int) 128 = ((m / 128 : Nat) : Int) := by rw [Int.tdiv_eq_ediv_of_nonneg (by omega)]; omega
      rw [this, wrap_u64 (by omega)]
    rw [e]
    refine hnext _ _ ⟨m / 128, _, rfl, by omega, ?_, ho3, hc3, hn3⟩ (by simp; omega)
    rw [← hpre, encU_high hm]
    simp
  · have hm : m < 128 := by simp at h; omega
    rw [wrap_u8_nat]
    refine one _ _ fun s' w3 ho3 hc3 hn3 => hK s' w3 ?_ hc3 hn3
    rw [← hpre, encU_low hm]
    exact ho3
theorem refInt_ok {n : Int} {w : World} {K : Slc → World → Prop} (h : -9223372036854775808 ≤ n ∧ n ≤ 9223372036854775807) (hK : ∀ s w', Own w' 5 1 s (U8 (encU (zig n))) → Chg Nil w w' → NewS w.heap.size s → K s w') : c_preluderef01_Int n w K := by
  refine sim_preluderef01_Int ?_
  unfold sh_preluderef01_Int
  refine sim_preluderef01_Fold ?_
  unfold sh_preluderef01_Fold
  have hz := zig_lt h
  refine iteB_intro (fun h0 => ?_) (fun h0 => ?_)
  · have h0 : 0 ≤ n := by simpa using h0
    have e : IntKind.u64.wrap (2 * (IntKind.u64.wrap n)) = (zig n : Int) := by
      rw [wrap_u64 (x := n) (by omega), wrap_u64 (by omega)]
      unfold zig; rw [if_pos h0]; omega
    rw [e]
    exact refUint_ok hz hK
  · have h0 : ¬ 0 ≤ n := by simpa using h0
    have e : IntKind.u64.wrap ((IntKind.u64.wrap (2 * (IntKind.u64.wrap (IntKind.i64.wrap ((-1) - n))))) + 1) = (zig n : Int) := by
      rw [wrap_i64 (by omega), wrap_u64 (x := (-1) - n) (by omega), wrap_u64 (x := 2 * ((-1) - n)) (by omega), wrap_u64 (by omega)]
      unfold zig; rw [if_neg h0]; omega
    rw [e]
    exact refUint_ok hz hK
set_option maxRecDepth 20000 in
theorem form_ok {w : World} {sl : Slc} {o : OpM} {K : Slc → World → Prop} (hx : Rd w sl (U8 o.2.2.1)) (hn : sl.a = none → sl.l = 0 ∧ sl.c = 0) (g0 : (Lit.int .i64 o.1).wf = true) (g1 : (Lit.int .u64 o.2.1).wf = true) (hl : o.2.2.1.length + 10 ≤ 140737488351232)
    (hK : ∀ s w', Rd w' s (U8 (encO o)) → (s.a = none → s.l = 0 ∧ s.c = 0) → Chg Nil w w' → NewS w.heap.size s → K s w') : c_preludelaw01_form o.1 o.2.1 sl o.2.2.2.1 o.2.2.2.2.1 w K := by
  refine sim_preludelaw01_form ?_
  unfold sh_preludelaw01_form
  obtain ⟨o0, o1, xs, o3, o4, ⟨⟩⟩ := o
  simp only at hx g0 g1 hl hK ⊢
  have g0 := wf_i64 g0
  have g1 := wf_u64 g1
  have lx := hx.len
  simp only [U8_length] at lx
  refine newP_intro fun w2 hc2 hb2 hs2 => ?_
  have cell : ∀ {w' : World} {o : Nat} {v : Value}, Blk w' w.heap.size #[.int .i64 o0, .int .u64 o1, .slice sl.a sl.l sl.c, .int .i64 o3, .bool o4] 34 → (#[.int .i64 o0, .int .u64 o1, .slice sl.a sl.l sl.c, .int .i64 o3, .bool o4] : Array Value)[o]? = some v → w'.cell? ((⟨w.heap.size, 0, none⟩ : Addr).add o) = some v := fun hb hv => by rw [add_mk, Nat.zero_add, hb.cell]; exact hv
  refine ldI_of (cell (o := 0) hb2 rfl) ?_
  have kind : ∀ {k : Int}, (o0 == k) = true → o0 = k := fun h => by simpa using h
  have nkind : ∀ {k : Int}, (o0 == k) = false → o0 ≠ k := fun h => by simpa using h
  obtain ⟨m, rfl⟩ : ∃ m : Nat, o1 = (m : Int) := ⟨o1.toNat, by omega⟩
  have num : ∀ e : List UInt8, encO (o0, (m : Int), xs, o3, o4, ()) = e → ∀ s w', Own w' 5 1 s (U8 e) → Chg Nil w2 w' → NewS w2.heap.size s → K s w' := fun e he s w' ho hc hn' => hK s w' (by rw [he]; exact ho.rd) (fun h => own_none ho h) (chgNN hc2 hc) fun k hk => by have := hn' k hk; omega
  refine iteB_intro (fun h1 => ?_) (fun h1 => ?_)
  · have h1 := kind h1
    refine ldI_of (cell (o := 1) hb2 rfl) ?_
    rw [wrap_u8_nat]
    refine newP_intro fun w3 hc3 hb3 hs3 => ?_
    have e : encO (o0, (m : Int), xs, o3, o4, ()) = [UInt8.ofNat m] := by unfold encO; rw [if_pos h1]; rfl
    have hr : Rd w3 ⟨some ⟨w2.heap.size, 0, none⟩, 1, 1⟩ (U8 [UInt8.ofNat m]) := by
      have := hb3.rd (o := 0) (l := 1) (c := 1) (by simp) (by omega)
      simpa [U8] using this
    exact hK _ w3 (by rw [e]; exact hr) (fun h => by cases h) (chgNN hc2 hc3) fun k hk => by simp [blkOf] at hk; omega
  have h1 := nkind h1
  have eU : o0 = 2 ∨ o0 = 6 → encO (o0, (m : Int), xs, o3, o4, ()) = encU m := fun hu => by unfold encO; rw [if_neg h1, if_pos hu]; rfl
  refine iteB_intro (fun h2 => ?_) (fun h2 => ?_)
  · refine iteB_pos h2 ?_
    refine ldI_of (cell (o := 1) hb2 rfl) ?_
    exact refUint_ok (by omega) (num _ (eU (.inl (kind h2))))
  have h2 := nkind h2
  refine iteB_intro (fun h6 => ?_) (fun h6 => ?_)
  · refine ldI_of (cell (o := 1) hb2 rfl) ?_
    exact refUint_ok (by omega) (num _ (eU (.inr (kind h6))))
  have h6 := nkind h6
  refine iteB_intro (fun h3 => ?_) (fun h3 => ?_)
  · have e : encO (o0, (m : Int), xs, o3, o4, ()) = encU (zig (IntKind.i64.wrap (m : Int))) := by unfold encO; rw [if_neg h1, if_neg (by simp only; omega), if_pos (kind h3)]
    refine ldI_of (cell (o := 1) hb2 rfl) ?_
    exact refInt_ok (wrap_i64_in _) (num _ e)
  have h3 := nkind h3
  refine iteB_intro (fun h4 => ?_) (fun h4 => ?_)
  · have e : encO (o0, (m : Int), xs, o3, o4, ()) = encU xs.length ++ xs := by unfold encO; rw [if_neg h1, if_neg (by simp only; omega), if_neg h3, if_pos (kind h4)]
    have hb2d := hb2.drw (Drw.refl w2).drew
    have hdc : Chg Nil w2 w2.drew := (Drw.refl w2).drew.chg _
    refine ldS_of (s := sl) (cell (o := 2) hb2d rfl) ?_
    refine ldS_of (s := sl) (cell (o := 2) hb2d rfl) ?_
    have e64 : IntKind.u64.wrap (sl.l : Int) = ((xs.length : Nat) : Int) := by rw [lx, wrap_u64 (by omega)]
    rw [e64]
    refine refUint_ok (by omega) fun s w3 ho3 hc3 hn3 => ?_
    refine ⟨cell (o := 2) (hb2d.chg hc3 fun h => h) rfl, ?_⟩
    have ht := encU_ten xs.length (by omega)
    have cz := chgNN (chgNN hc2 hdc) hc3
    refine apP_rd TU8 (s := s) (x := sl) ho3 (hx.chg cz fun _ _ h => h) hn (U8_one _) (by simp; omega) (by simp; omega) fun s' w4 ho4 hl4 hg4 _ => ?_
    rw [← U8_append] at ho4
    have hns : NewS w.heap.size s := fun k hk => by have := hn3 k hk; have : w2.drew.heap.size = w2.heap.size := rfl; omega
    exact hK s' w4 (by rw [e]; exact ho4.rd) (fun h => own_none ho4 h) (hg4.nil cz hns) (hns.gr hg4 cz.size)
  have h4 := nkind h4
  refine iteB_intro (fun h5 => ?_) (fun h5 => ?_)
  · have e : encO (o0, (m : Int), xs, o3, o4, ()) = xs := by unfold encO; rw [if_neg h1, if_neg (by simp only; omega), if_neg h3, if_neg h4, if_pos (kind h5)]
    refine ldS_of (s := sl) (cell (o := 2) hb2 rfl) ?_
    refine copied_ok (hx.chg hc2 fun _ _ h => h) (fun h => (hn h).1) (by omega) fun w3 hc3 hb3 hs3 => ?_
    have hr : Rd w3 ⟨some ⟨w2.heap.size, 0, none⟩, xs.length, xs.length⟩ (U8 xs) := by
      have := hb3.rd (o := 0) (l := xs.length) (c := xs.length) (by simp) (by omega)
      rw [List.drop_zero, U8_take, List.take_of_length_le (Nat.le_refl _)] at this
      exact this
    exact hK _ w3 (by rw [e]; exact hr) (fun h => by cases h) (chgNN hc2 hc3) fun k hk => by simp [blkOf] at hk; omega
  have h5 := nkind h5
  have e : encO (o0, (m : Int), xs, o3, o4, ()) = [] := by unfold encO; rw [if_neg h1, if_neg (by simp only; omega), if_neg h3, if_neg h4, if_neg h5]
  exact hK _ w2 (by rw [e]; exact Rd.nil _ _) (fun _ => ⟨rfl, rfl⟩) hc2 fun k hk => by cases hk
end Go.Proofs.Ytmadhcoeiclalaa
