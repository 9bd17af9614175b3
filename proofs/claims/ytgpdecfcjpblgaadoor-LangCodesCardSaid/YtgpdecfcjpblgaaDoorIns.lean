/- Prog: programs in memory: their code, == of instructions, sameProgram, the limits. -/
import Derived.Test.YtgpdecfcjpblgaaDoorGen
import Derived.Test.YtgpdecfcjpblgaaDoorPl
import Derived.Laws.StructEq
import Derived.ChangeKeysEq
import Derived.KernelRfl
set_option linter.unusedVariables false
set_option linter.unusedSimpArgs false
namespace Go.Pl
open Go Go.Sh Go.RowKit
/-- A slice of elements of two numbers each. -/
structure RdC (w : World) (s : Slc) (cs : List (Int × Int)) : Prop where
  len : s.l = cs.length
  cap : s.l ≤ s.c
  at_ : ∀ i x, cs[i]? = some x → ∃ ad, s.a = some ad ∧ w.cell? (ad.add (i * 2)) = some (.int .i64 x.1) ∧ w.cell? ((ad.add (i * 2)).add 1) = some (.int .i64 x.2)
theorem RdC.drw {w w' : World} {s : Slc} {cs : List (Int × Int)} (h : RdC w s cs) (hd : Drw w w') : RdC w' s cs :=
  ⟨h.len, h.cap, fun i x hx => by obtain ⟨ad, h1, h2, h3⟩ := h.at_ i x hx; exact ⟨ad, h1, by rw [hd.cell]; exact h2, by rw [hd.cell]; exact h3⟩⟩
theorem RdC.chg {w w' : World} {S : Nat → Prop} {s : Slc} {cs : List (Int × Int)} (h : RdC w s cs) (hc : Chg S w w') (hn : ∀ b, blkOf s = some b → ¬ S b) : RdC w' s cs :=
  ⟨h.len, h.cap, fun i x hx => by
    obtain ⟨ad, h1, h2, h3⟩ := h.at_ i x hx
    have hb : ¬ S ad.block := hn _ (by simp [blkOf, h1])
    exact ⟨ad, h1, cell_chg hc h2 (by rw [add_block]; exact hb), cell_chg hc h3 (by rw [add_block, add_block]; exact hb)⟩⟩
theorem RdC.idx {w : World} {s : Slc} {cs : List (Int × Int)} (h : RdC w s cs) {i : Nat} {i' : Int} {K : Addr → Prop} (hi' : i' = (i : Int)) (hi : i < cs.length)
    (hK : ∀ ad, w.cell? ad = some (.int .i64 cs[i].1) → w.cell? (ad.add 1) = some (.int .i64 cs[i].2) → K ad) : idxP s.a s.l i' 2 K := by
  subst hi'
  obtain ⟨ad, ha, h1, h2⟩ := h.at_ i cs[i] (by simp)
  exact ⟨by omega, by rw [h.len]; omega, ad, ha, by rw [Int.toNat_natCast]; exact hK _ h1 h2⟩
end Go.Pl
namespace Go.Proofs.YtgpdecfcjpblgaaDoor
open Go Go.Sh Go.Pl Go.RowKit
theorem neq_instr (x y : Operand) (a b c d : Int) (w : World) :
    (do eqGuard .neq 80 x y (.agg #[.int .i64 a, .int .i64 b]) (.agg #[.int .i64 c, .int .i64 d]); binOp .neq 80 (.agg #[.int .i64 a, .int .i64 b]) (.agg #[.int .i64 c, .int .i64 d])).run Tryd.prog w = .ok (.bool (!(a == c && b == d))) w := by
  have h1 : Tryd.prog.eqGuardType Tryd.prog.depth 80 = false := by kernel_rfl
  have h2 : Tryd.prog.underlying 80 = some (.struct (Tryd.prog.fieldsOf 80)) := by kernel_rfl
  have h3 : Tryd.prog.stoodInHeld 80 = false := by kernel_rfl
  have h4 : (Tryd.prog.fieldsOf 80).toList.map (fun f => (f.name != "_", f.type, f.offset)) = [(true, 3, 0), (true, 2, 1)] := by kernel_rfl
  have p0 : Tryd.prog.plainKey 3 = true := by kernel_rfl
  have p1 : Tryd.prog.plainKey 2 = true := by kernel_rfl
  have u0 : Tryd.prog.underlying 3 = some (.int .i64) := by kernel_rfl
  have u1 : Tryd.prog.underlying 2 = some (.int .i64) := by kernel_rfl
  rw [Sem.run_bind, run_eqGuard_agg _ _ _ _ _ _ _ h1, Result.andThen_ok, run_neq_struct, run_equalIn_agg w 9999 80 _ _ h2 h3]
  generalize (Tryd.prog.fieldsOf 80).toList = fs at h4
  obtain ⟨f0, f1, rfl⟩ : ∃ f0 f1, fs = [f0, f1] := by
    have hl := congrArg List.length h4
    simp at hl
    match fs, hl with
    | [x, y], _ => exact ⟨x, y, rfl⟩
  simp only [List.map_cons, List.map_nil, List.cons.injEq, Prod.mk.injEq, and_true] at h4
  obtain ⟨⟨n0, t0, o0⟩, n1, t1, o1⟩ := h4
  have m0 : f0.name ≠ "_" := by simpa using n0
  have m1 : f1.name ≠ "_" := by simpa using n1
  unfold Op.eqFields
  rw [if_pos m0, t0, o0]
  simp only [Sem.run_bind, run_part_plain (w := w) p0 (show (#[Value.int .i64 a, .int .i64 b] : Array Value)[0]? = some (.int .i64 a) from rfl), run_part_plain (w := w) p0 (show (#[Value.int .i64 c, .int .i64 d] : Array Value)[0]? = some (.int .i64 c) from rfl), Result.andThen_ok, run_equalIn_int w 9998 3 .i64 .i64 a c u0]
  by_cases hac : a = c
  · subst hac
    simp only [beq_self_eq_true, Bool.not_true, Bool.false_eq_true, if_false]
    unfold Op.eqFields
    rw [if_pos m1, t1, o1]
    simp only [Sem.run_bind, run_part_plain (w := w) p1 (show (#[Value.int .i64 a, .int .i64 b] : Array Value)[1]? = some (.int .i64 b) from rfl), run_part_plain (w := w) p1 (show (#[Value.int .i64 a, .int .i64 d] : Array Value)[1]? = some (.int .i64 d) from rfl), Result.andThen_ok, run_equalIn_int w 9998 2 .i64 .i64 b d u1]
    by_cases hbd : b = d
    · subst hbd; simp [Op.eqFields]
    · simp [hbd]
  · simp [hac]
/-- The same program again. -/
theorem sameProgram_ok {a b c d : Int} {s t : Slc} {is : List (Int × Int)} {w : World} {K : Bool → World → Prop} (hs : RdC w s is) (ht : RdC w t is) (hl : is.length ≤ 9000000000000000000) (hK : ∀ w', Chg Nil w w' → K true w') : c_preludelaw03_sameProgram a b c d s a b c d t w K := by
  refine sim_preludelaw03_sameProgram ?_
  unfold sh_preludelaw03_sameProgram
  refine newP_intro fun w1 hc1 hb1 hs1 => ?_
  refine newP_intro fun w2 hc2 hb2 hs2 => ?_
  have hb12 := hb1.chg hc2 fun h => h
  have c12 : Chg Nil w w2 := hc1.step hc2 fun _ _ h => h
  have k1 : ∀ {w' : World} {o : Nat} {v : Value}, Chg Nil w2 w' → (#[.int .i64 a, .int .i64 b, .int .i64 c, .int .i64 d, .slice s.a s.l s.c] : Array Value)[o]? = some v → w'.cell? ((⟨w.heap.size, 0, none⟩ : Addr).add o) = some v := fun hc hv => by rw [add_mk, Nat.zero_add, (hb12.chg hc fun h => h).cell]; exact hv
  have k2 : ∀ {w' : World} {o : Nat} {v : Value}, Chg Nil w2 w' → (#[.int .i64 a, .int .i64 b, .int .i64 c, .int .i64 d, .slice t.a t.l t.c] : Array Value)[o]? = some v → w'.cell? ((⟨w1.heap.size, 0, none⟩ : Addr).add o) = some v := fun hc hv => by rw [add_mk, Nat.zero_add, (hb2.chg hc fun h => h).cell]; exact hv
  have r := Chg.refl Nil w2
  refine ldI_of (k1 (o := 0) r rfl) (ldI_of (k2 (o := 0) r rfl) (iteB_neg (by simp) ?_))
  refine ldI_of (k1 (o := 1) r rfl) (ldI_of (k2 (o := 1) r rfl) (iteB_neg (by simp) ?_))
  refine ldI_of (k1 (o := 2) r rfl) (ldI_of (k2 (o := 2) r rfl) (iteB_neg (by simp) ?_))
  refine ldI_of (k1 (o := 3) r rfl) (ldI_of (k2 (o := 3) r rfl) (iteB_neg (by simp) ?_))
  have l1 := hs.len
  have l2 := ht.len
  refine ldS_of (s := s) (k1 (o := 4) r rfl) (ldS_of (s := t) (k2 (o := 4) r rfl) (iteB_neg (by simp [l1, l2]) ?_))
  refine loopP_inv (fun st w3 => ∃ i : Nat, st.1 = (i : Int) ∧ i ≤ is.length ∧ Chg Nil w2 w3) (fun st _ => is.length - st.1.toNat) ⟨0, rfl, Nat.zero_le _, r⟩ ?_
  rintro ⟨i0, u⟩ w3 next ⟨i, rfl, hi, hc3⟩ hnext
  dsimp only
  refine ldS_of (s := s) (k1 (o := 4) hc3 rfl) ?_
  refine iteB_intro (fun h => ?_) (fun h => hK w3 (c12.step hc3 fun _ _ h => h))
  have hlt : i < is.length := by simp [l1] at h; omega
  have hcd : Chg Nil w2 w3.drew := hc3.step ((Drw.refl w3).drew.chg Nil) fun _ _ h => h
  have cd : Chg Nil w w3.drew := c12.step hcd fun _ _ h => h
  refine ldS_of (s := s) (k1 (o := 4) hcd rfl) ?_
  refine (hs.chg cd fun _ _ h => h).idx rfl hlt fun ad h1 h2 => ldI_of h1 (ldI_of h2 ?_)
  refine ldS_of (s := t) (k2 (o := 4) hcd rfl) ?_
  refine (ht.chg cd fun _ _ h => h).idx rfl hlt fun ad h1 h2 => ldI_of h1 (ldI_of h2 ?_)
  refine ⟨false, w3.drew, ?_, ?_⟩
  · rw [neq_instr]; simp
  · refine iteB_neg rfl ?_
    rw [wrap_i64 (by omega)]
    exact hnext _ _ ⟨i + 1, by simp, hlt, hcd⟩ (by simp; omega)
end Go.Proofs.YtgpdecfcjpblgaaDoor
