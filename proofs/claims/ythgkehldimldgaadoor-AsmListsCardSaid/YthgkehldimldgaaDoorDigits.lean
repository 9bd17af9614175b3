/- Digits: the law CodecDigits. -/
import Derived.Test.YthgkehldimldgaaDoorDigP
import Derived.Test.YthgkehldimldgaaDoorLay
import Derived.Test.YthgkehldimldgaaDoorGen
import Derived.Test.YthgkehldimldgaaDoorFr2
import Derived.Test.YthgkehldimldgaaDoorGt
import Derived.Lib.BufferRead
set_option linter.unusedVariables false
set_option linter.unusedSimpArgs false
namespace Go.Pl
open Go Go.Sh Go.RowKit
theorem to_str {P : Program} {src dst e : TypeId} {w : World} {s : Slc} {bs : List UInt8} (hs : P.underlying src = some (.slice e)) (he : P.underlying e = some (.int .u8)) (hd : P.underlying dst = some .string) (h : Rd w s (U8 bs)) : (convert src dst (.slice s.a s.l s.c)).run P w = .ok (.string ⟨bs.toArray⟩) w := by
  have hl := h.len
  simp only [U8_length] at hl
  cases hsa : s.a with
  | some a =>
    rw [hl]
    refine run_convert_bytes_back w src dst e a s.c bs hs he hd fun j hj => ?_
    rw [cells_of_rd h hsa j _ (U8_at bs hj)]
  | none =>
    have h0 : bs = [] := by
      cases bs with
      | nil => rfl
      | cons x bs => obtain ⟨ad, had, _⟩ := h.at_ 0 (by simp); rw [hsa] at had; cases had
    subst h0
    simp at hl
    rw [hl]
    exact Lib.run_convert_nil_bytes w src dst e s.c hs he hd
theorem str_eq (a b : ByteArray) : (a.toList == b.toList) = decide (a.data.toList = b.data.toList) := by
  rw [ByteArray.toList_eq, ByteArray.toList_eq, Bool.eq_iff_iff, beq_iff_eq, decide_eq_true_eq]
theorem ch_below {w w' : World} (h : Below w.heap.size w w') : Ch [] w w' := ⟨h.os, h.tape, h.output, h.size, fun k hk _ => h.block k hk⟩
theorem var_ch {P : Program} {w w' : World} {n : String} {cs : Array Value} (hc : Ch [] w w') (h : w.var? P n = some cs) : w'.var? P n = some cs := by
  unfold World.var? at h ⊢
  cases hg : P.globalNamed n with
  | none => rw [hg] at h; exact h
  | some g =>
    rw [hg] at h
    rw [Option.bind_some] at h ⊢
    have hlt : g < w.heap.size := by
      rcases Nat.lt_or_ge g w.heap.size with hlt | hge
      · exact hlt
      · rw [Array.getElem?_eq_none hge] at h; cases h
    rw [show w'.heap[g]? = w.heap[g]? from hc.blk g hlt fun h => h]
    exact h
end Go.Pl
namespace Go.Proofs.YthgkehldimldgaaDoor
open Go Go.Sh Go.Pl Go.RowKit Go.Lib Go.Gt
theorem sliceT : Tryd.prog.underlying 43 = some (.slice 5) := by kernel_rfl
theorem u8T : Tryd.prog.underlying 5 = some (.int .u8) := by kernel_rfl
theorem strTd : Tryd.prog.underlying 9 = some .string := by kernel_rfl
/-- What the library's functions read. -/
structure Lv (w : World) : Prop where
  tab : TabIs Tryd.prog w "internal/strconv.uint64pow10" .u64 pow10Tab
theorem Lv.ch0 {w w' : World} (h : Lv w) (hc : Ch [] w w') : Lv w' := by
  exact ⟨var_ch hc h.tab⟩
theorem format_ok {n : Int} {w : World} {K : ByteArray → World → Prop} (h : Dig.I64 n) (hL : Lv w) (hK : ∀ w', Ch [] w w' → K ⟨(itoa n).toArray⟩ w') : c_strconv_FormatInt n 10 w K := by
  refine Calls.mono (Any.strconv_FormatInt_10 Tryd.laysM173 n h.1 h.2 w hL.tab) fun e w' hh => ?_
  obtain ⟨rfl, k, os, rfl⟩ := hh
  refine ⟨_, rfl, hK _ ⟨rfl, rfl, rfl, ?_, fun i hi _ => ?_⟩⟩
  · show w.heap.size ≤ (w.heap ++ os).size
    simp
  · show (w.heap ++ os)[i]? = w.heap[i]?
    rw [Array.getElem?_append_left hi]
theorem digits_ok {n : Int} {w : World} {K : ByteArray → World → Prop} (h : Dig.I64 n) (hL : Lv w) (hK : ∀ w', Ch [] w w' → K ⟨(itoa n).toArray⟩ w') : c_codec_Digits n w K := by
  refine sim_codec_Digits ?_
  unfold sh_codec_Digits
  exact format_ok h hL hK
theorem one_u8 {r : Nat} (h : r < 10) : IntKind.u8.wrap (IntKind.u64.wrap (48 + (r : Int))) = ((UInt8.ofNat (48 + r)).toNat : Int) := by
  rw [wrap_u64 (by omega), wrap_u8 (by omega), Dig.ofNat48 h]
  omega
theorem app_list (a b : ByteArray) : (a ++ b).data.toList = a.data.toList ++ b.data.toList := by
  rw [ByteArray.data_append, Array.toList_append]
theorem of_list {a : ByteArray} {l : List UInt8} (h : a.data.toList = l) : a = ⟨l.toArray⟩ := by
  cases a with
  | mk d => subst h; simp
theorem digs_len {u : Nat} (hu : u < 18446744073709551616) : (Dig.digs u).length ≤ 20 := by
  unfold Dig.digs
  split
  · simp
  · exact Dig.dec_len20 (by omega)
theorem dloop {u : Nat} {fr : ByteArray} {w : World} {K : ByteArray → World → Prop} (hu : u < 18446744073709551616) (hf : fr.size ≤ 10) (hK : ∀ w', Ch [] w w' → K (fr ++ ⟨(Dig.digs u).toArray⟩) w') :
    loopP (σ := Int × ByteArray × Unit) (fun st2 next1 w3 => (fun (rest_4 : Int) (s_5 : ByteArray) => iteB (decide ((rest_4 : Int) > 0))
      (dzP 10 (newP #[.int .u8 (IntKind.u8.wrap (IntKind.u64.wrap (48 + (Int.tmod rest_4 10))))] 5 w3 fun a6 w7 => (∃ (r8 : ByteArray), ∃ w9, (convert 43 9 (.slice (some a6) 1 1)).run Tryd.prog w7 = .ok (.string r8) w9 ∧ (catP r8 s_5 (dzP 10 (next1 ((IntKind.u64.wrap (Int.tdiv rest_4 10)), (r8 ++ s_5), ()) w9))))))
      (catP fr s_5 (K (fr ++ s_5) w3))) st2.1 st2.2.1) ((u : Int), (ByteArray.mk #[]), ()) w := by
  refine loopP_inv (fun st w' => ∃ r : Nat, st.1 = (r : Int) ∧ r < 18446744073709551616 ∧ Dig.digs r ++ st.2.1.data.toList = Dig.digs u ∧ Ch [] w w') (fun st _ => st.1.toNat) ⟨u, rfl, hu, by simp, Ch.refl _ _⟩ ?_
  rintro ⟨r0, s, un⟩ w1 next ⟨r, rfl, hr, hs, hc1⟩ hnext
  dsimp only at hs ⊢
  have hl := digs_len hu
  rw [← hs, List.length_append] at hl
  have hsz : s.data.toList.length = s.size := Array.length_toList
  have hmax : IntKind.i64.max = 9223372036854775807 := by decide
  refine iteB_dec (fun h => ?_) fun h => ?_
  · have hr0 : r ≠ 0 := by omega
    have h10 : r % 10 < 10 := by omega
    have e1 : Int.tmod (r : Int) 10 = ((r % 10 : Nat) : Int) := by rw [Int.tmod_eq_emod_of_nonneg (by omega)]; omega
    have e2 : IntKind.u64.wrap (Int.tdiv (r : Int) 10) = ((r / 10 : Nat) : Int) := by
      have : Int.tdiv (r : Int) 10 = ((r / 10 : Nat) : Int) := by rw [Int.tdiv_eq_ediv_of_nonneg (by omega)]; omega
      rw [this, wrap_u64 (by omega)]
    rw [e1, one_u8 h10, e2]
    refine ⟨by decide, ?_⟩
    refine newB fun k w2 hc2 hb2 hk2 hs2 => ?_
    have hrd : Rd w2 ⟨some ⟨k, 0, none⟩, 1, 1⟩ (U8 [UInt8.ofNat (48 + r % 10)]) := by
      have := hb2.rd (o := 0) (l := 1) (c := 1) (by simp) (by omega)
      simpa [U8] using this
    refine ⟨_, w2, to_str sliceT u8T strTd hrd, ?_⟩
    refine ⟨by rw [hmax]; show ((1 + s.size : Nat) : Int) ≤ _; omega, ⟨by decide, ?_⟩⟩
    refine hnext _ _ ⟨r / 10, rfl, by omega, ?_, hc1.tr hc2⟩ (by simp; omega)
    dsimp only
    rw [← hs, Dig.digs_step hr0, app_list, List.append_assoc]
  · have hr0 : r = 0 := by omega
    subst hr0
    have e : Dig.digs 0 = [] := rfl
    rw [e, List.nil_append] at hs
    have := of_list hs
    subst this
    exact ⟨by rw [hmax]; omega, hK w1 hc1⟩
theorem refDigits_ok {n : Int} {w : World} {K : ByteArray → World → Prop} (h : Dig.I64 n) (hK : ∀ w', Ch [] w w' → K ⟨(itoa n).toArray⟩ w') : c_preluderef01_Digits n w K := by
  refine sim_preluderef01_Digits ?_
  unfold sh_preluderef01_Digits
  unfold Dig.I64 at h
  refine iteB_eq (fun h0 => ?_) fun h0 => ?_
  · have e : (ByteArray.mk #[48]) = ⟨(itoa n).toArray⟩ := by
      subst h0
      unfold itoa
      rw [if_neg (by omega), show (0 : Int).toNat = 0 from rfl, Dig.dec_low (by omega)]
      rfl
    rw [e]
    exact hK w (Ch.refl _ _)
  · refine iteB_dec (fun hn => ?_) fun hn => ?_
    · have e1 : IntKind.u64.wrap ((IntKind.u64.wrap (IntKind.i64.wrap (0 - (IntKind.i64.wrap (n + 1))))) + 1) = ((n.natAbs : Nat) : Int) := by
        rw [wrap_i64 (x := n + 1) (by omega), wrap_i64 (by omega), wrap_u64 (x := 0 - (n + 1)) (by omega), wrap_u64 (by omega)]
        omega
      rw [e1]
      refine dloop (by omega) (by decide) fun w' hc => ?_
      have e2 : (ByteArray.mk #[45] ++ ⟨(Dig.digs n.natAbs).toArray⟩ : ByteArray) = ⟨(itoa n).toArray⟩ := by
        refine of_list ?_
        rw [app_list]
        unfold itoa Dig.digs
        rw [if_pos hn, if_neg (by omega)]
        simp
      rw [e2]
      exact hK w' hc
    · have e1 : IntKind.u64.wrap n = ((n.toNat : Nat) : Int) := by rw [wrap_u64 (by omega)]; omega
      rw [e1]
      refine dloop (by omega) (by decide) fun w' hc => ?_
      have e2 : (ByteArray.mk #[] ++ ⟨(Dig.digs n.toNat).toArray⟩ : ByteArray) = ⟨(itoa n).toArray⟩ := by
        refine of_list ?_
        rw [app_list]
        unfold itoa Dig.digs
        rw [if_neg hn, if_neg (by omega)]
        simp
      rw [e2]
      exact hK w' hc
theorem chP_at {s : ByteArray} {i : Nat} {i' : Int} {c : UInt8} {K : Int → Prop} (hi' : i' = (i : Int)) (hc : s.data.toList[i]? = some c) (hK : K (c.toNat : Int)) : chP s i' K := by
  subst hi'
  refine ⟨by omega, c, ?_, hK⟩
  rw [Int.toNat_natCast]
  have hi := (List.getElem?_eq_some_iff.1 hc).1
  have hv := (List.getElem?_eq_some_iff.1 hc).2
  have hsz : s.data.toList.length = s.size := Array.length_toList
  rw [getElem?_pos s i (by omega)]
  congr 1
theorem wrap_mod (x : Nat) : IntKind.u64.wrap (x : Int) = ((x % 18446744073709551616 : Nat) : Int) := by
  simp [IntKind.wrap, IntKind.signed, IntKind.bits]
theorem wrap_sg {b : Nat} (hb : b < 18446744073709551616) : IntKind.i64.wrap (b : Int) = if b < 9223372036854775808 then (b : Int) else (b : Int) - 18446744073709551616 := by
  by_cases h : b < 9223372036854775808
  · rw [if_pos h, wrap_i64 (by omega)]
  · rw [if_neg h]
    simp [IntKind.wrap, IntKind.signed, IntKind.bits]
    omega
end Go.Proofs.YthgkehldimldgaaDoor
