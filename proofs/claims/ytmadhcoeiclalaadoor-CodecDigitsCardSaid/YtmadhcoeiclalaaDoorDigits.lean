/- Digits: the law CodecDigits. -/
import Derived.Test.YtmadhcoeiclalaaDoorDigP
import Derived.Test.YtmadhcoeiclalaaDoorLay
import Derived.Test.YtmadhcoeiclalaaDoorGen
import Derived.Test.YtmadhcoeiclalaaDoorFr2
import Derived.Test.YtmadhcoeiclalaaDoorGt
import Derived.Lib.BufferRead
set_option linter.unusedVariables false
set_option linter.unusedSimpArgs false
namespace Go.Pl
open Go Go.Sh Go.RowKit
theorem to_str {P : Program} {src dst e : TypeId} {w : World} {s : Slc} {bs : List UInt8} (hs : P.underlying src = some (.slice e)) (he : P.underlying e = some (.int .u8)) (hd : P.underlying dst = some .string) (h : Rd w s (U8 bs)) : (convert src dst (.slice s.a s.l s.c)).run P w = .ok (.string ⟨bs.toArray⟩) w := by
  have hl := h.len
  simp only [U8_length] at hl
  cases hsa : s.a with
  | some a =>
    rw [hl]
    refine run_convert_bytes_back w src dst e a s.c bs hs he hd fun j hj => ?_
    rw [cells_of_rd h hsa j _ (U8_at bs hj)]
  | none =>
    have h0 : bs = [] := by
      cases bs with
      | nil => rfl
      | cons x bs => obtain ⟨ad, had, _⟩ := h.at_ 0 (by simp); rw [hsa] at had; cases had
    subst h0
    simp at hl
    rw [hl]
    exact Lib.run_convert_nil_bytes w src dst e s.c hs he hd
theorem str_eq (a b : ByteArray) : (a.toList == b.toList) = decide (a.data.toList = b.data.toList) := by
  rw [ByteArray.toList_eq, ByteArray.toList_eq, Bool.eq_iff_iff, beq_iff_eq, decide_eq_true_eq]
theorem ch_below {w w' : World} (h : Below w.heap.size w w') : Ch [] w w' := ⟨h.os, h.tape, h.output, h.size, fun k hk _ => h.block k hk⟩
theorem var_ch {P : Program} {w w' : World} {n : String} {cs : Array Value} (hc : Ch [] w w') (h : w.var? P n = some cs) : w'.var? P n = some cs := by
  unfold World.var? at h ⊢
  cases hg : P.globalNamed n with
  | none => rw [hg] at h; exact h
  | some g =>
    rw [hg] at h
    rw [Option.bind_some] at h ⊢
    have hlt : g < w.heap.size := by
      rcases Nat.lt_or_ge g w.heap.size with hlt | hge
      · exact hlt
      · rw [Array.getElem?_eq_none hge] at h; cases h
    rw [show w'.heap[g]? = w.heap[g]? from hc.blk g hlt fun h => h]
    exact h
end Go.Pl
namespace Go.Proofs.YtmadhcoeiclalaaDoor
open Go Go.Sh Go.Pl Go.RowKit Go.Lib Go.Gt
theorem sliceT : Tryd.prog.underlying 22 = some (.slice 5) := by kernel_rfl
theorem u8T : Tryd.prog.underlying 5 = some (.int .u8) := by kernel_rfl
theorem strT : Tryd.prog.underlying 9 = some .string := by kernel_rfl
/-- What the library's functions read. -/
structure Lv (w : World) : Prop where
  tab : TabIs Tryd.prog w "internal/strconv.uint64pow10" .u64 pow10Tab
  sy : ∃ te pe, w.cell? ⟨2, 0, none⟩ = some (.iface te pe)
  ra : ∃ te pe, w.cell? ⟨3, 0, none⟩ = some (.iface te pe)
theorem Lv.ch0 {w w' : World} (h : Lv w) (hc : Ch [] w w') : Lv w' := by
  obtain ⟨h1, ⟨t1, p1, c1⟩, ⟨t2, p2, c2⟩⟩ := h
  exact ⟨var_ch hc h1, ⟨t1, p1, cell_chg (show Chg Nil w w' from hc) c1 fun h => h⟩, ⟨t2, p2, cell_chg (show Chg Nil w w' from hc) c2 fun h => h⟩⟩
theorem format_ok {n : Int} {w : World} {K : ByteArray → World → Prop} (h : Dig.I64 n) (hL : Lv w) (hK : ∀ w', Ch [] w w' → K ⟨(itoa n).toArray⟩ w') : c_strconv_FormatInt n 10 w K := by
  refine Calls.mono (Any.strconv_FormatInt_10 Tryd.laysM173 n h.1 h.2 w hL.tab) fun e w' hh => ?_
  obtain ⟨rfl, k, os, rfl⟩ := hh
  refine ⟨_, rfl, hK _ ⟨rfl, rfl, rfl, ?_, fun i hi _ => ?_⟩⟩
  · show w.heap.size ≤ (w.heap ++ os).size
    simp
  · show (w.heap ++ os)[i]? = w.heap[i]?
    rw [Array.getElem?_append_left hi]
theorem parse_ok {s : ByteArray} {w : World} {K : Int → Value → World → Prop} (hL : Lv w) (hl : s.size ≤ 281474976710656)
    (h1 : ∀ v w', parseIntB 64 s.data.toList = .ok v → Ch [] w w' → K v .nilIface w') (h2 : (∀ v, parseIntB 64 s.data.toList ≠ .ok v) → ∀ v te p w', Ch [] w w' → K v (.iface te p) w') : c_strconv_ParseInt s 10 64 w K := by
  obtain ⟨_, ⟨t1, p1, c1⟩, ⟨t2, p2, c2⟩⟩ := hL
  rcases hp : parseIntB 64 s.data.toList with v | - | -
  · refine Calls.mono (Any.strconv_ParseInt_10_at64_ok Tryd.laysC174 s (by omega) v hp w) fun e w' hh => ?_
    obtain ⟨rfl, hw⟩ := hh
    refine ⟨v, .nilIface, rfl, h1 v w' hp ?_⟩
    rcases hw with rfl | ⟨t, rfl⟩
    · exact Ch.refl _ _
    · refine ⟨rfl, rfl, rfl, ?_, fun i hi _ => ?_⟩
      · rw [bytesWorld_size]; omega
      · exact bytesWorld_at_old w _ t i hi
  · refine Calls.mono (Any.strconv_ParseInt_10_at64_syntax Tryd.laysC174 s hl hp _ w c1 (.inr ⟨t1, p1, rfl⟩)) fun e w' hh => ?_
    obtain ⟨N, rfl, _, _, hb⟩ := hh
    exact ⟨_, _, rfl, h2 (fun v hv => by rw [hp] at hv; cases hv) _ _ _ w' (ch_below hb)⟩
  · refine Calls.mono (Any.strconv_ParseInt_10_at64_range Tryd.laysC174 s hl hp _ w c2 (.inr ⟨t2, p2, rfl⟩)) fun e w' hh => ?_
    obtain ⟨N, rfl, _, _, hb⟩ := hh
    exact ⟨_, _, rfl, h2 (fun v hv => by rw [hp] at hv; cases hv) _ _ _ w' (ch_below hb)⟩
theorem digits_ok {n : Int} {w : World} {K : ByteArray → World → Prop} (h : Dig.I64 n) (hL : Lv w) (hK : ∀ w', Ch [] w w' → K ⟨(itoa n).toArray⟩ w') : c_codec_Digits n w K := by
  refine sim_codec_Digits ?_
  unfold sh_codec_Digits
  exact format_ok h hL hK
theorem number_ok {s : ByteArray} {w : World} {K : Int → Bool → World → Prop} (hL : Lv w) (hl : s.size ≤ 281474976710656) (hK : ∀ w', Ch [] w w' → K (Dig.numC s.data.toList).1 (Dig.numC s.data.toList).2 w') : c_codec_Number s w K := by
  refine sim_codec_Number ?_
  unfold sh_codec_Number
  unfold Dig.numC at hK
  refine parse_ok hL hl (fun v w1 hv hc1 => ?_) fun hne v te p w1 hc1 => ?_
  · rw [hv] at hK
    dsimp only at hK
    dsimp only [nilI]
    refine iteB_neg rfl ?_
    refine digits_ok (Dig.parse_64 hv) (hL.ch0 hc1) fun w2 hc2 => ?_
    rw [str_eq]
    dsimp only
    refine iteB_ndec (fun h => ?_) fun h => ?_
    · rw [if_neg h] at hK
      exact hK w2 (hc1.tr hc2)
    · rw [if_pos h] at hK
      exact hK w2 (hc1.tr hc2)
  · dsimp only [nilI]
    refine iteB_pos rfl ?_
    split at hK
    · rename_i v' hv'
      exact absurd hv' (hne v')
    · exact hK w1 hc1
theorem one_u8 {r : Nat} (h : r < 10) : IntKind.u8.wrap (IntKind.u64.wrap (48 + (r : Int))) = ((UInt8.ofNat (48 + r)).toNat : Int) := by
  rw [wrap_u64 (by omega), wrap_u8 (by omega), Dig.ofNat48 h]
  omega
theorem app_list (a b : ByteArray) : (a ++ b).data.toList = a.data.toList ++ b.data.toList := by
  rw [ByteArray.data_append, Array.toList_append]
theorem of_list {a : ByteArray} {l : List UInt8} (h : a.data.toList = l) : a = ⟨l.toArray⟩ := by
  cases a with
  | mk d => subst h; simp
theorem digs_len {u : Nat} (hu : u < 18446744073709551616) : (Dig.digs u).length ≤ 20 := by
  unfold Dig.digs
  split
  · simp
  · exact Dig.dec_len20 (by omega)
theorem dloop {u : Nat} {fr : ByteArray} {w : World} {K : ByteArray → World → Prop} (hu : u < 18446744073709551616) (hf : fr.size ≤ 10) (hK : ∀ w', Ch [] w w' → K (fr ++ ⟨(Dig.digs u).toArray⟩) w') :
    loopP (σ := Int × ByteArray × Unit) (fun st2 next1 w3 => (fun (rest_4 : Int) (s_5 : ByteArray) => iteB (decide ((rest_4 : Int) > 0))
      (dzP 10 (newP #[.int .u8 (IntKind.u8.wrap (IntKind.u64.wrap (48 + (Int.tmod rest_4 10))))] 5 w3 fun a6 w7 => (∃ (r8 : ByteArray), ∃ w9, (convert 22 9 (.slice (some a6) 1 1)).run Tryd.prog w7 = .ok (.string r8) w9 ∧ (catP r8 s_5 (dzP 10 (next1 ((IntKind.u64.wrap (Int.tdiv rest_4 10)), (r8 ++ s_5), ()) w9))))))
      (catP fr s_5 (K (fr ++ s_5) w3))) st2.1 st2.2.1) ((u : Int), (ByteArray.mk #[]), ()) w := by
  refine loopP_inv (fun st w' => ∃ r : Nat, st.1 = (r : Int) ∧ r < 18446744073709551616 ∧ Dig.digs r ++ st.2.1.data.toList = Dig.digs u ∧ Ch [] w w') (fun st _ => st.1.toNat) ⟨u, rfl, hu, by simp, Ch.refl _ _⟩ ?_
  rintro ⟨r0, s, un⟩ w1 next ⟨r, rfl, hr, hs, hc1⟩ hnext
  dsimp only at hs ⊢
  have hl := digs_len hu
  rw [← hs, List.length_append] at hl
  have hsz : s.data.toList.length = s.size := Array.length_toList
  have hmax : IntKind.i64.max = 9223372036854775807 := by decide
  refine iteB_dec (fun h => ?_) fun h => ?_
  · have hr0 : r ≠ 0 := by omega
    have h10 : r % 10 < 10 := by omega
    have e1 : Int.tmod (r : Int) 10 = ((r % 10 : Nat) : Int) := by rw [Int.tmod_eq_emod_of_nonneg (by omega)]; omega
    have e2 : IntKind.u64.wrap (Int.tdiv (r : Int) 10) = ((r / 10 : Nat) : Int) := by
      have : Int.tdiv (r : Int) 10 = ((r / 10 : Nat) : Int) := by rw [Int.tdiv_eq_ediv_of_nonneg (by omega)]; omega
      rw [this, wrap_u64 (by omega)]
    rw [e1, one_u8 h10, e2]
    refine ⟨by decide, ?_⟩
    refine newB fun k w2 hc2 hb2 hk2 hs2 => ?_
    have hrd : Rd w2 ⟨some ⟨k, 0, none⟩, 1, 1⟩ (U8 [UInt8.ofNat (48 + r % 10)]) := by
      have := hb2.rd (o := 0) (l := 1) (c := 1) (by simp) (by omega)
      simpa [U8] using this
    refine ⟨_, w2, to_str sliceT u8T strT hrd, ?_⟩
    refine ⟨by rw [hmax]; show ((1 + s.size : Nat) : Int) ≤ _; omega, ⟨by decide, ?_⟩⟩
    refine hnext _ _ ⟨r / 10, rfl, by omega, ?_, hc1.tr hc2⟩ (by simp; omega)
    dsimp only
    rw [← hs, Dig.digs_step hr0, app_list, List.append_assoc]
  · have hr0 : r = 0 := by omega
    subst hr0
    have e : Dig.digs 0 = [] := rfl
    rw [e, List.nil_append] at hs
    have := of_list hs
    subst this
    exact ⟨by rw [hmax]; omega, hK w1 hc1⟩
theorem refDigits_ok {n : Int} {w : World} {K : ByteArray → World → Prop} (h : Dig.I64 n) (hK : ∀ w', Ch [] w w' → K ⟨(itoa n).toArray⟩ w') : c_preluderef01_Digits n w K := by
  refine sim_preluderef01_Digits ?_
  unfold sh_preluderef01_Digits
  unfold Dig.I64 at h
  refine iteB_eq (fun h0 => ?_) fun h0 => ?_
  · have e : (ByteArray.mk #[48]) = ⟨(itoa n).toArray⟩ := by
      subst h0
      unfold itoa
      rw [if_neg (by omega), show (0 : Int).toNat = 0 from rfl, Dig.dec_low (by omega)]
      rfl
    rw [e]
    exact hK w (Ch.refl _ _)
  · refine iteB_dec (fun hn => ?_) fun hn => ?_
    · have e1 : IntKind.u64.wrap ((IntKind.u64.wrap (IntKind.i64.wrap (0 - (IntKind.i64.wrap (n + 1))))) + 1) = ((n.natAbs : Nat) : Int) := by
        rw [wrap_i64 (x := n + 1) (by omega), wrap_i64 (by omega), wrap_u64 (x := 0 - (n + 1)) (by omega), wrap_u64 (by omega)]
        omega
      rw [e1]
      refine dloop (by omega) (by decide) fun w' hc => ?_
      have e2 : (ByteArray.mk #[45] ++ ⟨(Dig.digs n.natAbs).toArray⟩ : ByteArray) = ⟨(itoa n).toArray⟩ := by
        refine of_list ?_
        rw [app_list]
        unfold itoa Dig.digs
        rw [if_pos hn, if_neg (by omega)]
        simp
      rw [e2]
      exact hK w' hc
    · have e1 : IntKind.u64.wrap n = ((n.toNat : Nat) : Int) := by rw [wrap_u64 (by omega)]; omega
      rw [e1]
      refine dloop (by omega) (by decide) fun w' hc => ?_
      have e2 : (ByteArray.mk #[] ++ ⟨(Dig.digs n.toNat).toArray⟩ : ByteArray) = ⟨(itoa n).toArray⟩ := by
        refine of_list ?_
        rw [app_list]
        unfold itoa Dig.digs
        rw [if_neg hn, if_neg (by omega)]
        simp
      rw [e2]
      exact hK w' hc
theorem chP_at {s : ByteArray} {i : Nat} {i' : Int} {c : UInt8} {K : Int → Prop} (hi' : i' = (i : Int)) (hc : s.data.toList[i]? = some c) (hK : K (c.toNat : Int)) : chP s i' K := by
  subst hi'
  refine ⟨by omega, c, ?_, hK⟩
  rw [Int.toNat_natCast]
  have hi := (List.getElem?_eq_some_iff.1 hc).1
  have hv := (List.getElem?_eq_some_iff.1 hc).2
  have hsz : s.data.toList.length = s.size := Array.length_toList
  rw [getElem?_pos s i (by omega)]
  congr 1
theorem wrap_mod (x : Nat) : IntKind.u64.wrap (x : Int) = ((x % 18446744073709551616 : Nat) : Int) := by
  simp [IntKind.wrap, IntKind.signed, IntKind.bits]
theorem wrap_sg {b : Nat} (hb : b < 18446744073709551616) : IntKind.i64.wrap (b : Int) = if b < 9223372036854775808 then (b : Int) else (b : Int) - 18446744073709551616 := by
  by_cases h : b < 9223372036854775808
  · rw [if_pos h, wrap_i64 (by omega)]
  · rw [if_neg h]
    simp [IntKind.wrap, IntKind.signed, IntKind.bits]
    omega
theorem refNumber_ok {s : ByteArray} {w : World} {K : Int → Bool → World → Prop} (hl : s.size ≤ 281474976710656) (hK : ∀ w', Ch [] w w' → K (Dig.numD s.data.toList).1 (Dig.numD s.data.toList).2 w') : c_preluderef01_Number s w K := by
  refine sim_preluderef01_Number ?_
  unfold sh_preluderef01_Number
  have hsz : s.data.toList.length = s.size := Array.length_toList
  generalize hll : s.data.toList = l at *
  have fin : ∀ {v : Int} {w1 : World}, v = Dig.rkV l → Ch [] w w1 → c_preluderef01_Digits v w1 fun r10 w11 => iteB (!((r10).toList == (s).toList)) (K 0 false w11) (K v true w11) := fun {v w1} hv hc => by
    subst hv
    refine refDigits_ok (Dig.rkV_64 l) fun w2 hc2 => ?_
    rw [str_eq, hll]
    dsimp only
    unfold Dig.numD at hK
    refine iteB_ndec (fun h => ?_) fun h => ?_
    · rw [if_neg h] at hK
      exact hK w2 (hc.tr hc2)
    · rw [if_pos h] at hK
      exact hK w2 (hc.tr hc2)
  refine loopP_inv (fun st w' => ∃ i a : Nat, st.1 = (a : Int) ∧ st.2.1 = (i : Int) ∧ i ≤ s.size ∧ i ≤ 20 ∧ a = (l.take i).foldl Dig.rk 0 ∧ Ch [] w w') (fun st _ => 20 - st.2.1.toNat) ⟨0, 0, rfl, rfl, Nat.zero_le _, Nat.zero_le _, rfl, Ch.refl _ _⟩ ?_
  rintro ⟨a0, i0, un⟩ w1 next ⟨i, a, rfl, rfl, hi, hi20, ha, hc1⟩ hnext
  dsimp only
  have ha64 : a < 18446744073709551616 := by rw [ha]; exact Dig.rkF_lt _ (by decide)
  have step : ∀ {c : UInt8} {b : Nat}, l[i]? = some c → b = Dig.rk a c → i < s.size → i < 20 → next ((b : Int), (IntKind.i64.wrap ((i : Int) + 1)), ()) w1 := fun {c b} hc hb h1 h2 => by
    rw [wrap_i64 (by omega)]
    refine hnext _ _ ⟨i + 1, b, rfl, by simp, by omega, by omega, ?_, hc1⟩ (by simp; omega)
    rw [hb, ha, List.take_add_one, hc]
    simp
  -- the number, when all is read
  have ends : (i = s.size ∨ i = 20) → iteB (decide (((s.size : Int) : Int) > 0))
      (chP s 0 fun b9 => iteB ((b9 : Int) == 45)
      (c_preluderef01_Digits (IntKind.i64.wrap (IntKind.u64.wrap (0 - (a : Int)))) w1 fun r10 w11 => iteB (!((r10).toList == (s).toList))
      (K 0 false w11)
      (K (IntKind.i64.wrap (IntKind.u64.wrap (0 - (a : Int)))) true w11))
      (c_preluderef01_Digits (IntKind.i64.wrap (a : Int)) w1 fun r12 w13 => iteB (!((r12).toList == (s).toList))
      (K 0 false w13)
      (K (IntKind.i64.wrap (a : Int)) true w13)))
      (c_preluderef01_Digits (IntKind.i64.wrap (a : Int)) w1 fun r14 w15 => iteB (!((r14).toList == (s).toList))
      (K 0 false w15)
      (K (IntKind.i64.wrap (a : Int)) true w15)) := fun hend => by
    have hN : Dig.rkN l = a := by
      unfold Dig.rkN
      rw [ha]
      rcases hend with h | h
      · rw [List.take_of_length_le (by omega), List.take_of_length_le (by omega)]
      · rw [h]
    have pos : l.head? ≠ some 45 → IntKind.i64.wrap (a : Int) = Dig.rkV l := fun h => by
      have e : Dig.rkU l = a := by unfold Dig.rkU; rw [if_neg h, hN]
      unfold Dig.rkV
      rw [e, wrap_sg ha64]
    refine iteB_dec (fun hp => ?_) fun hp => ?_
    · have hne : 0 < l.length := by omega
      have h0 : l[0]? = some l[0] := by simp
      have hh : l.head? = l[0]? := by rw [List.head?_eq_getElem?]
      refine chP_at (i := 0) rfl (by rw [hll]; exact h0) ?_
      generalize l[0] = c at h0
      refine iteB_eq (fun hc => ?_) fun hc => ?_
      · have hc45 : c = 45 := by
          apply UInt8.toNat_inj.1
          show c.toNat = 45
          omega
        refine fin ?_ hc1
        have e : Dig.rkU l = (18446744073709551616 - a) % 18446744073709551616 := by unfold Dig.rkU; rw [if_pos (by rw [hh, h0, hc45]), hN]
        unfold Dig.rkV
        rw [e]
        have e2 : IntKind.u64.wrap (0 - (a : Int)) = (((18446744073709551616 - a) % 18446744073709551616 : Nat) : Int) := by
          simp only [IntKind.wrap, IntKind.signed, IntKind.bits]
          simp
          omega
        rw [e2]
        generalize (18446744073709551616 - a) % 18446744073709551616 = b at *
        have hb : b < 18446744073709551616 := by rw [← e]; exact Dig.rkU_lt l
        rw [wrap_sg hb]
      · refine fin (pos fun h => ?_) hc1
        rw [hh, h0] at h
        cases h
        exact hc rfl
    · refine fin (pos fun h => ?_) hc1
      have : l = [] := List.eq_nil_of_length_eq_zero (by omega)
      rw [this] at h; cases h
  refine iteB_dec (fun h => ?_) fun h => ends (.inl (by omega))
  have hlt : i < s.size := by omega
  refine iteB_dec (fun h2 => ?_) fun h2 => ends (.inr (by omega))
  have hc : l[i]? = some (l[i]'(by omega)) := by simp
  generalize l[i]'(by omega) = c at hc
  have hcs : s.data.toList[i]? = some c := by rw [hll]; exact hc
  refine chP_at rfl hcs ?_
  have skip : ¬ (48 ≤ c.toNat ∧ c.toNat ≤ 57) → next ((a : Int), (IntKind.i64.wrap ((i : Int) + 1)), ()) w1 := fun hn => step hc (by unfold Dig.rk; rw [if_neg hn]) hlt (by omega)
  refine iteB_dec (fun h3 => ?_) fun h3 => skip (by omega)
  refine chP_at rfl hcs ?_
  refine iteB_dec (fun h4 => ?_) fun h4 => skip (by omega)
  refine chP_at rfl hcs ?_
  have e : IntKind.u64.wrap ((IntKind.u64.wrap (10 * (a : Int))) + (IntKind.u64.wrap (IntKind.u8.wrap ((c.toNat : Int) - 48)))) = ((Dig.rk a c : Nat) : Int) := by
    unfold Dig.rk
    rw [if_pos (by omega), wrap_u8 (by omega), wrap_u64 (x := (c.toNat : Int) - 48) (by omega), show (10 : Int) * (a : Int) = ((10 * a : Nat) : Int) by omega, wrap_mod,
      show (((10 * a) % 18446744073709551616 : Nat) : Int) + ((c.toNat : Int) - 48) = (((10 * a) % 18446744073709551616 + (c.toNat - 48) : Nat) : Int) by omega, wrap_mod]
    congr 1
    omega
  rw [e]
  exact step hc rfl hlt (by omega)
theorem law_CodecDigits' {n : Int} {s : ByteArray} {w : World} (hL : Lv w) (h64 : Dig.I64 n) (hl : s.size ≤ 281474976710656) : c_preludelaw01_CodecDigits n s w fun r w' => r = true ∧ Chg Nil w w' := by
  refine sim_preludelaw01_CodecDigits ?_
  unfold sh_preludelaw01_CodecDigits
  refine digits_ok h64 hL fun w1 hc1 => ?_
  have hsz : (ByteArray.mk (itoa n).toArray).size ≤ 281474976710656 := by
    show (itoa n).toArray.size ≤ _
    have : (itoa n).length ≤ 21 := by
      unfold itoa
      unfold Dig.I64 at h64
      split
      · have := Dig.dec_len20 (u := n.natAbs) (by omega)
        simp; omega
      · have := Dig.dec_len20 (u := n.toNat) (by omega)
        omega
    simp; omega
  refine number_ok (hL.ch0 hc1) hsz fun w2 hc2 => ?_
  have e : Dig.numC (ByteArray.mk (itoa n).toArray).data.toList = (n, true) := by
    show Dig.numC (itoa n).toArray.toList = _
    rw [List.toList_toArray]
    exact Dig.numC_itoa h64
  rw [e]
  have c02 := hc1.tr hc2
  refine number_ok (hL.ch0 c02) hl fun w3 hc3 => ?_
  refine refNumber_ok hl fun w4 hc4 => ?_
  refine refDigits_ok h64 fun w5 hc5 => ?_
  rw [str_eq, decide_eq_true rfl]
  refine iteB_pos rfl (iteB_pos (by simp) (iteB_pos rfl ?_))
  rw [Dig.num_eq]
  refine iteB_pos (by simp) ⟨by simp, ((c02.tr hc3).tr hc4).tr hc5⟩
end Go.Proofs.YtmadhcoeiclalaaDoor
