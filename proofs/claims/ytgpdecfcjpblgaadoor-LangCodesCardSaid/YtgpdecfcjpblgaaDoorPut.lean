/- Put: a program as bytes: lang.Put, the document's Written; the law LangPuts. -/
import Derived.Test.YtgpdecfcjpblgaaDoorPr
import Derived.Test.YtgpdecfcjpblgaaDoorSb
import Derived.Test.YtgpdecfcjpblgaaDoorRefU
import Derived.Test.YtgpdecfcjpblgaaDoorGt
set_option linter.unusedVariables false
set_option linter.unusedSimpArgs false
namespace Go.Lang
open Go.Num
def hdI (a b c d : Int) (n : Nat) : List Int := [a, b, c, d, (n : Int)]
def hdB (l : List Int) : List UInt8 := l.flatMap fun x => encU x.toNat
def insB (x : Int × Int) : List UInt8 := if x.2 = 0 then [UInt8.ofNat x.1.toNat] else UInt8.ofNat (x.1.toNat + 64) :: encU (zig x.2)
def opOk (x : Int × Int) : Bool := decide (0 ≤ x.1 ∧ x.1 ≤ 36)
def putT (a b c d : Int) (l : List (Int × Int)) : List UInt8 × Int := if okP a b c d l.length = false then ([], 30) else if l.all opOk = false then ([], 31) else (hdB (hdI a b c d l.length) ++ l.flatMap insB, 0)
def I64 (l : List (Int × Int)) : Prop := ∀ x ∈ l, (-9223372036854775808 ≤ x.1 ∧ x.1 ≤ 9223372036854775807) ∧ (-9223372036854775808 ≤ x.2 ∧ x.2 ≤ 9223372036854775807)
theorem insB_len {x : Int × Int} (h : -9223372036854775808 ≤ x.2 ∧ x.2 ≤ 9223372036854775807) : (insB x).length ≤ 11 := by
  unfold insB
  split
  · simp
  · have := encU_ten _ (zig_lt h)
    simp; omega
theorem body_len {l : List (Int × Int)} (h : I64 l) : (l.flatMap insB).length ≤ 11 * l.length := by
  induction l with
  | nil => simp
  | cons x l ih =>
    have := ih fun y hy => h y (by simp [hy])
    have := insB_len (h x (by simp)).2
    simp only [List.flatMap_cons, List.length_append, List.length_cons]; omega
theorem I64.take {l : List (Int × Int)} (h : I64 l) (i : Nat) : I64 (l.take i) := fun x hx => h x (List.mem_of_mem_take hx)
theorem hdB_len {l : List Int} (h : ∀ x ∈ l, 0 ≤ x ∧ x ≤ 256) : (hdB l).length ≤ 10 * l.length := by
  unfold hdB
  induction l with
  | nil => simp
  | cons x l ih =>
    have := ih fun y hy => h y (by simp [hy])
    have h1 := h x (by simp)
    have := encU_ten x.toNat (by omega)
    simp only [List.flatMap_cons, List.length_append, List.length_cons]; omega
theorem hdI_ok {a b c d : Int} {n : Nat} (h : okP a b c d n = true) : ∀ x ∈ hdI a b c d n, 0 ≤ x ∧ x ≤ 256 := by
  simp [okP] at h
  simp [hdI]
  omega
theorem okP_le {a b c d : Int} {n : Nat} (h : okP a b c d n = true) : n ≤ 256 := by
  simp [okP] at h
  omega
theorem hdI_arr (a b c d : Int) (n : Nat) : (#[.int .i64 a, .int .i64 b, .int .i64 c, .int .i64 d, .int .i64 (n : Int)] : Array Go.Value) = ((hdI a b c d n).map (Go.Value.int .i64)).toArray := rfl
end Go.Lang
namespace Go.Proofs.YtgpdecfcjpblgaaDoor
open Go Go.Sh Go.Pl Go.RowKit Go.Lang Go.Num Go.Gt
theorem sameBytes_ok {a b : Slc} {xs ys : List UInt8} {w : World} {K : Bool → World → Prop} (ha : Rd w a (U8 xs)) (hb : Rd w b (U8 ys)) (hl : xs.length ≤ 9000000000000000000)
    (hK : ∀ w', Ch [] w w' → K (decide (xs = ys)) w') : c_preludelaw03_sameBytes a b w K := by
  refine sim_preludelaw03_sameBytes ?_
  unfold sh_preludelaw03_sameBytes
  exact sameB ha hb hl hK
theorem u8_op {x : Int × Int} (h : opOk x = true) : IntKind.u8.wrap x.1 = ((UInt8.ofNat x.1.toNat).toNat : Int) ∧ IntKind.u8.wrap (IntKind.u8.wrap x.1 + 64) = ((UInt8.ofNat (x.1.toNat + 64)).toNat : Int) := by
  simp [opOk] at h
  rw [wrap_u8 (x := x.1) (by omega), wrap_u8 (by omega), UInt8.toNat_ofNat', UInt8.toNat_ofNat']
  omega
set_option maxRecDepth 20000 in
theorem put_ok {a b c d : Int} {s sw : Slc} {bw : Nat} {ws : List UInt8} {is : List (Int × Int)} {w : World} {K : Int → World → Prop} (hw : Wr w bw sw ws) (hsR : ∀ w', Ch [some bw, blkOf sw] w w' → RdC w' s is) (h64 : I64 is) (hl : ws.length ≤ 1000000000)
    (hK : ∀ sw' w', Wr w' bw sw' (ws ++ (putT a b c d is).1) → WSt bw sw sw' w w' → K (putT a b c d is).2 w') : c_lang_Put (some ⟨bw, 0, none⟩) a b c d s w K := by
  refine sim_lang_Put ?_
  unfold sh_lang_Put
  have hs := hsR w (Ch.refl _ _)
  have ls := hs.len
  refine newB fun k1 w1 hc1 hb1 hk1 hs1 => ?_
  refine ldPr (s := s) hb1 ?_
  refine sizes_ok fun w2 (hc2 : Ch [] w1 w2) => ?_
  have hwst0 : WSt bw sw sw w w2 := by have := WSt.refl bw sw w; grind
  have hw2 : Wr w2 bw sw ws := by grind
  unfold putT at hK
  rw [← ls] at hK
  by_cases hok : okP a b c d s.l = false
  · rw [if_pos hok] at hK
    rw [hok]
    exact iteB_pos (by simp) (hK sw w2 (by simpa using hw2) hwst0)
  rw [if_neg hok] at hK
  have hok : okP a b c d s.l = true := by simpa using hok
  have h256 := okP_le hok
  rw [hok]
  refine iteB_neg (by simp) ?_
  refine ldS_b (s := s) (Blk.to hb1 (by grind)) rfl ?_
  refine loopP_inv (fun st w3 => ∃ i : Nat, st.1 = (i : Int) ∧ i ≤ is.length ∧ Ch [] w2 w3 ∧ (is.take i).all opOk = true) (fun st _ => is.length - st.1.toNat) ⟨0, rfl, Nat.zero_le _, Ch.refl _ _, by simp⟩ ?_
  rintro ⟨i0, u⟩ w3 next ⟨i, rfl, hi, hc3, hall⟩ hnext
  dsimp only
  refine iteB_intro (fun h => ?_) (fun h => ?_)
  · have hlt : i < is.length := by simp [ls] at h; omega
    refine (hsR w3 (hwst0.thenC hc3).ch.1).idx rfl hlt fun ad h1 h2 => ldI_of h1 (ldI_of h2 ?_)
    refine newIn fun k4 w4 hc4 hb4 hk4 hs4 => ?_
    refine ldI_b (o := 0) hb4 rfl (within_ok ?_)
    have hop : decide (0 ≤ is[i].1 ∧ is[i].1 ≤ 36) = opOk is[i] := rfl
    rw [hop]
    refine iteB_intro (fun hb => ?_) (fun hb => ?_)
    · have hnot : is.all opOk = false := by
        rw [List.all_eq_false]
        exact ⟨is[i], List.getElem_mem _, by simpa using hb⟩
      rw [if_pos hnot] at hK
      exact hK sw w4 (by rw [List.append_nil]; grind) (by grind)
    · rw [wrap_i64 (by omega)]
      refine hnext _ _ ⟨i + 1, by simp, hlt, by grind, ?_⟩ (by simp; omega)
      rw [List.take_succ_eq_append_getElem hlt, List.all_append, hall]
      simpa using hb
  have hie : i = is.length := by simp [ls] at h; omega
  subst hie
  rw [List.take_length] at hall
  rw [if_neg (by simp [hall])] at hK
  clear hnext
  refine ldPr (s := s) (Blk.to hb1 (by grind)) ?_
  refine newB fun k5 w5 hc5 hb5 hk5 hs5 => ?_
  rw [hdI_arr, ls] at hb5
  rw [ls] at hK hok
  have hhd := hdI_ok hok
  generalize hg : hdI a b c d is.length = hd5 at hb5 hhd hK
  have hl5 : hd5.length = 5 := by rw [← hg]; rfl
  have hw5 : Wr w5 bw sw ws := by grind
  have hst5 : WSt bw sw sw w w5 := by grind
  have hb15 := Blk.to hb1 (by grind : Blk w5 k1 _ _)
  have hdl : ∀ i, (hdB (hd5.take i)).length ≤ 50 := fun i => by
    have := hdB_len (l := hd5.take i) fun x hx => hhd x (List.mem_of_mem_take hx)
    simp at this
    omega
  refine loopP_inv (fun st w6 => ∃ (i : Nat) (s6 : Slc), st.1 = (i : Int) ∧ i ≤ 5 ∧ Wr w6 bw s6 (ws ++ hdB (hd5.take i)) ∧ WSt bw sw s6 w5 w6) (fun st _ => 5 - st.1.toNat) ⟨0, sw, rfl, Nat.zero_le _, by simpa [hdB] using hw5, WSt.refl _ _ _⟩ ?_
  rintro ⟨i0, u⟩ w6 next ⟨i, s6, rfl, hi, hw6, hst6⟩ hnext
  dsimp only
  refine iteB_intro (fun h => ?_) (fun h => ?_)
  · have hlt : i < 5 := by simp at h; omega
    refine idxP_intro (by omega) (by omega) rfl ?_
    have hv : (hd5.map (Value.int .i64)).toArray[(Int.toNat (i : Int)) * 1]? = some (.int .i64 hd5[i]) := by simp [hl5, hlt]
    have hx := hhd hd5[i] (List.getElem_mem _)
    refine ldI_b (Blk.to hb5 (by grind)) hv ?_
    rw [wrap_u64 (by omega), show hd5[i] = ((hd5[i].toNat : Nat) : Int) by omega]
    have := hdl i
    refine wuint_ok hw6 (by omega) (by rw [List.length_append]; omega) fun s7 w7 hw7 hst7 => ?_
    rw [wrap_i64 (by omega)]
    refine hnext _ _ ⟨i + 1, s7, by simp, hlt, ?_, by grind⟩ (by simp; omega)
    rw [List.take_succ_eq_append_getElem (by omega)]
    unfold hdB at hw7 ⊢
    rw [List.flatMap_append, ← List.append_assoc]
    simpa only [List.flatMap_cons, List.flatMap_nil, List.append_nil] using hw7
  have hie : i = 5 := by simp at h; omega
  subst hie
  rw [List.take_of_length_le (by omega)] at hw6
  have hd0 : (hdB hd5).length ≤ 50 := by have := hdl 5; rwa [List.take_of_length_le (by omega)] at this
  clear hnext
  refine ldS_b (s := s) (Blk.to hb15 (by grind)) rfl ?_
  have hw2' : WSt bw sw s6 w w6 := by grind
  refine loopP_inv (fun st w8 => ∃ (i : Nat) (s8 : Slc), st.1 = (i : Int) ∧ i ≤ is.length ∧ Wr w8 bw s8 (ws ++ (hdB hd5 ++ (is.take i).flatMap insB)) ∧ WSt bw s6 s8 w6 w8) (fun st _ => is.length - st.1.toNat) ⟨0, s6, rfl, Nat.zero_le _, by simpa using hw6, WSt.refl _ _ _⟩ ?_
  rintro ⟨i0, u⟩ w8 next ⟨i, s8, rfl, hi, hw8, hst8⟩ hnext
  dsimp only
  refine iteB_intro (fun h => ?_) (fun h => ?_)
  · have hlt : i < is.length := by simp [ls] at h; omega
    have hbl := body_len (h64.take i)
    rw [List.length_take] at hbl
    have hx64 := h64 is[i] (List.getElem_mem _)
    have hxo := List.all_eq_true.1 hall is[i] (List.getElem_mem _)
    have hu := u8_op hxo
    refine (hsR w8 (hw2'.tr hst8).ch.1).idx rfl hlt fun ad h1 h2 => ldI_of h1 (ldI_of h2 ?_)
    refine newIn fun k9 w9 hc9 hb9 hk9 hs9 => ?_
    have hw9 : Wr w9 bw s8 _ := hw8.to (by grind)
    have fin : ∀ s10 w10, Wr w10 bw s10 ((ws ++ (hdB hd5 ++ (is.take i).flatMap insB)) ++ insB is[i]) → WSt bw s8 s10 w9 w10 → next ((IntKind.i64.wrap ((i : Int) + 1)), ()) w10 := fun s10 w10 hw10 hst10 => by
      rw [wrap_i64 (by omega)]
      refine hnext _ _ ⟨i + 1, s10, by simp, hlt, ?_, by grind⟩ (by simp; omega)
      rw [List.take_succ_eq_append_getElem hlt, List.flatMap_append]
      simp only [List.flatMap_cons, List.flatMap_nil, List.append_nil, List.append_assoc] at hw10 ⊢
      exact hw10
    have i0 : is[i].2 = 0 → insB is[i] = [UInt8.ofNat is[i].1.toNat] := fun h => by unfold insB; rw [if_pos h]
    have i1 : ¬ is[i].2 = 0 → insB is[i] = UInt8.ofNat (is[i].1.toNat + 64) :: encU (zig is[i].2) := fun h => by unfold insB; rw [if_neg h]
    refine ldI_b hb9 rfl (iteB_intro (fun h0 => ?_) (fun h0 => ?_))
    · have h0 : is[i].2 = 0 := by simpa using h0
      rw [i0 h0] at fin
      refine ldI_b (o := 0) hb9 rfl ?_
      rw [hu.1]
      exact wbyte_ok hw9 (by simp only [List.length_append]; omega) fin
    · have h0 : ¬ is[i].2 = 0 := by simpa using h0
      rw [i1 h0] at fin
      refine ldI_b (o := 0) hb9 rfl ?_
      rw [hu.2]
      refine wbyte_ok hw9 (by simp only [List.length_append]; omega) fun s10 w10 hw10 hst10 => ?_
      refine ldI_b (Blk.to hb9 (by grind)) rfl ?_
      refine wint_ok hw10 hx64.2 (by simp only [List.length_append, List.length_cons, List.length_nil]; omega) fun s11 w11 hw11 hst11 => ?_
      rw [List.append_assoc, List.singleton_append] at hw11
      exact fin s11 w11 hw11 (by grind)
  have hie : i = is.length := by simp [ls] at h; omega
  subst hie
  rw [List.take_length] at hw8
  exact hK s8 w8 hw8 (by grind)
end Go.Proofs.YtgpdecfcjpblgaaDoor
