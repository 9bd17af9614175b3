/- BEnds: the law BatchEnds (by size). -/
import Derived.Test.YtlnhecbgjjglfaaBBack
set_option linter.unusedVariables false
set_option linter.unusedSimpArgs false
namespace Go.Proofs.Ytlnhecbgjjglfaa
open Go Go.Sh Go.Pl Go.RowKit Go.Num Go.Gt
/-- Two rows of bytes, one behind the other, in new memory. -/
theorem copyB2 {x y : Slc} {bs cs : List UInt8} {w : World} {K : Slc → World → Prop} (hx : Rd w x (U8 bs)) (hxn : x.a = none → x.l = 0 ∧ x.c = 0) (hy : Rd w y (U8 cs)) (hyn : y.a = none → y.l = 0 ∧ y.c = 0) (hl : bs.length + cs.length ≤ 100000000)
    (hK : ∀ s w', Own w' 5 1 s (U8 (bs ++ cs)) → Ch [] w w' → Ge w.heap.size (blkOf s) → K s w') :
    newP #[] 5 w fun a1 w2 => apP Try.prog #[50, 50] 50 [.slice (some a1) 0 0, .slice x.a x.l x.c] w2 fun s3 w3 => apP Try.prog #[50, 50] 50 [.slice s3.a s3.l s3.c, .slice y.a y.l y.c] w3 K := by
  refine copyB hx hxn (by omega) fun s w1 ho hc hg => ?_
  refine (⟨ho, hc, hg⟩ : OB w w1 s bs).app (hy.ch0 hc) hyn (by omega) fun s' w' h' => hK s' w' h'.own h'.ch h'.ge
set_option maxRecDepth 20000 in
set_option maxHeartbeats 4000000 in
theorem law_BatchEnds {b x y : Slc} {mb : Mo batG} {bs cs : List UInt8} {cut : Int} {w : World} (k0 : Gt.Rep reachBytes w batG [.slice b.a b.l b.c] mb) (r1 : Rd w x (U8 bs)) (n1 : x.a = none → x.l = 0 ∧ x.c = 0) (z1 : x.c ≤ reachBytes) (r2 : Rd w y (U8 cs)) (n2 : y.a = none → y.l = 0 ∧ y.c = 0) (z2 : y.c ≤ reachBytes) (w3 : (Lit.int .i64 cut).wf = true)
    (hb : bulk (.pair batG (.pair .bytes (.pair .bytes (.pair (.int .i64) .unit)))) (mb, bs, cs, cut, ()) ≤ 1048576) : c_preludelaw06_BatchEnds b x y cut w fun r w' => r = true ∧ Chg Nil w w' := by
  refine sim_preludelaw06_BatchEnds ?_
  unfold sh_preludelaw06_BatchEnds
  have hsm : bs.length ≤ 1048576 ∧ cs.length ≤ 1048576 := by
    have : bulk batG mb + ((bs.length + 1) + ((cs.length + 1) + (1 + 0))) ≤ 1048576 := hb
    omega
  clear hb
  obtain ⟨hb, big, hbn, hbc⟩ := rep_bat (Nat.le_refl _) k0
  have h64 := rep_bat64 k0
  have hre : reachBytes = 140737488351232 := rfl
  have lb := hb.len
  have cb := hb.cap
  have ly := r2.len
  rw [U8_length] at ly
  generalize batOf mb = xs at *
  have ha64 : ∀ x ∈ xs, I64s x.args := fun x hx => (h64 x hx).a
  have hel := encT_len ha64
  refine parts_ok hb big (by omega) (by omega) fun n w1 hc1 hfew hn => ?_
  refine iteB_dec (fun h => ⟨rfl, hc1⟩) (fun h => ?_)
  have few := hfew (by omega)
  refine works_ok fun w2 hc2 => iteB_neg rfl ?_
  replace hc2 := hc1.tr hc2
  refine lent_ok (hb.ch0 hc2) (fun h => (hbn h).1) few fun s3 w3 hl3 hnil hc3 => ?_
  replace hc3 := hc2.tr hc3
  refine benc_ok hl3.rdB ha64 fun s4 w4 ho4 hc4 hg4 hl4 hn4 => numK ?_
  replace hc4 := hc3.tr hc4
  have rest : ∀ w5, Ch [] w w5 → newP #[] 5 w5 fun a63 w64 => apP Try.prog #[50, 50] 50 [.slice (some a63) 0 0, .slice x.a x.l x.c] w64 fun s66 w65 => c_batch_Decode s66 w65 fun r67 r68 r69 w70 => c_preludelaw06_num r69 w70 fun r71 w72 => iteB ((r71 : Int) == 0)
      ((fun r w' => r = true ∧ Chg Nil w w') true w72)
      (c_preludelaw06_num r69 w72 fun r73 w74 => iteB ((r73 : Int) == 10)
      ((fun r w' => r = true ∧ Chg Nil w w') true w74)
      (newP #[] 5 w74 fun a75 w76 => apP Try.prog #[50, 50] 50 [.slice (some a75) 0 0, .slice x.a x.l x.c] w76 fun s78 w77 => apP Try.prog #[50, 50] 50 [.slice s78.a s78.l s78.c, .slice y.a y.l y.c] w77 fun s80 w79 => c_batch_Decode s80 w79 fun r81 r82 r83 w84 => iteB ((r82 : Int) == r68)
      (c_preludelaw06_num r83 w84 fun r85 w86 => c_preludelaw06_num r69 w86 fun r87 w88 => (fun r w' => r = true ∧ Chg Nil w w') ((r85 : Int) == r87) w88)
      ((fun r w' => r = true ∧ Chg Nil w w') false w84))) := fun w5 hc5 => by
    refine copyB (r1.ch0 hc5) n1 (by omega) fun s6 w6 ho6 hc6 hg6 => ?_
    refine bdec_ok ho6.rd (by omega) fun s7 ts7 w7 hD7 he7 hc7 => numK ?_
    have hc7' := (hc5.tr hc6).tr hc7
    refine iteB_eq (fun h => ⟨rfl, hc7'⟩) (fun h => numK ?_)
    refine iteB_eq (fun h' => ⟨rfl, hc7'⟩) (fun h' => ?_)
    refine copyB2 (r1.ch0 hc7') n1 (r2.ch0 hc7') n2 (by omega) fun s8 w8 ho8 hc8 hg8 => ?_
    refine bdec_ok ho8.rd (by simp; omega) fun s9 ts9 w9 hD9 he9 hc9 => ?_
    rw [decB_ext h h']
    exact iteB_pos (by simp) (numK (numK ⟨by simp, (hc7'.tr hc8).tr hc9⟩))
  by_cases he : (encT xs).2 = 0
  · rw [he]
    refine iteB_pos rfl ?_
    obtain ⟨e1, e2, e3⟩ := encT_ok he
    have hfx : ∀ x ∈ xs, Frm x ∧ T64 x := fun y hy => ⟨e3 y hy, h64 y hy⟩
    have cutp : ∀ w5, Ch [] w4 w5 → iteB (decide ((cut : Int) ≥ 0))
        (iteB (decide ((cut : Int) < (s4.l : Int)))
        (newP #[] 5 w5 fun a24 w25 => slP s4.a s4.l s4.c none (some cut) 1 fun p26 l27 c28 => apP Try.prog #[50, 50] 50 [.slice (some a24) 0 0, .slice p26 l27 c28] w25 fun s30 w29 => c_batch_Decode s30 w29 fun r31 r32 r33 w34 => c_preludelaw06_num r33 w34 fun r35 w36 => iteB ((r35 : Int) != 10)
        ((fun r w' => r = true ∧ Chg Nil w w') false w36)
        (iteB (decide ((r32 : Int) > cut))
        ((fun r w' => r = true ∧ Chg Nil w w') false w36)
        (newP #[] 5 w36 fun a63 w64 => apP Try.prog #[50, 50] 50 [.slice (some a63) 0 0, .slice x.a x.l x.c] w64 fun s66 w65 => c_batch_Decode s66 w65 fun r67 r68 r69 w70 => c_preludelaw06_num r69 w70 fun r71 w72 => iteB ((r71 : Int) == 0)
      ((fun r w' => r = true ∧ Chg Nil w w') true w72)
      (c_preludelaw06_num r69 w72 fun r73 w74 => iteB ((r73 : Int) == 10)
      ((fun r w' => r = true ∧ Chg Nil w w') true w74)
      (newP #[] 5 w74 fun a75 w76 => apP Try.prog #[50, 50] 50 [.slice (some a75) 0 0, .slice x.a x.l x.c] w76 fun s78 w77 => apP Try.prog #[50, 50] 50 [.slice s78.a s78.l s78.c, .slice y.a y.l y.c] w77 fun s80 w79 => c_batch_Decode s80 w79 fun r81 r82 r83 w84 => iteB ((r82 : Int) == r68)
      (c_preludelaw06_num r83 w84 fun r85 w86 => c_preludelaw06_num r69 w86 fun r87 w88 => (fun r w' => r = true ∧ Chg Nil w w') ((r85 : Int) == r87) w88)
      ((fun r w' => r = true ∧ Chg Nil w w') false w84))))))
        (newP #[] 5 w5 fun a63 w64 => apP Try.prog #[50, 50] 50 [.slice (some a63) 0 0, .slice x.a x.l x.c] w64 fun s66 w65 => c_batch_Decode s66 w65 fun r67 r68 r69 w70 => c_preludelaw06_num r69 w70 fun r71 w72 => iteB ((r71 : Int) == 0)
      ((fun r w' => r = true ∧ Chg Nil w w') true w72)
      (c_preludelaw06_num r69 w72 fun r73 w74 => iteB ((r73 : Int) == 10)
      ((fun r w' => r = true ∧ Chg Nil w w') true w74)
      (newP #[] 5 w74 fun a75 w76 => apP Try.prog #[50, 50] 50 [.slice (some a75) 0 0, .slice x.a x.l x.c] w76 fun s78 w77 => apP Try.prog #[50, 50] 50 [.slice s78.a s78.l s78.c, .slice y.a y.l y.c] w77 fun s80 w79 => c_batch_Decode s80 w79 fun r81 r82 r83 w84 => iteB ((r82 : Int) == r68)
      (c_preludelaw06_num r83 w84 fun r85 w86 => c_preludelaw06_num r69 w86 fun r87 w88 => (fun r w' => r = true ∧ Chg Nil w w') ((r85 : Int) == r87) w88)
      ((fun r w' => r = true ∧ Chg Nil w w') false w84)))))
        (newP #[] 5 w5 fun a63 w64 => apP Try.prog #[50, 50] 50 [.slice (some a63) 0 0, .slice x.a x.l x.c] w64 fun s66 w65 => c_batch_Decode s66 w65 fun r67 r68 r69 w70 => c_preludelaw06_num r69 w70 fun r71 w72 => iteB ((r71 : Int) == 0)
      ((fun r w' => r = true ∧ Chg Nil w w') true w72)
      (c_preludelaw06_num r69 w72 fun r73 w74 => iteB ((r73 : Int) == 10)
      ((fun r w' => r = true ∧ Chg Nil w w') true w74)
      (newP #[] 5 w74 fun a75 w76 => apP Try.prog #[50, 50] 50 [.slice (some a75) 0 0, .slice x.a x.l x.c] w76 fun s78 w77 => apP Try.prog #[50, 50] 50 [.slice s78.a s78.l s78.c, .slice y.a y.l y.c] w77 fun s80 w79 => c_batch_Decode s80 w79 fun r81 r82 r83 w84 => iteB ((r82 : Int) == r68)
      (c_preludelaw06_num r83 w84 fun r85 w86 => c_preludelaw06_num r69 w86 fun r87 w88 => (fun r w' => r = true ∧ Chg Nil w w') ((r85 : Int) == r87) w88)
      ((fun r w' => r = true ∧ Chg Nil w w') false w84)))) := fun w5 hc5 => by
      refine iteB_dec (fun h0 => iteB_dec (fun h1 => ?_) fun h1 => rest w5 (hc4.tr hc5)) fun h0 => rest w5 (hc4.tr hc5)
      have ho5 := ho4.ch0 hc5
      have hcl : cut.toNat < (encT xs).1.length := by omega
      refine newB fun k w6 hc6 hb6 hk6 hs6 => ?_
      have ho6 := ho5.ch0 hc6
      have hown : Own w6 5 1 ⟨some ⟨k, 0, none⟩, 0, 0⟩ [] := ⟨by simp, .inr ⟨k, 0, #[], rfl, Nat.zero_le _, hb6, Nat.le_refl _, by unfold maxLen; omega, by simp, by simp⟩⟩
      refine ho6.rd.sl (l := 0) (u := cut.toNat) rfl (by simp only [Option.getD_some]; omega) (Nat.zero_le _) (by simp; omega) fun p hp hpa => ?_
      rw [U8_part, List.drop_zero] at hp
      replace hp : Rd w6 ⟨p, cut.toNat, s4.c⟩ (U8 ((encT xs).1.take cut.toNat)) := hp
      have hpl := hp.len
      rw [U8_length, List.length_take] at hpl
      have hsa : s4.a ≠ none := fun h => by have := hn4 h; omega
      refine apO TU8 (s := ⟨some ⟨k, 0, none⟩, 0, 0⟩) (x := ⟨p, cut.toNat, s4.c⟩) hown hp (fun h => by
        have h : p = none := h
        rw [h] at hpa
        cases hq : s4.a with
        | none => exact absurd hq hsa
        | some q => rw [hq] at hpa; cases hpa) (U8_one _) (by simp only []; omega) (by simp only []; omega) fun s7 w7 ho7 hl7 hg7 => ?_
      obtain ⟨hc7, hf7⟩ := hg7.ch
      have hc47 : Ch [] w5 w7 := hc6.trO hc7 fun j hj => by
        have hj : some k = some j := hj
        cases hj; omega
      rw [List.nil_append] at ho7
      refine bdec_ok ho7.rd (by simp; omega) fun s8 ts8 w8 hD8 he8 hc8 => numK ?_
      have hcut : (decB ((encT xs).1.take cut.toNat)).2.2 = 10 := by
        refine decB_cut (t := (encT xs).1.drop cut.toNat) ?_ fun h => ?_
        · have := decB_enc e2 hfx []
          rw [List.append_nil, if_pos rfl] at this
          rw [List.take_append_drop, e1, this]
        · have := congrArg List.length h
          simp at this; omega
      rw [hcut]
      refine iteB_neg rfl ?_
      have hat := decB_at ((encT xs).1.take cut.toNat)
      rw [List.length_take] at hat
      refine iteB_dec (fun h => by omega) fun _ => ?_
      exact rest w8 (((hc4.tr hc5).tr hc47).tr hc8)
    refine iteB_dec (fun ht => ?_) (fun ht => cutp w4 (Ch.refl _ _))
    have hne : cs ≠ [] := fun h => by rw [h] at ly; simp at ly; omega
    refine copyB2 ho4.rd ho4.none0 (r2.ch0 hc4) n2 (by omega) fun s5 w5 ho5 hc5 hg5 => ?_
    refine bdec_ok ho5.rd (by simp; omega) fun s6 ts6 w6 hD6 he6 hc6 => numK ?_
    have hdec := decB_enc e2 hfx cs
    rw [if_neg hne, ← e1] at hdec
    rw [hdec]
    refine iteB_neg rfl (iteB_neg (by simp [hl4]) ?_)
    exact cutp w6 (hc5.tr hc6)
  · refine iteB_neg (by simpa using he) ?_
    exact rest w4 hc4
end Go.Proofs.Ytlnhecbgjjglfaa
