/- Back: the law LangBack. -/
import Derived.Test.YtgpdecfcjpblgaaDec
set_option linter.unusedVariables false
set_option linter.unusedSimpArgs false
namespace Go.Lang
open Go.Num
theorem headB_len : headB.length = 4 := rfl
theorem raw4 {bs r : List UInt8} (h : bs = headB ++ r) : rRaw bs 0 0 4 = (headB, 4, 0) := by
  have hl := congrArg List.length h
  rw [List.length_append, headB_len] at hl
  unfold rRaw
  rw [if_neg (by simp), if_neg (by omega), if_neg (by omega), h, List.drop_zero]
  rfl
theorem raw4_form {bs : List UInt8} {a1 : Nat} (h : rRaw bs 0 0 4 = (headB, a1, 0)) : bs = headB ++ bs.drop 4 ∧ a1 = 4 ∧ 4 ≤ bs.length := by
  unfold rRaw at h
  rw [if_neg (by simp), if_neg (by omega)] at h
  split at h
  · simp [headB] at h
  · simp only [List.drop_zero, Prod.mk.injEq, and_true] at h
    obtain ⟨h1, h2⟩ := h
    refine ⟨?_, by omega, by omega⟩
    have h4 : bs.take 4 = headB := h1
    rw [← h4, List.take_append_drop]
theorem pc_eta (x : Pc) : (⟨⟨x.name.data.toList.toArray⟩, ⟨x.p.a, x.p.b, x.p.c, x.p.d, x.p.l⟩⟩ : Pc) = x := by
  rw [Array.toArray_toList]
theorem libN_enc {bs : List UInt8} : ∀ {l : List Pc} {at_ : Nat} {acc : List Pc} {r : List UInt8}, bs.drop at_ = l.flatMap pcB ++ r → (∀ x ∈ l, x.name.size ≤ 31 ∧ (putT x.p.a x.p.b x.p.c x.p.d x.p.l).2 = 0 ∧ I64 x.p.l) → libN bs l.length at_ 0 acc = (acc ++ l, at_ + (l.flatMap pcB).length, 0)
  | [], at_, acc, r, _, _ => by simp [libN]
  | x :: l, at_, acc, r, hd, hx => by
    obtain ⟨h1, h2, h3⟩ := hx x (by simp)
    rw [List.flatMap_cons, List.append_assoc] at hd
    have hsz : x.name.data.toList.length = x.name.size := Array.length_toList
    have hd1 : bs.drop at_ = encU x.name.data.toList.length ++ (x.name.data.toList ++ ((putT x.p.a x.p.b x.p.c x.p.d x.p.l).1 ++ (l.flatMap pcB ++ r))) := by
      rw [hd, hsz]; unfold pcB; simp only [List.append_assoc]
    have e1 := rBytes_enc (most := 31) hd1 (by omega) (by omega)
    have hd2 : bs.drop (at_ + (encU x.name.data.toList.length ++ x.name.data.toList).length) = (putT x.p.a x.p.b x.p.c x.p.d x.p.l).1 ++ (l.flatMap pcB ++ r) := drop_app (by rw [hd1]; simp only [List.append_assoc])
    have e2 := rdT_of_put h2 h3 hd2
    have hd3 := drop_app hd2
    have e3 := libN_enc (acc := acc ++ [x]) hd3 fun y hy => hx y (by simp [hy])
    simp only [List.length_cons, libN, if_true, e1, e2]
    rw [pc_eta, e3]
    have hp : pcB x = encU x.name.data.toList.length ++ x.name.data.toList ++ (putT x.p.a x.p.b x.p.c x.p.d x.p.l).1 := by unfold pcB; rw [hsz]
    simp only [List.flatMap_cons, hp, List.length_append, List.append_assoc, List.singleton_append, Prod.mk.injEq, and_true, true_and]
    omega
theorem checkT_put {ps : List Pc} (h : (checkT ps).2 = 0) : ∀ x ∈ ps, x.name.size ≤ 31 ∧ (putT x.p.a x.p.b x.p.c x.p.d x.p.l).2 = 0 := fun x hx => by
  obtain ⟨h1, h2⟩ := (checkT_ok h).2 x hx
  have := putT_sound (show (depths x.p.a x.p.b x.p.c x.p.d x.p.l).2 = 0 from h2)
  exact ⟨(nameOk_size h1).2, by rw [this]⟩
theorem unT_enc {ps : List Pc} (h : (checkT ps).2 = 0) (h64 : ∀ x ∈ ps, I64 x.p.l) : unT (encT ps).1 = (ps, 0, 0) := by
  have e : (encT ps).1 = headB ++ (encU ps.length ++ (ps.flatMap pcB ++ [])) := by
    unfold encT
    rw [if_neg (by omega)]
    simp only [List.append_assoc, List.append_nil]
  generalize (encT ps).1 = bs at e
  have hn := (checkT_ok h).1
  have hd : bs.drop 4 = encU ps.length ++ (ps.flatMap pcB ++ []) := by rw [e]; rfl
  have hu := upto_enc (most := 64) hd (by omega) hn
  have hd2 := drop_app hd
  have hN := libN_enc (acc := []) hd2 fun x hx => ⟨(checkT_put h x hx).1, (checkT_put h x hx).2, h64 x hx⟩
  have hl := congrArg List.length e
  simp only [List.length_append, headB_len, List.length_nil, List.length_flatMap] at hl
  unfold unT
  rw [raw4 e]
  have hh : hdE (headB, 4, 0) = 0 := by unfold hdE; rw [if_neg (by simp)]
  rw [hh]
  unfold unG
  rw [hu]
  simp only [hN, List.nil_append]
  unfold unE
  have he : rdEnd bs (4 + (encU ps.length).length + (ps.flatMap pcB).length) 0 = 0 := by
    unfold rdEnd
    rw [if_pos rfl, if_neg]
    rw [List.length_flatMap]; omega
  simp only [he]
  rw [if_neg (by simp), if_neg (by omega)]
theorem rBytes_form {bs x : List UInt8} {at_ at2 : Nat} {e most : Int} (h : rBytes bs at_ e most = (x, at2, 0)) (hb : at_ ≤ bs.length) : e = 0 ∧ (x.length : Int) ≤ most ∧ bs.drop at_ = encU x.length ++ (x ++ bs.drop at2) ∧ at_ ≤ at2 ∧ at2 ≤ bs.length := by
  unfold rBytes at h
  split at h
  · simp at h; omega
  · rename_i he
    rcases hd : dnum 0 0 (bs.drop at_) with ⟨n, k, d⟩
    rw [hd] at h
    simp only at h
    split at h
    · simp at h; omega
    · rename_i h0
      split at h
      · simp at h
      · rename_i hm
        split at h
        · simp at h
        · rename_i hr
          simp only [Prod.mk.injEq, and_true] at h
          obtain ⟨rfl, rfl⟩ := h
          have hd0 : d = 0 := by omega
          subst hd0
          obtain ⟨t1, t2, t3, t4⟩ := dnum_ok hd
          rw [List.length_drop] at t3
          have hxl : ((bs.drop (at_ + k)).take n).length = n := by rw [List.length_take, List.length_drop]; omega
          refine ⟨by omega, by rw [hxl]; omega, ?_, by omega, by omega⟩
          have e1 : bs.drop (at_ + k + n) = (bs.drop (at_ + k)).drop n := by rw [List.drop_drop]
          have e2 : bs.drop (at_ + k) = (bs.drop at_).drop k := by rw [List.drop_drop]
          rw [hxl, ← t1, e1, List.take_append_drop, e2, List.take_append_drop]
def pcE (x : Pc) : List UInt8 := encU x.name.size ++ x.name.data.toList ++ (hdB (hdI x.p.a x.p.b x.p.c x.p.d x.p.l.length) ++ x.p.l.flatMap insB)
theorem libN_form {bs : List UInt8} : ∀ {k at_ at2 : Nat} {e : Int} {acc l : List Pc}, libN bs k at_ e acc = (l, at2, 0) → at_ ≤ bs.length → e = 0 ∧ ∃ l', l = acc ++ l' ∧ l'.length = k ∧ (∀ x ∈ l', I64 x.p.l) ∧ bs.drop at_ = l'.flatMap pcE ++ bs.drop at2 ∧ at_ ≤ at2 ∧ at2 ≤ bs.length
  | 0, at_, at2, e, acc, l, h, hb => by
    simp only [libN, Prod.mk.injEq] at h
    obtain ⟨rfl, rfl, rfl⟩ := h
    exact ⟨rfl, [], by simp, rfl, by simp, by simp, Nat.le_refl _, hb⟩
  | k + 1, at_, at2, e, acc, l, h, hb => by
    simp only [libN] at h
    split at h
    · rename_i he
      subst he
      rcases hB : rBytes bs at_ 0 31 with ⟨x, a1, e1⟩
      rw [hB] at h
      simp only at h
      rcases hR : rdT bs a1 e1 with ⟨p, a2, e2⟩
      rw [hR] at h
      simp only at h
      have hb1 : a1 ≤ bs.length := by have := rBytes_at (bs := bs) (at_ := at_) (e := 0) (most := 31) hb; rw [hB] at this; exact this
      have he2 : e2 = 0 := by
        by_cases h0 : e2 = 0
        · exact h0
        · rw [libN_stop h0] at h
          simp only [Prod.mk.injEq] at h
          exact h.2.2
      subst he2
      have hb2 : a2 ≤ bs.length := (rdT_form hR hb1).2.2.2.2.2.2
      obtain ⟨_, l', rfl, hk, hi, hd, hle, hle2⟩ := libN_form h hb2
      obtain ⟨rfl, f1, f2, f3, f4, f5, f6⟩ := rdT_form hR hb1
      obtain ⟨_, g1, g2, g3, g4⟩ := rBytes_form hB hb
      refine ⟨rfl, ⟨⟨x.toArray⟩, p⟩ :: l', by simp, by simp [hk], fun y hy => ?_, ?_, by omega, hle2⟩
      · rcases List.mem_cons.1 hy with rfl | hy
        · exact f3
        · exact hi y hy
      · have hx : (ByteArray.mk x.toArray).size = x.length := by show x.toArray.size = _; simp
        rw [g2, f4, hd, List.flatMap_cons]
        unfold pcE
        rw [hx]
        simp only [List.append_assoc]
    · rename_i he
      simp only [Prod.mk.injEq] at h
      exact absurd h.2.2 he
theorem unT_form {bs : List UInt8} (h : (unT bs).2.2 = 0) : unT bs = ((unT bs).1, 0, 0) ∧ (checkT (unT bs).1).2 = 0 ∧ (∀ x ∈ (unT bs).1, I64 x.p.l) ∧ (encT (unT bs).1) = (bs, 0) := by
  unfold unT at h ⊢
  rcases hf : rRaw bs 0 0 4 with ⟨f, a1, e0⟩
  rw [hf] at h
  try dsimp only at h
  try dsimp only
  unfold unG at h ⊢
  rcases hu : rUpto bs a1 (hdE (f, a1, e0)) 64 with ⟨n, a2, e2⟩
  rw [hu] at h
  try dsimp only at h
  try dsimp only
  rcases hN : libN bs n a2 e2 [] with ⟨l, a3, e3⟩
  rw [hN] at h
  try dsimp only at h
  try dsimp only
  have hE : rdEnd bs a3 e3 = 0 ∧ (checkT l).2 = 0 := by
    unfold unE at h
    simp only at h
    by_cases h1 : rdEnd bs a3 e3 = 0
    · refine ⟨h1, ?_⟩
      rw [if_neg (fun hh => hh h1)] at h
      by_cases h2 : (checkT l).2 = 0
      · exact h2
      · rw [if_pos h2] at h; exact absurd h h2
    · rw [if_pos h1] at h; exact absurd h h1
  obtain ⟨hE1, hE2⟩ := hE
  have eU : unE bs (l, a3, e3) = (l, 0, 0) := by
    unfold unE
    simp only
    rw [if_neg (fun hh => hh hE1), if_neg (fun hh => hh hE2)]
  rw [eU]
  refine ⟨rfl, hE2, ?_⟩
  unfold rdEnd at hE1
  split at hE1
  · rename_i h3
    subst h3
    split at hE1
    · omega
    rename_i h3
    have ha1 : a1 ≤ bs.length := by have := rRaw_at (bs := bs) (at_ := 0) (e := 0) (n := 4) (Nat.zero_le _); rw [hf] at this; exact this
    have ha2 : a2 ≤ bs.length := by have := rUpto_at (bs := bs) (at_ := a1) (e := hdE (f, a1, e0)) (most := 64) ha1; rw [hu] at this; exact this
    obtain ⟨rfl, l', rfl, hk, hi, hd, hle, hle2⟩ := libN_form hN ha2
    try simp only [List.nil_append] at hk hi hd hE2 h eU ⊢
    obtain ⟨hh, u2, u3, u4, u5, u6⟩ := upto_form hu
    have hh' : e0 = 0 ∧ f = headB := by
      unfold hdE at hh
      simp only at hh
      split at hh
      · omega
      · rename_i hq
        refine ⟨hh, ?_⟩
        by_cases hfh : f = headB
        · exact hfh
        · exact absurd ⟨hh, hfh⟩ hq
    obtain ⟨rfl, rfl⟩ := hh'
    obtain ⟨r1, rfl, r3⟩ := raw4_form hf
    refine ⟨hi, ?_⟩
    have hend : bs.drop a3 = [] := List.drop_eq_nil_iff.2 (by omega)
    have hpc : l.flatMap pcE = l.flatMap pcB := by
      have key : ∀ (m : List Pc), (∀ x ∈ m, pcE x = pcB x) → m.flatMap pcE = m.flatMap pcB := fun m => by
        induction m with
        | nil => intro _; rfl
        | cons y m ih => intro hm; rw [List.flatMap_cons, List.flatMap_cons, hm y (by simp), ih fun z hz => hm z (by simp [hz])]
      refine key _ fun x hx => ?_
      have h2 := ((checkT_ok hE2).2 x hx).2
      have := putT_sound (show (depths x.p.a x.p.b x.p.c x.p.d x.p.l).2 = 0 from h2)
      unfold pcE pcB
      rw [this]
    unfold encT
    rw [if_neg (fun hh => hh hE2), hk]
    refine Prod.ext ?_ rfl
    show headB ++ encU n ++ l.flatMap pcB = bs
    rw [hend, List.append_nil, hpc] at hd
    rw [hd] at u4
    rw [List.append_assoc, ← u4]
    exact r1.symm
  · rename_i hne; exact absurd hE1 hne
theorem unT_err {bs : List UInt8} (h : (unT bs).2.2 ≠ 0) : (unT bs).1 = [] := by
  unfold unT at h ⊢
  generalize unG bs _ _ = g at *
  unfold unE at h ⊢
  split
  · rfl
  · rename_i h1
    rw [if_neg h1] at h
    split
    · rfl
    · rename_i h2
      rw [if_neg h2] at h
      exact absurd rfl h
end Go.Lang
namespace Go.Proofs.Ytgpdecfcjpblgaa
open Go Go.Sh Go.Pl Go.RowKit Go.Lang Go.Names Go.Num Go.Gt
set_option maxRecDepth 20000 in
set_option maxHeartbeats 1000000 in
theorem law_LangBack {s : Slc} {ms : Mo libG} {x : Slc} {bs : List UInt8} {w : World} (k0 : Gt.Rep reachBytes w libG [.slice s.a s.l s.c] ms) (r1 : Rd w x (U8 bs)) (n1 : x.a = none → x.l = 0 ∧ x.c = 0) (z1 : x.c ≤ reachBytes)
    (hb : bulk (.pair libG (.pair .bytes .unit)) (ms, bs, ()) ≤ 1048576) : c_preludelaw03_LangBack s x w fun r w' => r = true ∧ Chg Nil w w' := by
  refine sim_preludelaw03_LangBack ?_
  unfold sh_preludelaw03_LangBack
  have hbl : bs.length ≤ 1048576 := by
    have : bulk libG ms + ((bs.length + 1) + 0) ≤ 1048576 := hb
    omega
  clear hb
  obtain ⟨hs, h64, hsn, hcap⟩ := rep_lib (Nat.le_refl _) k0
  have hre : reachBytes = 140737488351232 := rfl
  have ls := hs.len
  have cs := hs.cap
  generalize libOf ms = ps at *
  refine awake_ok fun w1 hc1 => iteB_neg rfl ?_
  refine check_ok (hs.ch0 hc1) fun w2 hc2 => ?_
  replace hc2 := hc1.tr hc2
  refine encode_ok (hs.ch0 hc2) (fun x hx => (h64 x hx).1.2.2.2.2) fun s3 w3 ho3 hc3 hg3 => ?_
  replace hc3 := hc2.tr hc3
  have ee : (encT ps).2 = (checkT ps).2 := by
    unfold encT
    split
    · rfl
    · rename_i h; simp only; omega
  refine iteB_ne (fun h => absurd ee.symm h) (fun _ => ?_)
  have hel : (encT ps).1.length ≤ 140737488351232 := by
    unfold encT
    split
    · simp
    · rename_i h
      have h0 : (checkT ps).2 = 0 := by omega
      have h1 := pcs_len (ps := ps) fun y hy => ⟨(h64 y hy).1.2.2.2.2, (checkT_put h0 y hy).1⟩
      have h2 := (checkT_ok h0).1
      have h3 := encU_ten ps.length (by omega)
      simp only [List.length_append, headB_len]
      omega
  refine ⟨fun _ w' => Ch [] w w', ?_, ?_⟩
  rotate_left
  · dsimp only
    refine iteB_eq (fun h => ?_) (fun h => hc3)
    refine decode_ok ho3.rd hel fun s4 css w4 hl4 hc4 => ?_
    replace hc4 := hc3.tr hc4
    rw [unT_enc h fun y hy => (h64 y hy).1.2.2.2.2] at hl4 ⊢
    dsimp only at hl4 ⊢
    refine iteB_neg rfl (iteB_neg rfl ?_)
    have h64' := (checkT_ok h).1
    refine sameLib_ok hl4.rdL (hs.ch0 hc4) (by omega) fun w5 hc5 => iteB_neg rfl ?_
    exact hc4.tr hc5
  rintro _ w4 (hc4 : Ch [] w w4)
  clear ho3 hc3 hg3 hc2 hc1
  refine decode_ok (r1.ch0 hc4) (by omega) fun s5 css w5 hl5 hc5 => ?_
  replace hc5 := hc4.tr hc5
  refine iteB_ne (fun h => ?_) (fun h => ?_)
  · have hsl := hl5.slen
    rw [unT_err h] at hsl
    exact ⟨by simp [hsl], hc5⟩
  obtain ⟨_, f1, f2, f3⟩ := unT_form (show (unT bs).2.2 = 0 by omega)
  generalize (unT bs).1 = qs at *
  refine check_ok hl5.rdL fun w6 hc6 => ?_
  refine encode_ok (hl5.ch0 hc6).rdL f2 fun s7 w7 ho7 hc7 hg7 => ?_
  replace hc6 := hc5.tr hc6
  replace hc7 := hc6.tr hc7
  rw [f3] at ho7 ⊢
  rw [f1]
  refine iteB_pos rfl (iteB_pos rfl ?_)
  refine sameBytes_ok ho7.rd (r1.ch0 hc7) (by simp only []; omega) fun w8 hc8 => ?_
  exact ⟨by simp, hc7.tr hc8⟩
end Go.Proofs.Ytgpdecfcjpblgaa
