/- Round: a program's bytes are read back; what is read is what is written: plainly. -/
import Derived.Test.YtgpdecfcjpblgaaGetL
import Derived.Test.YtgpdecfcjpblgaaEnc
set_option linter.unusedVariables false
set_option linter.unusedSimpArgs false
namespace Go.Lang
open Go.Num
theorem drop_app {α : Type} {bs x r : List α} {i : Nat} (h : bs.drop i = x ++ r) : bs.drop (i + x.length) = r := by
  rw [← List.drop_drop, h, List.drop_left]
theorem drop_len {α : Type} {bs x r : List α} {i : Nat} (h : bs.drop i = x ++ r) (hx : x ≠ []) : i + x.length ≤ bs.length := by
  have h1 := congrArg List.length h
  have h2 := List.length_pos_iff.2 hx
  simp at h1
  omega
theorem upto_enc {bs r : List UInt8} {at_ n most : Nat} (hd : bs.drop at_ = encU n ++ r) (hn : n < 18446744073709551616) (hm : n ≤ most) : rUpto bs at_ 0 most = (n, at_ + (encU n).length, 0) := by
  unfold rUpto
  rw [if_neg (by simp), hd, dnum_encU n r hn]
  simp only [ne_eq, not_true_eq_false, if_false]
  rw [if_neg (by omega)]
theorem raw1 {bs r : List UInt8} {at_ : Nat} {c : UInt8} (hd : bs.drop at_ = c :: r) : rRaw bs at_ 0 1 = ([c], at_ + 1, 0) := by
  have hl := drop_len (x := [c]) hd (by simp)
  simp at hl
  unfold rRaw
  rw [if_neg (by simp), if_neg (by omega), if_neg (by omega), hd]
  rfl
theorem getI'_eq (bs : List UInt8) (c a : Nat) (e : Int) : getI' bs c a e = if c ≥ 64 then ((((c % 64 : Nat) : Int), unz (rUpto bs a (if e = 0 ∧ (c ≥ 128 ∨ c % 64 ≥ 37) then 31 else e) 18446744073709551615).1), (rUpto bs a (if e = 0 ∧ (c ≥ 128 ∨ c % 64 ≥ 37) then 31 else e) 18446744073709551615).2.1, if (rUpto bs a (if e = 0 ∧ (c ≥ 128 ∨ c % 64 ≥ 37) then 31 else e) 18446744073709551615).2.2 = 0 ∧ unz (rUpto bs a (if e = 0 ∧ (c ≥ 128 ∨ c % 64 ≥ 37) then 31 else e) 18446744073709551615).1 = 0 then 11 else (rUpto bs a (if e = 0 ∧ (c ≥ 128 ∨ c % 64 ≥ 37) then 31 else e) 18446744073709551615).2.2) else ((((c % 64 : Nat) : Int), 0), a, if e = 0 ∧ (c ≥ 128 ∨ c % 64 ≥ 37) then 31 else e) := rfl
theorem getI'_low {bs : List UInt8} {c a : Nat} (h : c < 37) : getI' bs c a 0 = ((((c : Nat) : Int), (0 : Int)), a, (0 : Int)) := by
  have h1 : (if (0 : Int) = 0 ∧ (c ≥ 128 ∨ c % 64 ≥ 37) then (31 : Int) else 0) = 0 := if_neg (by omega)
  rw [getI'_eq, h1, if_neg (by omega), Nat.mod_eq_of_lt (by omega)]
theorem getI'_high {bs : List UInt8} {c a a2 u : Nat} (h : 64 ≤ c ∧ c < 101) (hu : rUpto bs a 0 18446744073709551615 = (u, a2, 0)) (h0 : unz u ≠ 0) : getI' bs c a 0 = ((((c - 64 : Nat) : Int), unz u), a2, 0) := by
  have h1 : (if (0 : Int) = 0 ∧ (c ≥ 128 ∨ c % 64 ≥ 37) then (31 : Int) else 0) = 0 := if_neg (by omega)
  rw [getI'_eq, h1, if_pos h.1, hu]
  have h2 : ¬ ((0 : Int) = 0 ∧ unz u = 0) := fun h => h0 h.2
  show ((((c % 64 : Nat) : Int), unz u), a2, if (0 : Int) = 0 ∧ unz u = 0 then (11 : Int) else 0) = _
  rw [if_neg h2, show c % 64 = c - 64 by omega]
theorem getI_put {bs r : List UInt8} {at_ : Nat} {x : Int × Int} (hd : bs.drop at_ = insB x ++ r) (ho : opOk x = true) (h64 : -9223372036854775808 ≤ x.2 ∧ x.2 ≤ 9223372036854775807) : getI bs at_ 0 = (x, at_ + (insB x).length, 0) := by
  have ho' : 0 ≤ x.1 ∧ x.1 ≤ 36 := by simpa [opOk] using ho
  unfold getI
  by_cases h0 : x.2 = 0
  · have hi : insB x = [UInt8.ofNat x.1.toNat] := by unfold insB; rw [if_pos h0]
    rw [hi] at hd ⊢
    rw [raw1 (c := UInt8.ofNat x.1.toNat) (r := r) (by rw [hd]; rfl)]
    have ec : ((([UInt8.ofNat x.1.toNat] : List UInt8), at_ + 1, (0 : Int)).1.getD 0 0).toNat = x.1.toNat := by
      show (UInt8.ofNat x.1.toNat).toNat = _
      rw [UInt8.toNat_ofNat']; omega
    rw [ec, getI'_low (by omega)]
    have e1 : ((x.1.toNat : Nat) : Int) = x.1 := by omega
    rw [e1, ← h0]
    rfl
  · have hi : insB x = UInt8.ofNat (x.1.toNat + 64) :: encU (zig x.2) := by unfold insB; rw [if_neg h0]
    rw [hi] at hd ⊢
    rw [raw1 (c := UInt8.ofNat (x.1.toNat + 64)) (r := encU (zig x.2) ++ r) (by rw [hd]; rfl)]
    have ec : ((([UInt8.ofNat (x.1.toNat + 64)] : List UInt8), at_ + 1, (0 : Int)).1.getD 0 0).toNat = x.1.toNat + 64 := by
      show (UInt8.ofNat (x.1.toNat + 64)).toNat = _
      rw [UInt8.toNat_ofNat']; omega
    have hd2 : bs.drop (at_ + 1) = encU (zig x.2) ++ r := drop_app (x := [UInt8.ofNat (x.1.toNat + 64)]) (by rw [hd]; rfl)
    rw [ec, getI'_high (by omega) (upto_enc hd2 (zig_lt h64) (by have := zig_lt h64; omega)) (by rw [unz_zig]; exact h0), unz_zig]
    have e1 : ((x.1.toNat + 64 - 64 : Nat) : Int) = x.1 := by omega
    rw [e1, List.length_cons]
    simp only [Prod.mk.injEq, and_true, true_and]
    omega
theorem insB_ne (x : Int × Int) : insB x ≠ [] := by unfold insB; split <;> simp
theorem getN_put {bs r : List UInt8} : ∀ {l : List (Int × Int)} {at_ : Nat} {acc : List (Int × Int)}, bs.drop at_ = l.flatMap insB ++ r → l.all opOk = true → I64 l → getN bs l.length at_ 0 acc = (acc ++ l, at_ + (l.flatMap insB).length, 0)
  | [], at_, acc, _, _, _ => by simp [getN]
  | x :: l, at_, acc, hd, ho, h64 => by
    simp only [List.all_cons, Bool.and_eq_true] at ho
    rw [List.flatMap_cons, List.append_assoc] at hd
    have h1 := getI_put hd ho.1 (h64 x (by simp)).2
    have h2 := getN_put (acc := acc ++ [x]) (drop_app hd) ho.2 fun y hy => h64 y (by simp [hy])
    simp only [List.length_cons, getN, if_true, h1]
    rw [h2]
    simp only [List.flatMap_cons, List.length_append, List.append_assoc, List.singleton_append, Prod.mk.injEq, and_true, true_and]
    omega
theorem rdT_put {bs r : List UInt8} {at_ : Nat} {a b c d : Int} {l : List (Int × Int)} (hok : okP a b c d l.length = true) (ho : l.all opOk = true) (h64 : I64 l) (hd : bs.drop at_ = (hdB (hdI a b c d l.length) ++ l.flatMap insB) ++ r) :
    rdT bs at_ 0 = (⟨a, b, c, d, l⟩, at_ + (hdB (hdI a b c d l.length) ++ l.flatMap insB).length, 0) := by
  obtain ⟨ha, hb, hc, hdd, hn⟩ := okP_rng hok
  have e : hdB (hdI a b c d l.length) = encU a.toNat ++ (encU b.toNat ++ (encU c.toNat ++ (encU d.toNat ++ encU l.length))) := by simp [hdB, hdI]
  rw [e] at hd ⊢
  simp only [List.append_assoc] at hd
  have u1 := upto_enc (most := 16) hd (by omega) (by omega)
  have d1 := drop_app hd
  have u2 := upto_enc (most := 16) d1 (by omega) (by omega)
  have d2 := drop_app d1
  have u3 := upto_enc (most := 16) d2 (by omega) (by omega)
  have d3 := drop_app d2
  have u4 := upto_enc (most := 16) d3 (by omega) (by omega)
  have d4 := drop_app d3
  have u5 := upto_enc (most := 256) d4 (by omega) (by omega)
  have d5 := drop_app d4
  have g := getN_put (acc := []) d5 ho h64
  unfold rdT
  simp only [u1, u2, u3, u4, u5, g, if_true, List.nil_append]
  rw [Int.toNat_of_nonneg ha.1, Int.toNat_of_nonneg hb.1, Int.toNat_of_nonneg hc.1, Int.toNat_of_nonneg hdd.1]
  simp only [List.length_append, Prod.mk.injEq, and_true, true_and]
  omega
/-! What was read is what is written. -/
theorem upto_form {bs : List UInt8} {at_ most n at2 : Nat} {e : Int} (h : rUpto bs at_ e most = (n, at2, 0)) : e = 0 ∧ n ≤ most ∧ n < 18446744073709551616 ∧ bs.drop at_ = encU n ++ bs.drop at2 ∧ at2 = at_ + (encU n).length ∧ at2 ≤ max at_ bs.length := by
  unfold rUpto at h
  split at h
  · simp at h; omega
  · rename_i he
    rcases hd : dnum 0 0 (bs.drop at_) with ⟨v, k, x⟩
    rw [hd] at h
    simp only at h
    split at h
    · simp at h; omega
    · split at h
      · simp at h
      · rename_i hx hm
        simp only [Prod.mk.injEq, and_true] at h
        obtain ⟨rfl, rfl⟩ := h
        have hx : x = 0 := by omega
        subst hx
        obtain ⟨t1, t2, t3, t4⟩ := dnum_ok hd
        refine ⟨by omega, by omega, t4, ?_, by omega, by simp at t3; omega⟩
        rw [← t1, ← List.drop_drop, List.take_append_drop]
theorem raw1_form {bs : List UInt8} {at_ at2 : Nat} {e : Int} {l : List UInt8} (h : rRaw bs at_ e 1 = (l, at2, 0)) : e = 0 ∧ ∃ c, l = [c] ∧ at2 = at_ + 1 ∧ bs.drop at_ = c :: bs.drop (at_ + 1) ∧ at2 ≤ bs.length := by
  unfold rRaw at h
  split at h
  · simp at h; omega
  · rename_i he
    rw [if_neg (by omega)] at h
    split at h
    · simp at h
    · rename_i hb
      have hlt : at_ < bs.length := by omega
      simp only [Prod.mk.injEq, and_true] at h
      obtain ⟨rfl, rfl⟩ := h
      refine ⟨by omega, bs[at_], ?_, by omega, List.drop_eq_getElem_cons hlt, by omega⟩
      rw [List.drop_eq_getElem_cons hlt]; rfl
theorem unz_rng {u : Nat} (h : u < 18446744073709551616) : -9223372036854775808 ≤ unz u ∧ unz u ≤ 9223372036854775807 := by
  unfold unz; split <;> omega
theorem getI_form {bs : List UInt8} {at_ at2 : Nat} {e : Int} {x : Int × Int} (h : getI bs at_ e = (x, at2, 0)) : e = 0 ∧ opOk x = true ∧ (-9223372036854775808 ≤ x.2 ∧ x.2 ≤ 9223372036854775807) ∧ bs.drop at_ = insB x ++ bs.drop at2 ∧ at_ ≤ at2 ∧ at2 ≤ bs.length := by
  unfold getI at h
  rcases hr : rRaw bs at_ e 1 with ⟨l, a1, e1⟩
  rw [hr] at h
  simp only at h
  rw [getI'_eq] at h
  have hc8 : (l.getD 0 0).toNat < 256 := (l.getD 0 0).toNat_lt
  have hcc : UInt8.ofNat (l.getD 0 0).toNat = l.getD 0 0 := by simp
  generalize hc : (l.getD 0 0).toNat = c at *
  have key : ∀ e2 : Int, e2 = (if e1 = 0 ∧ (c ≥ 128 ∨ c % 64 ≥ 37) then 31 else e1) → e2 = 0 → e1 = 0 ∧ c < 128 ∧ c % 64 < 37 := fun e2 h1 h2 => by
    split at h1 <;> omega
  by_cases h64 : c ≥ 64
  · rw [if_pos h64] at h
    simp only [Prod.mk.injEq] at h
    obtain ⟨rfl, rfl, h3⟩ := h
    generalize hq : rUpto bs a1 (if e1 = 0 ∧ (c ≥ 128 ∨ c % 64 ≥ 37) then 31 else e1) 18446744073709551615 = q at *
    obtain ⟨u, a2, e3⟩ := q
    simp only at h3
    have he3 : e3 = 0 ∧ unz u ≠ 0 := by
      split at h3
      · cases h3
      · rename_i hn
        exact ⟨h3, fun h => hn ⟨h3, h⟩⟩
    obtain ⟨rfl, hu0⟩ := he3
    obtain ⟨f1, f2, f3, f4, f5, f6⟩ := upto_form hq
    obtain ⟨g1, g2, g3⟩ := key _ rfl f1
    subst g1
    obtain ⟨r1, c0, rfl, r2, r3, r4⟩ := raw1_form hr
    subst r2
    simp at hc hcc
    have hur := unz_rng f3
    refine ⟨r1, by simp [opOk]; omega, hur, ?_, by simp only []; omega, by simp only []; omega⟩
    have ei : insB (((c % 64 : Nat) : Int), unz u) = UInt8.ofNat (c % 64 + 64) :: encU u := by
      unfold insB
      simp only []
      rw [if_neg hu0, zig_unz, Int.toNat_natCast]
    simp only []
    rw [ei, r3, f4]
    have : c0 = UInt8.ofNat (c % 64 + 64) := by
      rw [show c % 64 + 64 = c by omega, ← hc]; simp
    rw [this]; rfl
  · rw [if_neg h64] at h
    simp only [Prod.mk.injEq] at h
    obtain ⟨rfl, rfl, h3⟩ := h
    obtain ⟨g1, g2, g3⟩ := key _ rfl h3
    subst g1
    obtain ⟨r1, c0, rfl, r2, r3, r4⟩ := raw1_form hr
    subst r2
    simp at hc
    refine ⟨r1, by simp [opOk]; omega, by simp, ?_, by omega, r4⟩
    have ei : insB (((c % 64 : Nat) : Int), 0) = [UInt8.ofNat (c % 64)] := by
      unfold insB
      rw [if_pos rfl, Int.toNat_natCast]
    rw [ei, r3]
    have : c0 = UInt8.ofNat (c % 64) := by
      rw [show c % 64 = c by omega, ← hc]; simp
    rw [this]; rfl
theorem getN_form {bs : List UInt8} : ∀ {k at_ at2 : Nat} {e : Int} {acc l : List (Int × Int)}, getN bs k at_ e acc = (l, at2, 0) → at_ ≤ bs.length → e = 0 ∧ ∃ l', l = acc ++ l' ∧ l'.length = k ∧ l'.all opOk = true ∧ I64 l' ∧ bs.drop at_ = l'.flatMap insB ++ bs.drop at2 ∧ at_ ≤ at2 ∧ at2 ≤ bs.length
  | 0, at_, at2, e, acc, l, h, hb => by
    simp only [getN, Prod.mk.injEq] at h
    obtain ⟨rfl, rfl, rfl⟩ := h
    exact ⟨rfl, [], by simp, rfl, rfl, (fun x hx => by cases hx), by simp, Nat.le_refl _, hb⟩
  | k + 1, at_, at2, e, acc, l, h, hb => by
    simp only [getN] at h
    split at h
    · rename_i h0
      rcases hg : getI bs at_ e with ⟨x, a1, e1⟩
      rw [hg] at h
      simp only at h
      have he1 : e1 = 0 ∨ e1 ≠ 0 := by omega
      rcases he1 with rfl | hne
      · obtain ⟨p1, p2, p3, p4, p5, p6⟩ := getI_form hg
        obtain ⟨q1, l', q2, q3, q4, q5, q6, q7, q8⟩ := getN_form h p6
        have ho : 0 ≤ x.1 ∧ x.1 ≤ 36 := by simpa [opOk] using p2
        refine ⟨h0, x :: l', by rw [q2]; simp, by simp [q3], by simp [p2, q4], fun y hy => ?_, by rw [p4, q6]; simp, by omega, q8⟩
        rcases List.mem_cons.1 hy with rfl | hy
        · exact ⟨by omega, p3⟩
        · exact q5 y hy
      · rw [getN_stop hne] at h
        simp at h
        exact absurd h.2.2 hne
    · rename_i h0
      simp only [Prod.mk.injEq] at h
      exact absurd h.2.2 h0
theorem rdT_form {bs : List UInt8} {at_ at2 : Nat} {e : Int} {x : Pg} (h : rdT bs at_ e = (x, at2, 0)) (hb : at_ ≤ bs.length) : e = 0 ∧ okP x.a x.b x.c x.d x.l.length = true ∧ x.l.all opOk = true ∧ I64 x.l ∧ bs.drop at_ = (hdB (hdI x.a x.b x.c x.d x.l.length) ++ x.l.flatMap insB) ++ bs.drop at2 ∧ at_ ≤ at2 ∧ at2 ≤ bs.length := by
  unfold rdT at h
  simp only [] at h
  rcases h1 : rUpto bs at_ e 16 with ⟨n1, a1, e1⟩
  rw [h1] at h
  simp only at h
  rcases h2 : rUpto bs a1 e1 16 with ⟨n2, a2, e2⟩
  rw [h2] at h
  simp only at h
  rcases h3 : rUpto bs a2 e2 16 with ⟨n3, a3, e3⟩
  rw [h3] at h
  simp only at h
  rcases h4 : rUpto bs a3 e3 16 with ⟨n4, a4, e4⟩
  rw [h4] at h
  simp only at h
  rcases h5 : rUpto bs a4 e4 256 with ⟨n5, a5, e5⟩
  rw [h5] at h
  simp only at h
  rcases hg : getN bs n5 a5 e5 [] with ⟨l, a6, e6⟩
  rw [hg] at h
  simp only [Prod.mk.injEq] at h
  obtain ⟨hx, rfl, rfl⟩ := h
  rw [if_pos rfl] at hx
  subst hx
  have hz5 : e5 = 0 ∨ e5 ≠ 0 := by omega
  rcases hz5 with rfl | hne
  · obtain ⟨q1, q2, q3, q4, q5, q6⟩ := upto_form h5
    subst q1
    obtain ⟨p1, p2, p3, p4, p5, p6⟩ := upto_form h4
    subst p1
    obtain ⟨o1, o2, o3, o4, o5, o6⟩ := upto_form h3
    subst o1
    obtain ⟨m1, m2, m3, m4, m5, m6⟩ := upto_form h2
    subst m1
    obtain ⟨k1, k2, k3, k4, k5, k6⟩ := upto_form h1
    obtain ⟨_, l', r1, r2, r3, r4, r5, r6, r7⟩ := getN_form hg (by omega)
    rw [List.nil_append] at r1
    subst r1
    have hh : hdB (hdI (n1 : Int) (n2 : Int) (n3 : Int) (n4 : Int) l.length) = encU n1 ++ (encU n2 ++ (encU n3 ++ (encU n4 ++ encU l.length))) := by simp [hdB, hdI]
    refine ⟨k1, by simp [okP]; omega, r3, r4, ?_, by omega, r7⟩
    rw [hh, k4, m4, o4, p4, q4, r5, r2]
    simp only [List.append_assoc]
  · rw [getN_stop hne] at hg
    simp at hg
    exact absurd hg.2.2 hne
end Go.Lang
