/- Grow: the law LangGrows: wider limits, more code behind a stop. -/
import Derived.Test.YtgpdecfcjpblgaaWaysB
set_option linter.unusedVariables false
set_option linter.unusedSimpArgs false
namespace Go.Lang
theorem insE_grow {a b c d a' b' c' d' : Int} {n n' : Nat} {x : Ins} {i : Nat} (ha : a ≤ a') (hb : b ≤ b') (hc : c ≤ c') (hd : d ≤ d') (hn : n ≤ n') (h : insE a b c d n x i = 0) : insE a' b' c' d' n' x i = 0 := by
  unfold insE at h ⊢
  split at h
  · cases h
  · rename_i h1
    rw [if_neg h1]
    unfold argE at h ⊢
    split at h
    · rename_i h2; rw [if_pos h2]
    · rename_i h2
      rw [if_neg h2]
      split at h
      · rename_i h3
        rw [if_pos h3]
        split at h
        · cases h
        · rw [if_neg (by omega)]
      · rename_i h3
        rw [if_neg h3]
        split at h
        · rename_i h4
          rw [if_pos]
          refine ⟨h4.1, ?_⟩
          have h5 := h4.2
          unfold mostA at h5 ⊢
          split at h5
          · rename_i g; rw [if_pos g]; omega
          · rename_i g
            rw [if_neg g]
            split at h5
            · rename_i g; rw [if_pos g]; omega
            · rename_i g
              rw [if_neg g]
              split at h5
              · rename_i g; rw [if_pos g]; omega
              · rename_i g
                rw [if_neg g]
                split at h5
                · rename_i g; rw [if_pos g]; omega
                · rename_i g; rw [if_neg g]; omega
        · cases h
theorem chk_grow {a b c d a' b' c' d' : Int} {n n' : Nat} (ha : a ≤ a') (hb : b ≤ b') (hc : c ≤ c') (hd : d ≤ d') (hn : n ≤ n') : ∀ {l : List Ins} {i : Nat}, chk a b c d n l i = 0 → chk a' b' c' d' n' l i = 0
  | [], i, h => rfl
  | x :: r, i, h => by
    simp only [chk] at h ⊢
    split at h
    · rename_i h1; exact absurd h h1
    · rename_i h1
      rw [if_neg (fun hh => hh (insE_grow ha hb hc hd hn (by omega)))]
      exact chk_grow ha hb hc hd hn h
theorem depths_of {a b c d : Int} {l : List Ins} (h1 : okP a b c d l.length = true) (h2 : chk a b c d l.length l 0 = 0) : depths a b c d l = match walkD l l.length (d0 l.length) 0 with | some e => (e, 0) | none => ([], 34) := by
  unfold depths
  rw [if_neg (by rw [h1]; simp), if_neg (fun hh => hh h2)]
  rfl
theorem depths_grow {a b c d a' b' c' d' : Int} {l : List Ins} (h : (depths a b c d l).2 = 0) (ha : a ≤ a' ∧ a' ≤ 16) (hb : b ≤ b' ∧ b' ≤ 16) (hc : c ≤ c' ∧ c' ≤ 16) (hd : d ≤ d' ∧ d' ≤ 16) : depths a' b' c' d' l = depths a b c d l := by
  obtain ⟨h1, h2⟩ := depths_ok0 h
  have h3 := chk_grow ha.1 hb.1 hc.1 hd.1 (Nat.le_refl _) h2
  have hr := okP_rng h1
  have h4 : okP a' b' c' d' l.length = true := by simp [okP]; omega
  rw [depths_of h4 h3, depths_of h1 h2]
theorem chk_app {a b c d : Int} {n : Nat} : ∀ {l r : List Ins} {i : Nat}, chk a b c d n l i = 0 → chk a b c d n (l ++ r) i = chk a b c d n r (i + l.length)
  | [], r, i, h => by simp
  | x :: l, r, i, h => by
    simp only [chk] at h
    split at h
    · rename_i h1; exact absurd h h1
    · rename_i h1
      simp only [List.cons_append, chk]
      rw [if_neg h1, chk_app h, List.length_cons]
      congr 1; omega
theorem chk_all {a b c d : Int} {n : Nat} : ∀ {l : List Ins} {i : Nat}, (∀ x ∈ l, ∀ j, insE a b c d n x j = 0) → chk a b c d n l i = 0
  | [], i, h => rfl
  | x :: r, i, h => by
    simp only [chk]
    rw [if_neg (fun hh => hh (h x (by simp) i))]
    exact chk_all fun y hy => h y (by simp [hy])
theorem put1_app {m : Int} {d e : List Int} {j : Int} (h : j.toNat < d.length) : put1 m (d ++ e) j = (put1 m d j).map (· ++ e) := by
  unfold put1
  rw [List.getElem?_append_left h, List.getElem?_eq_getElem h]
  simp only
  split
  · rfl
  · simp [List.set_append_left _ _ h]
theorem putAll_app {m : Int} {e : List Int} : ∀ {l d : List Int}, (∀ t ∈ l, t.toNat < d.length) → putAll m l (d ++ e) = (putAll m l d).map (· ++ e)
  | [], d, h => rfl
  | j :: r, d, h => by
    rw [putAll_cons, putAll_cons, put1_app (h j (by simp))]
    cases hp : put1 m d j with
    | none => rfl
    | some d' => exact putAll_app fun t ht => by rw [put1_len hp]; exact h t (by simp [ht])
theorem stepD_app {l r : List Ins} {d e : List Int} {i : Nat} (hw : Fwd l) (hi : i < l.length) (hd : d.length = l.length + 1) : stepD (l ++ r) (d ++ e) i = (stepD l d i).map (· ++ e) := by
  unfold stepD
  rw [List.getElem?_append_left hi, List.getElem?_append_left (by omega), List.getElem?_eq_getElem hi, List.getElem?_eq_getElem (by omega : i < d.length)]
  simp only
  split
  · rfl
  · split
    · rfl
    · refine putAll_app fun t ht => ?_
      have := hw i l[i] (by simp) t ht
      omega
theorem walkD_app {l r : List Ins} {e : List Int} (hw : Fwd l) : ∀ {k i : Nat} {d : List Int}, i + k ≤ l.length → d.length = l.length + 1 → walkD (l ++ r) k (d ++ e) i = (walkD l k d i).map (· ++ e)
  | 0, i, d, _, _ => rfl
  | k + 1, i, d, hk, hd => by
    simp only [walkD]
    rw [stepD_app hw (by omega) hd]
    cases hs : stepD l d i with
    | none => rfl
    | some d' => exact walkD_app hw (by omega) (by rw [stepD_len hs]; exact hd)
theorem walkD_add {c : List Ins} {k2 : Nat} : ∀ {k1 i : Nat} {d : List Int}, walkD c (k1 + k2) d i = (walkD c k1 d i).bind fun e => walkD c k2 e (i + k1)
  | 0, i, d => by simp [walkD]
  | k1 + 1, i, d => by
    rw [show k1 + 1 + k2 = (k1 + k2) + 1 by omega]
    simp only [walkD]
    cases hs : stepD c d i with
    | none => rfl
    | some d' =>
      show walkD c (k1 + k2) d' (i + 1) = _
      rw [walkD_add, show i + 1 + k1 = i + (k1 + 1) by omega]
      rfl
theorem putAll_bound {m : Int} {B : Int → Prop} (hm : B m) : ∀ {l d d' : List Int}, putAll m l d = some d' → (∀ x ∈ d, B x) → ∀ x ∈ d', B x
  | [], d, d', h, hd => by cases h; exact hd
  | j :: r, d, d', h, hd => by
    rw [putAll_cons] at h
    cases hp : put1 m d j with
    | none => rw [hp] at h; cases h
    | some e => rw [hp] at h; exact putAll_bound hm h (put1_bound hp hd hm)
theorem walkD_le {c : List Ins} : ∀ {k i : Nat} {d D : List Int}, walkD c k d i = some D → (∀ x ∈ d, x ≤ 32) → ∀ x ∈ D, x ≤ 32
  | 0, i, d, D, h, hd => by cases h; exact hd
  | k + 1, i, d, D, h, hd => by
    simp only [walkD] at h
    cases hs : stepD c d i with
    | none => rw [hs] at h; cases h
    | some e =>
      rw [hs] at h
      refine walkD_le (show walkD c k e (i + 1) = some D from h) ?_
      unfold stepD at hs
      split at hs
      · split at hs
        · cases hs; exact hd
        · split at hs
          · cases hs
          · exact putAll_bound (B := fun x => x ≤ 32) (by omega) hs hd
      · cases hs
theorem walkD_rest {c : List Ins} {F : List Int} {n : Nat} (hl : F.length = c.length + 1) (h0 : c[n]? = some (0, 0)) (hn : ∀ x, F[n]? = some x → x ≤ 32) (ht : ∀ j x, n < j → F[j]? = some x → x < 0) : ∀ {k i : Nat}, n ≤ i → i + k ≤ c.length → walkD c k F i = some F
  | 0, i, _, _ => rfl
  | k + 1, i, hi, hk => by
    have hs : stepD c F i = some F := by
      unfold stepD
      have hc : c[i]? = some (c[i]'(by omega)) := by simp
      have hf : F[i]? = some (F[i]'(by omega)) := by simp
      rw [hc, hf]
      simp only
      generalize F[i]'(by omega) = q at *
      generalize c[i]'(by omega) = x at *
      split
      · rfl
      · rename_i hq
        rcases Nat.lt_or_ge n i with hlt | hge
        · exact absurd (ht i q hlt hf) hq
        · have : i = n := by omega
          subst this
          rw [h0] at hc
          cases hc
          have := hn q hf
          rw [if_neg]
          · rfl
          · simp only [mv]
            simp
            omega
    simp only [walkD]
    rw [hs]
    exact walkD_rest hl h0 hn ht (i := i + 1) (by omega) (by omega)
theorem insE_stop {a b c d : Int} {n : Nat} (j : Nat) : insE a b c d n (0, 0) j = 0 := by
  simp [insE, argE, mostA]
theorem insE_low {a b c d : Int} {n : Nat} {x : Ins} (h : 10 ≤ x.1 ∧ x.1 ≤ 19) (h0 : x.2 = 0) (j : Nat) : insE a b c d n x j = 0 := by
  unfold insE
  rw [if_neg (by omega)]
  unfold argE
  rw [if_neg (by omega), if_neg (by omega), if_pos]
  unfold mostA
  rw [if_neg (by omega), if_neg (by omega), if_neg (by omega), if_neg (by omega)]
  omega
theorem depths_tail {a b c d : Int} {l tl : List Ins} (h : (depths a b c d l).2 = 0) (ht : ∀ x ∈ tl, (10 ≤ x.1 ∧ x.1 ≤ 19) ∧ x.2 = 0) (hl : l.length + 1 + tl.length ≤ 256) :
    depths a b c d (l ++ (0, 0) :: tl) = ((depths a b c d l).1 ++ List.replicate (tl.length + 1) (-1), 0) := by
  obtain ⟨h1, h2⟩ := depths_ok0 h
  have hways := chk_ways h2 (by omega)
  simp only [Nat.zero_add, Int.natCast_zero, Int.zero_add] at hways
  have hw : Fwd l := fun j x hj t ht => (hways j x hj).2 t ht
  have hr := okP_rng h1
  have hL : (l ++ (0, 0) :: tl).length = l.length + (tl.length + 1) := by simp
  have h3 : okP a b c d (l ++ (0, 0) :: tl).length = true := by rw [hL]; simp [okP]; omega
  have h4 : chk a b c d (l ++ (0, 0) :: tl).length (l ++ (0, 0) :: tl) 0 = 0 := by
    rw [chk_app (chk_grow (Int.le_refl _) (Int.le_refl _) (Int.le_refl _) (Int.le_refl _) (by omega) h2)]
    refine chk_all fun x hx j => ?_
    rcases List.mem_cons.1 hx with rfl | hx
    · exact insE_stop j
    · exact insE_low (ht x hx).1 (ht x hx).2 j
  cases hD : walkD l l.length (d0 l.length) 0 with
  | none => unfold depths at h; rw [if_neg (by simp [h1]), if_neg (fun hh => hh h2), hD] at h; simp at h
  | some D =>
    have eb : depths a b c d l = (D, 0) := by unfold depths; rw [if_neg (by simp [h1]), if_neg (fun hh => hh h2), hD]
    rw [eb]
    have hDl : D.length = l.length + 1 := by rw [walkD_len hD, d0_len]
    have hD32 : ∀ x ∈ D, x ≤ 32 := walkD_le hD fun x hx => by
      unfold d0 at hx
      rcases List.mem_cons.1 hx with rfl | hx
      · omega
      · rw [List.eq_of_mem_replicate hx]; omega
    have hd0 : d0 (l ++ (0, 0) :: tl).length = d0 l.length ++ List.replicate (tl.length + 1) (-1) := by
      rw [hL]
      unfold d0
      rw [List.cons_append, List.replicate_append_replicate]
    have hE : walkD (l ++ (0, 0) :: tl) (l ++ (0, 0) :: tl).length (d0 (l ++ (0, 0) :: tl).length) 0 = some (D ++ List.replicate (tl.length + 1) (-1)) := by
      rw [hd0, hL, walkD_add, walkD_app hw (by omega) (d0_len _), hD]
      show walkD _ _ (D ++ _) _ = _
      refine walkD_rest (n := l.length) (by simp; omega) (by simp) (fun x hx => ?_) (fun j x hj hx => ?_) (by omega) (by rw [hL]; omega)
      · rw [List.getElem?_append_left (by omega)] at hx
        exact hD32 x (List.mem_of_getElem? hx)
      · rw [List.getElem?_append_right (by omega)] at hx
        have := List.eq_of_mem_replicate (List.mem_of_getElem? hx)
        omega
    unfold depths
    rw [if_neg (by simp only [h3]; simp), if_neg (fun hh => hh h4), hE]
end Go.Lang
namespace Go.Proofs.Ytgpdecfcjpblgaa
open Go Go.Sh Go.Pl Go.RowKit Go.Lang Go.Names Go.Num Go.Gt
theorem grow1 {a n : Int} (h : 0 ≤ a ∧ a ≤ 16) : IntKind.u64.wrap (IntKind.i64.wrap (17 - a)) ≠ 0 ∧ a ≤ IntKind.i64.wrap (a + IntKind.i64.wrap (Int.tmod (IntKind.u64.wrap n) (IntKind.u64.wrap (IntKind.i64.wrap (17 - a))))) ∧ IntKind.i64.wrap (a + IntKind.i64.wrap (Int.tmod (IntKind.u64.wrap n) (IntKind.u64.wrap (IntKind.i64.wrap (17 - a))))) ≤ 16 := by
  rw [wrap_i64 (x := 17 - a) (by omega), wrap_u64 (x := 17 - a) (by omega)]
  have hm : 0 ≤ IntKind.u64.wrap n := by simp [IntKind.wrap, IntKind.signed, IntKind.bits]; omega
  rw [Int.tmod_eq_emod_of_nonneg hm]
  have h1 := Int.emod_nonneg (IntKind.u64.wrap n) (by omega : 17 - a ≠ 0)
  have h2 := Int.emod_lt_of_pos (IntKind.u64.wrap n) (by omega : 0 < 17 - a)
  generalize IntKind.u64.wrap n % (17 - a) = r at *
  rw [wrap_i64 (x := r) (by omega), wrap_i64 (by omega)]
  omega
theorem grow0 {a : Int} (h : 0 ≤ a ∧ a ≤ 16) : IntKind.u64.wrap (IntKind.i64.wrap (17 - a)) ≠ 0 := (grow1 (n := 0) h).1
theorem grow2 (n : Int) : 10 ≤ IntKind.i64.wrap (10 + IntKind.i64.wrap (Int.tmod (IntKind.u64.wrap n) 10)) ∧ IntKind.i64.wrap (10 + IntKind.i64.wrap (Int.tmod (IntKind.u64.wrap n) 10)) ≤ 19 := by
  have hm : 0 ≤ IntKind.u64.wrap n := by simp [IntKind.wrap, IntKind.signed, IntKind.bits]; omega
  rw [Int.tmod_eq_emod_of_nonneg hm]
  have h1 := Int.emod_nonneg (IntKind.u64.wrap n) (by omega : (10 : Int) ≠ 0)
  have h2 := Int.emod_lt_of_pos (IntKind.u64.wrap n) (by omega : (0 : Int) < 10)
  generalize IntKind.u64.wrap n % 10 = r at *
  rw [wrap_i64 (x := r) (by omega), wrap_i64 (by omega)]
  omega
theorem DOut.ltS {n : Nat} {w : World} {s : Slc} {ds : List Int} (h : DOut n w s ds) : Lt w.heap.size (blkOf s) := by
  rcases h with ⟨_, rfl⟩ | ⟨b, hb, rfl, h⟩
  · intro k hk; cases hk
  · intro k hk; cases hk; exact Blk.lt h
theorem in_rng {n lo hi : Int} (h : lo ≤ n ∧ n ≤ hi) {X Y : Prop} (hY : Y) : iteB (decide (n < lo)) X Y ∧ iteB (decide (n > hi)) X Y :=
  ⟨iteB_dec (fun h' => by omega) fun _ => hY, iteB_dec (fun h' => by omega) fun _ => hY⟩
set_option maxRecDepth 20000 in
set_option maxHeartbeats 2000000 in
theorem law_LangGrows {a b c d n0 n1 n2 n3 : Int} {s s2 : Slc} {ms ms2 : Mo insG} {w : World} (w0 : (Lit.int .i64 a).wf = true) (w1 : (Lit.int .i64 b).wf = true) (w2 : (Lit.int .i64 c).wf = true) (w3 : (Lit.int .i64 d).wf = true)
    (k4 : Gt.Rep reachBytes w insG [.slice s.a s.l s.c] ms) (w5 : (Lit.int .i64 n0).wf = true) (w6 : (Lit.int .i64 n1).wf = true) (w7 : (Lit.int .i64 n2).wf = true) (w8 : (Lit.int .i64 n3).wf = true)
    (k9 : Gt.Rep reachBytes w insG [.slice s2.a s2.l s2.c] ms2) : c_preludelaw03_LangGrows a b c d s n0 n1 n2 n3 s2 w fun r w' => r = true ∧ Chg Nil w w' := by
  refine sim_preludelaw03_LangGrows ?_
  unfold sh_preludelaw03_LangGrows
  obtain ⟨hs, h64, hsn, hsc⟩ := rep_code k4
  obtain ⟨ht, h64t, _, htc⟩ := rep_code k9
  have hsl := hs.cap
  have ls := hs.len
  have htl := ht.cap
  have lt := ht.len
  have hre : reachBytes = 140737488351232 := rfl
  generalize code ms = is at *
  generalize code ms2 = it at *
  clear w0 w1 w2 w3 w5 w6 w7 w8 k4 k9
  have hl : is.length ≤ 8800000000000 := by omega
  refine newB fun k1 w1 hc1 hb1 hk1 hs1 => ?_
  refine newB fun k2 w2 hc2 hb2 hk2 hs2 => ?_
  replace hb1 := hb1.ch0 hc2
  replace hc2 := hc1.tr hc2
  refine awake_ok fun w3 hc3 => iteB_neg rfl ?_
  replace hb1 := hb1.ch0 hc3
  replace hb2 := hb2.ch0 hc3
  replace hc3 := hc2.tr hc3
  refine ldPr (s := s) hb1 ?_
  refine depths_ok (hs.ch0 hc3) hl fun r4 w4 hr4 hc4 => ?_
  replace hb1 := hb1.ch0 hc4
  replace hb2 := hb2.ch0 hc4
  replace hc4 := hc3.tr hc4
  refine iteB_ne (fun h => ⟨rfl, hc4⟩) (fun h0 => ?_)
  obtain ⟨hok, hchk⟩ := depths_ok0 h0
  obtain ⟨ha, hb, hc, hd, hn⟩ := okP_rng hok
  have hdl := (depths_spec h0).1
  refine ldI_b (o := 0) hb1 rfl (in_rng ha ?_).1
  refine ldI_b (o := 0) hb1 rfl (in_rng ha ?_).2
  refine ldI_b (o := 1) hb1 rfl (in_rng hb ?_).1
  refine ldI_b (o := 1) hb1 rfl (in_rng hb ?_).2
  refine ldI_b (o := 2) hb1 rfl (in_rng hc ?_).1
  refine ldI_b (o := 2) hb1 rfl (in_rng hc ?_).2
  refine ldI_b (o := 3) hb1 rfl (in_rng hd ?_).1
  refine ldI_b (o := 3) hb1 rfl (in_rng hd ?_).2
  refine ldPr (s := s) hb1 ?_
  have q1 := hb1.below
  have q2 := hb2.below
  have hr4d := hr4.ltS
  refine newPr fun k3 w5 hc5 hb5 hk5 hs5 => ?_
  replace hb1 := hb1.ch0 hc5
  replace hb2 := hb2.ch0 hc5
  replace hr4 := hr4.ch0 hc5
  replace hc5 := hc4.tr hc5
  have z5 := hc4.size
  have m1 : k1 ≠ k3 := by omega
  have m2 : k2 ≠ k3 := by omega
  have dn5 := Ch.drew w5
  refine ldI_b (o := 0) (hb1.ch0 dn5) rfl ⟨by decide, by decide, ldI_b (o := 0) (hb2.ch0 dn5) rfl (ldI_b (o := 0) (hb1.ch0 dn5) rfl ⟨(grow0 ha), stB (o := 0) (hb5.ch0 dn5) (by simp) fun w6 hc6 hb6 hs6 => ?_⟩)⟩
  have ga := (grow1 (n := n0) ha).2
  generalize IntKind.i64.wrap (a + IntKind.i64.wrap (Int.tmod (IntKind.u64.wrap n0) (IntKind.u64.wrap (IntKind.i64.wrap (17 - a))))) = A at *
  replace hc6 := dn5.tr' hc6
  replace hb1 := hb1.ch hc6 (nin1 m1)
  replace hb2 := hb2.ch hc6 (nin1 m2)
  have dn6 := Ch.drew w6
  refine ldI_b (o := 1) (hb1.ch0 dn6) rfl ⟨by decide, by decide, ldI_b (o := 1) (hb2.ch0 dn6) rfl (ldI_b (o := 1) (hb1.ch0 dn6) rfl ⟨(grow0 hb), stB (o := 1) (hb6.ch0 dn6) (by simp) fun w7 hc7 hb7 hs7 => ?_⟩)⟩
  have gb := (grow1 (n := n1) hb).2
  generalize IntKind.i64.wrap (b + IntKind.i64.wrap (Int.tmod (IntKind.u64.wrap n1) (IntKind.u64.wrap (IntKind.i64.wrap (17 - b))))) = B at *
  replace hc7 := dn6.tr' hc7
  replace hb1 := hb1.ch hc7 (nin1 m1)
  replace hb2 := hb2.ch hc7 (nin1 m2)
  have dn7 := Ch.drew w7
  refine ldI_b (o := 2) (hb1.ch0 dn7) rfl ⟨by decide, by decide, ldI_b (o := 2) (hb2.ch0 dn7) rfl (ldI_b (o := 2) (hb1.ch0 dn7) rfl ⟨(grow0 hc), stB (o := 2) (hb7.ch0 dn7) (by simp) fun w8 hc8 hb8 hs8 => ?_⟩)⟩
  have gc := (grow1 (n := n2) hc).2
  generalize IntKind.i64.wrap (c + IntKind.i64.wrap (Int.tmod (IntKind.u64.wrap n2) (IntKind.u64.wrap (IntKind.i64.wrap (17 - c))))) = C at *
  replace hc8 := dn7.tr' hc8
  replace hb1 := hb1.ch hc8 (nin1 m1)
  replace hb2 := hb2.ch hc8 (nin1 m2)
  have dn8 := Ch.drew w8
  refine ldI_b (o := 3) (hb1.ch0 dn8) rfl ⟨by decide, by decide, ldI_b (o := 3) (hb2.ch0 dn8) rfl (ldI_b (o := 3) (hb1.ch0 dn8) rfl ⟨(grow0 hd), stB (o := 3) (hb8.ch0 dn8) (by simp) fun w9 hc9 hb9 hs9 => ?_⟩)⟩
  have gd := (grow1 (n := n3) hd).2
  generalize IntKind.i64.wrap (d + IntKind.i64.wrap (Int.tmod (IntKind.u64.wrap n3) (IntKind.u64.wrap (IntKind.i64.wrap (17 - d))))) = D at *
  replace hc9 := dn8.tr' hc9
  replace hb1 := hb1.ch hc9 (nin1 m1)
  replace hb9 : Blk w9 k3 #[.int .i64 A, .int .i64 B, .int .i64 C, .int .i64 D, .slice s.a s.l s.c] _ := hb9
  have hc59 : Ch [some k3] w5 w9 := ((hc6.tr hc7).tr hc8).tr hc9
  replace hr4 := hr4.ch hc59 fun k hk => nin1 (by have := hr4d k hk; omega)
  replace hc9 := hc5.trN hc59 (by omega)
  clear hb2 hb5 hb6 hb7 hb8 hc6 hc7 hc8 hc59 dn5 dn6 dn7 dn8
  have q3 := hb9.below
  refine ldPr (s := s) hb9 ?_
  have eg := depths_grow h0 ga gb gc gd
  refine depths_ok (hs.ch0 hc9) hl fun r10 w10 hr10 hc10 => ?_
  rw [eg] at hr10 ⊢
  replace hb1 := hb1.ch0 hc10
  replace hb9 := hb9.ch0 hc10
  replace hr4 := hr4.ch0 hc10
  replace hc10 := hc9.tr hc10
  refine iteB_ne (fun h => absurd h0 h) (fun _ => ?_)
  refine sameInts_ok hr10.rd hr4.rd (by omega) fun w11 hc11 => iteB_neg (by simp) ?_
  replace hb1 := hb1.ch0 hc11
  replace hb9 := hb9.ch0 hc11
  replace hr4 := hr4.ch0 hc11
  replace hc11 := hc10.tr hc11
  have q4 := hr4.ltS
  have q9 := hb9.below
  refine ldS_b hb1 rfl ?_
  refine apP_own TIn (s := ⟨none, 0, 0⟩) (x := s) (vs := []) (news := flat is) (Own.nil _ _ _) hsn (by rw [flat_length, ls]) (hs.ch0 hc11).cells (flat_one is) (by simp only []; omega) (by simp only []; omega) fun s12 w12 ho12 hl12 hc12 hblk hsz hnil => ?_
  have hc12' : Ch [] w11 w12 := hc12.mono fun i hi h => by cases h
  rw [List.nil_append] at ho12
  replace hb9 := hb9.ch0 hc12'
  replace hr4 := hr4.ch0 hc12'
  have g12 : Ge w11.heap.size (blkOf s12) := fun k hk => by
    rcases hblk with h | h
    · rw [hk] at h; cases h
    · rw [hk] at h; cases h; exact Nat.le_refl _
  replace hc12 : Ch [] w w12 := hc11.tr hc12'
  have hl12' : s12.l = is.length := by simp only [Nat.zero_add] at hl12; omega
  rw [wrap_i64 (x := (s12.l : Int) + 1) (by omega), wrap_i64 (x := (s12.l : Int) + 1 + (s2.l : Int)) (by omega)]
  refine iteB_dec (fun h => ⟨rfl, hc12⟩) (fun hlen => ?_)
  refine apB TIn rfl (by simp [Value.oneCell']) ho12 (by omega) (by omega) fun s13 w13 ho13 hl13 hg13 => ?_
  obtain ⟨hc13, hf13⟩ := hg13.ch
  have g13 : Ge w11.heap.size (blkOf s13) := fun k hk => by
    rcases hf13 k hk with h | h
    · exact g12 k h
    · omega
  replace hb9 := hb9.ch hc13 fun hin => by have := g12 k3 (show some k3 = blkOf s12 from hin).symm; omega
  replace hr4 := hr4.ch hc13 fun k hk hin => by have h1 := g12 k (show some k = blkOf s12 from hin).symm; have h2 := q4 k hk; omega
  have z11 := hc11.size
  have z13 : w11.heap.size ≤ w13.heap.size := by have h1 := hc12'.size; have h2 := hc13.size; omega
  replace hc13 := hc12.trO hc13 fun k hk => by have := g12 k hk; omega
  replace ho13 : Own w13 79 2 s13 (flat (is ++ (0, 0) :: [])) := by
    have := ho13
    rw [show flat is ++ (#[Value.int .i64 0, .int .i64 0] : Array Value).toList = flat (is ++ [(0, 0)]) by rw [flat_snoc]] at this
    exact this
  refine loopP_inv (fun st w1 => ∃ (i : Nat) (tl : List Ins), st.2.1 = (i : Int) ∧ i ≤ it.length ∧ tl.length = i ∧ (∀ x ∈ tl, (10 ≤ x.1 ∧ x.1 ≤ 19) ∧ x.2 = 0) ∧ Own w1 79 2 st.1 (flat (is ++ (0, 0) :: tl)) ∧ Ge w11.heap.size (blkOf st.1) ∧
      Blk w1 k3 #[.int .i64 A, .int .i64 B, .int .i64 C, .int .i64 D, .slice s.a s.l s.c] 29 ∧ DOut w3.heap.size w1 r4 (depths a b c d is).1 ∧ Ch [] w w1 ∧ w11.heap.size ≤ w1.heap.size) (fun st _ => it.length - st.2.1.toNat) ⟨0, [], rfl, Nat.zero_le _, rfl, by simp, ho13, g13, hb9, hr4, hc13, z13⟩ ?_
  clear ho13 hb9 hr4 hc13 ho12 hc12 hc12' hb1 hc11 hc10 hc9 hr10
  rintro ⟨sl, i0, u⟩ w14 next ⟨i, tl, rfl, hi, hti, htl', ho, hg, hb9, hr4, hc14, z14⟩ hnext
  dsimp only at ho hg ⊢
  have hsl' := ho.len
  simp only [flat_length, List.length_append, List.length_cons] at hsl'
  refine iteB_dec (fun h => ?_) (fun h => ?_)
  · have hlt : i < it.length := by omega
    refine (ht.ch0 hc14).idx rfl hlt fun ad had1 had2 => ?_
    refine ldI_of had1 ⟨by decide, ?_⟩
    have g2 := grow2 it[i].1
    generalize IntKind.i64.wrap (10 + IntKind.i64.wrap (Int.tmod (IntKind.u64.wrap it[i].1) 10)) = v at *
    refine apB TIn rfl (by simp [Value.oneCell']) ho (by omega) (by omega) fun s15 w15 ho15 hl15 hg15 => ?_
    obtain ⟨hc15, hf15⟩ := hg15.ch
    rw [wrap_i64 (by omega)]
    refine hnext _ _ ⟨i + 1, tl ++ [(v, 0)], by simp, hlt, by simp [hti], fun x hx => ?_, ?_, fun k hk => ?_, hb9.ch hc15 fun hin => ?_, hr4.ch hc15 fun k hk hin => ?_, hc14.trO hc15 (fun k hk => ?_), by have := hc15.size; omega⟩ (by simp; omega)
    · rcases List.mem_append.1 hx with hx | hx
      · exact htl' x hx
      · simp at hx
        subst hx
        exact ⟨g2, rfl⟩
    · have : flat (is ++ (0, 0) :: (tl ++ [(v, 0)])) = flat (is ++ (0, 0) :: tl) ++ [.int .i64 v, .int .i64 0] := by
        rw [show is ++ (0, 0) :: (tl ++ [(v, 0)]) = (is ++ (0, 0) :: tl) ++ [(v, 0)] by simp, flat_snoc]
      rw [this]
      exact ho15
    · rcases hf15 k hk with h | h
      · exact hg k h
      · omega
    · have := hg k3 (show some k3 = blkOf sl from hin).symm; omega
    · have h1 := hg k (show some k = blkOf sl from hin).symm
      have h2 := q4 k hk; omega
    · have := hg k hk; omega
  have hie : i = it.length := by omega
  subst hie
  refine stB (o := 4) hb9 (by simp) fun w15 hc15 hb15 hs15 => ?_
  replace hb15 : Blk w15 k3 #[.int .i64 A, .int .i64 B, .int .i64 C, .int .i64 D, .slice sl.a sl.l sl.c] _ := hb15
  replace hr4 := hr4.ch hc15 fun k hk => nin1 (by have := hr4d k hk; omega)
  replace ho := ho.ch hc15 fun k hk => nin1 (by have := hg k hk; omega)
  replace hc15 := hc14.trN hc15 (by omega)
  refine ldPr (s := sl) hb15 ?_
  have et := depths_tail (a := A) (b := B) (c := C) (d := D) (l := is) (tl := tl) (by rw [eg]; exact h0) htl' (by omega)
  refine depths_ok ho.rdC (by simp; omega) fun r16 w16 hr16 hc16 => ?_
  rw [et, eg] at hr16
  rw [et]
  replace hr4 := hr4.ch0 hc16
  replace hc16 := hc15.tr hc16
  have l4 := hr4.rd.len
  have l16 := hr16.rd.len
  simp only [Is_length, List.length_append, List.length_replicate] at l4 l16
  refine iteB_ne (fun h => absurd rfl h) (fun _ => ?_)
  rw [wrap_i64 (x := (sl.l : Int) + 1) (by omega)]
  refine iteB_ne (fun h => absurd (by omega) h) (fun _ => ?_)
  refine hr16.rd.sl (l := 0) (u := r4.l) rfl rfl (by omega) (by simp; omega) fun p hp _ => ?_
  rw [Nat.sub_zero] at hp ⊢
  have ep : (List.drop 0 (Is .i64 ((depths a b c d is).1 ++ List.replicate (tl.length + 1) (-1)))).take r4.l = Is .i64 (depths a b c d is).1 := by
    rw [List.drop_zero, l4]
    unfold Is
    rw [List.map_append, List.take_left' (by simp)]
  rw [ep] at hp
  refine sameInts_ok hp hr4.rd (by omega) fun w17 hc17 => iteB_neg (by simp) ?_
  replace hr16 := hr16.ch0 hc17
  replace hc17 := hc16.tr hc17
  refine loopP_inv (fun st w1 => ∃ i : Nat, st.1 = (i : Int) ∧ r4.l ≤ i ∧ i ≤ r16.l ∧ w1 = w17) (fun st _ => r16.l - st.1.toNat) ⟨r4.l, rfl, Nat.le_refl _, by omega, rfl⟩ ?_
  rintro ⟨i0, u⟩ w18 next2 ⟨i, rfl, hi1, hi2, rfl⟩ hnext2
  dsimp only
  refine iteB_dec (fun h' => ?_) (fun _ => ⟨rfl, hc17⟩)
  have hil : i < r16.l := by omega
  refine hr16.rd.idx (by omega) (by simp; omega) fun ad had => ?_
  have hv : (Is .i64 ((depths a b c d is).1 ++ List.replicate (tl.length + 1) (-1)))[i]? = some (.int .i64 (-1)) := by
    unfold Is
    rw [List.getElem?_map, List.getElem?_append_right (by omega), List.getElem?_replicate, if_pos (by omega)]
    rfl
  refine ldI_of (by rw [had]; exact hv) (iteB_ne (fun h => absurd rfl h) fun _ => ?_)
  rw [wrap_i64 (by omega)]
  exact hnext2 _ _ ⟨i + 1, by simp, by omega, by omega, rfl⟩ (by simp; omega)
end Go.Proofs.Ytgpdecfcjpblgaa
