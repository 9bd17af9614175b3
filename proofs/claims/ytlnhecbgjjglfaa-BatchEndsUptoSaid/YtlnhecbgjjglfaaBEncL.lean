/- BEncL: the law BatchEncodes. -/
import Derived.Test.YtlnhecbgjjglfaaBEnc
import Derived.Test.YtlnhecbgjjglfaaSets
set_option linter.unusedVariables false
set_option linter.unusedSimpArgs false
namespace Go.Pl
open Go Go.Sh Go.RowKit Go.Gt
def K64 (l : List Ky) : Prop := ∀ k ∈ l, (-9223372036854775808 ≤ k.1 ∧ k.1 ≤ 9223372036854775807) ∧ (-9223372036854775808 ≤ k.2 ∧ k.2 ≤ 9223372036854775807)
structure T64 (x : Txm) : Prop where
  p : -9223372036854775808 ≤ x.proc ∧ x.proc ≤ 9223372036854775807
  a : I64s x.args
  r : K64 x.reads
  w : K64 x.writes
theorem wf64 {n : Int} (h : (Lit.int .i64 n).wf = true) : -9223372036854775808 ≤ n ∧ n ≤ 9223372036854775807 := by
  simp [Lit.wf, IntKind.min, IntKind.max, IntKind.signed, IntKind.bits] at h
  omega
end Go.Pl
namespace Go.Proofs.Ytlnhecbgjjglfaa
open Go Go.Sh Go.Pl Go.RowKit Go.Gt Go.Num
theorem rep_ints64 {R : Nat} {w : World} {s : Slc} {ms : Mo intsG} (h : Gt.Rep R w intsG [.slice s.a s.l s.c] ms) : I64s (intsOf ms) := by
  obtain ⟨s', he, h1, h2, h3, h4, h5⟩ := h
  intro a ha
  obtain ⟨i, hi⟩ := List.getElem?_of_mem ha
  obtain ⟨ad, es, g1, g2, g3, g4⟩ := h5 i a hi
  exact wf64 g4.2
theorem rep_keys64 {R : Nat} {w : World} {s : Slc} {ms : Mo keysG} (h : Gt.Rep R w keysG [.slice s.a s.l s.c] ms) : K64 (kysOf ms) := by
  obtain ⟨s', he, h1, h2, h3, h4, h5⟩ := h
  intro k hk
  obtain ⟨i, hi⟩ := List.getElem?_of_mem hk
  obtain ⟨u, hm⟩ := kysL_at hi
  obtain ⟨ad, es, g1, g2, g3, g4⟩ := h5 i (k.1, k.2, u) hm
  obtain ⟨c1, c2, rfl, ⟨rfl, q1⟩, c3, c4, rfl, ⟨rfl, q2⟩, rfl⟩ := g4
  exact ⟨wf64 q1, wf64 q2⟩
theorem rep_bat64 {R : Nat} {w : World} {s : Slc} {ms : Mo batG} (h : Gt.Rep R w batG [.slice s.a s.l s.c] ms) : ∀ x ∈ batOf ms, T64 x := by
  obtain ⟨s', he, h1, h2, h3, h4, h5⟩ := h
  intro x hx
  obtain ⟨i, hi⟩ := List.getElem?_of_mem hx
  obtain ⟨p, a, r, q, hm, rfl⟩ := txL_at hi
  obtain ⟨ad, es, g1, g2, g3, g4⟩ := h5 i (p, a, r, q, ()) hm
  obtain ⟨d1, d2, rfl, ⟨rfl, w1⟩, d3, d4, rfl, ha, d5, d6, rfl, hr, d7, d8, rfl, hq, rfl⟩ := g4
  have ha' := ha
  have hr' := hr
  have hq' := hq
  obtain ⟨ag, rfl, _⟩ := ha
  obtain ⟨rs, rfl, _⟩ := hr
  obtain ⟨ws, rfl, _⟩ := hq
  exact ⟨wf64 w1, rep_ints64 ha', rep_keys64 hr', rep_keys64 hq'⟩
theorem encT_len {xs : List Txm} (h : ∀ x ∈ xs, I64s x.args) : (encT xs).1.length ≤ 40000 := by
  unfold encT
  split
  · rename_i he
    obtain ⟨hn, hfr⟩ := chk_zero he
    have h1 := encU_ten xs.length (by omega)
    have h2 := txsB_len (xs := xs) fun x hx => ⟨hfr x hx, h x hx⟩
    simp only [batB, List.length_append]; omega
  · simp
/-- A shelf of two rows of bytes. -/
theorem shf2 {w : World} {k0 kA : Nat} {r q : Slc} {bs cs : List UInt8} {n : Nat} (hb : Blk w k0 #[.slice none 0 0, .slice none 0 0, .slice none 0 0, .slice none 0 0, .slice (some ⟨kA, 0, none⟩) 2 2] 37)
    (hA : Blk w kA #[slV r, slV q] 50) (hr : Own w 5 1 r (U8 bs)) (hq : Own w 5 1 q (U8 cs)) (n0 : n ≤ k0) (nA : n ≤ kA) (h0 : k0 ≠ kA)
    (r0 : ∀ k, blkOf r = some k → n ≤ k ∧ k < k0 ∧ k < kA) (q0 : ∀ k, blkOf q = some k → n ≤ k ∧ k < k0 ∧ k < kA) (d : ∀ k, blkOf r = some k → blkOf q = some k → False) (sb : bs.length ≤ 1000000) (sc : cs.length ≤ 1000000) :
    ∃ D f G, Shf T6 D w k0 f G ∧ (∀ k, D k → n ≤ k ∧ k < w.heap.size) ∧ FewG G := by
  have z0 := hb.lt
  have zA := hA.lt
  have lr := U8_own hr
  have lq := U8_own hq
  have f0 : ∀ k, k = k0 → (fun k => if k = k0 then 0 else if k = kA then 5 else if blkOf r = some k then 11 else 16) k = 0 := fun k h => if_pos h
  refine ⟨fun k => k = k0 ∨ k = kA ∨ blkOf r = some k ∨ blkOf q = some k, fun k => if k = k0 then 0 else if k = kA then 5 else if blkOf r = some k then 11 else 16, fun o => if o = 4 then ⟨⟨some ⟨kA, 0, none⟩, 2, 2⟩, [r, q], [U8 bs, U8 cs]⟩ else ⟨⟨none, 0, 0⟩, [], []⟩,
    ⟨hb, .inl rfl, if_pos rfl, fun o ho => ?_, fun o ho k hk => ?_, fun o ho => ?_, fun o ho i x vs h1 h2 => ?_, fun o ho i x k h1 h2 => ?_⟩, fun k hk => ?_, fun o ho => ?_⟩
  · by_cases h4 : o = 4
    · subst h4
      rw [if_pos rfl]
      exact ⟨by simp, .inr ⟨kA, 2, #[slV r, slV q], rfl, Nat.zero_le _, hA, Nat.le_refl _, by unfold maxLen; omega, by simp, by simp⟩⟩
    · rw [if_neg h4]; exact Own.nil _ _ _
  · by_cases h4 : o = 4
    · subst h4
      rw [if_pos rfl] at hk
      have : kA = k := by simpa [blkOf] using hk
      subst this
      exact ⟨.inr (.inl rfl), by show (if _ then _ else _) = _; rw [if_neg (by omega), if_pos rfl]⟩
    · rw [if_neg h4] at hk; cases hk
  · by_cases h4 : o = 4
    · subst h4; simp
    · rw [if_neg h4]; rfl
  · by_cases h4 : o = 4
    · subst h4
      rw [if_pos rfl] at h1 h2
      match i, h1, h2 with
      | 0, h1, h2 => simp at h1 h2; subst h1; subst h2; exact hr
      | 1, h1, h2 => simp at h1 h2; subst h1; subst h2; exact hq
      | i + 2, h1, h2 => simp at h1
    · rw [if_neg h4] at h1; simp at h1
  · by_cases h4 : o = 4
    · subst h4
      rw [if_pos rfl] at h1
      match i, h1 with
      | 0, h1 =>
        simp at h1; subst h1
        have := r0 k h2
        refine ⟨.inr (.inr (.inl h2)), ?_⟩
        show (if _ then _ else _) = _
        rw [if_neg (by omega), if_neg (by omega), if_pos h2]
      | 1, h1 =>
        simp at h1; subst h1
        have := q0 k h2
        refine ⟨.inr (.inr (.inr h2)), ?_⟩
        show (if _ then _ else _) = _
        rw [if_neg (by omega), if_neg (by omega), if_neg (fun h => d k h h2)]
      | i + 2, h1 => simp at h1
    · rw [if_neg h4] at h1; simp at h1
  · rcases hk with rfl | rfl | hk | hk
    · exact ⟨n0, z0⟩
    · exact ⟨nA, zA⟩
    · exact ⟨(r0 k hk).1, by have := (r0 k hk).2.1; omega⟩
    · exact ⟨(q0 k hk).1, by have := (q0 k hk).2.1; omega⟩
  · by_cases h4 : o = 4
    · subst h4
      dsimp only
      rw [if_pos rfl]
      refine ⟨by simp, fun x hx => ?_⟩
      simp at hx
      rcases hx with rfl | rfl <;> omega
    · dsimp only
      rw [if_neg h4]; exact ⟨by simp, fun x hx => by simp at hx⟩
theorem lsame_ok {a b : Slc} {xs ys : List UInt8} {w : World} {K : Bool → World → Prop} (ha : Rd w a (U8 xs)) (hb : Rd w b (U8 ys)) (hl : xs.length ≤ 9000000000000000000) (hK : ∀ w', Ch [] w w' → K (decide (xs = ys)) w') : c_preludelaw06_sameBytes a b w K := by
  refine sim_preludelaw06_sameBytes ?_
  unfold sh_preludelaw06_sameBytes
  exact sameB ha hb hl hK
set_option maxRecDepth 20000 in
set_option maxHeartbeats 2000000 in
theorem law_BatchEncodes {b : Slc} {mb : Mo batG} {w : World} (k0 : Gt.Rep reachBytes w batG [.slice b.a b.l b.c] mb) : c_preludelaw06_BatchEncodes b w fun r w' => r = true ∧ Chg Nil w w' := by
  refine sim_preludelaw06_BatchEncodes ?_
  unfold sh_preludelaw06_BatchEncodes
  obtain ⟨hb, big, hbn, hbc⟩ := rep_bat (Nat.le_refl _) k0
  have h64 := rep_bat64 k0
  have hre : reachBytes = 140737488351232 := rfl
  have lb := hb.len
  have cb := hb.cap
  generalize batOf mb = xs at *
  have ha64 : ∀ x ∈ xs, I64s x.args := fun x hx => (h64 x hx).a
  have hel := encT_len ha64
  refine parts_ok hb big (by omega) (by omega) fun n w1 hc1 hfew hn => ?_
  refine iteB_dec (fun h => ⟨rfl, hc1⟩) (fun h => ?_)
  have few := hfew (by omega)
  refine lent_ok (hb.ch0 hc1) (fun h => (hbn h).1) few fun s2 w2 hl2 hnil hc2 => ?_
  have z1 := hc1.size
  have z2 := hc2.size
  replace hc2 := hc1.tr hc2
  refine benc_ok hl2.rdB ha64 fun s3 w3 ho3 hc3 hg3 hl3 hn3 => ?_
  have hb3 := hl2.ch0 hc3
  have z3 := hc3.size
  replace hc3 := hc2.tr hc3
  refine rbenc_ok (hb.ch0 hc3) ha64 fun s4 w4 h4 => ?_
  have hb4 := hb3.ch0 h4.ch
  have ho3' := ho3.ch0 h4.ch
  have z4 := h4.ch.size
  have hc4 := hc3.tr h4.ch
  refine benc_ok hb4.rdB ha64 fun s5 w5 ho5 hc5 hg5 hl5 hn5 => ?_
  have hb5 := hb4.ch0 hc5
  have z5 := hc5.size
  have ho3'' := ho3'.ch0 hc5
  have ho4 := h4.own.ch0 hc5
  replace hc5 := hc4.tr hc5
  refine back_ok hb5 (hb.ch0 hc5) hnil few (by omega) fun w6 hc6 => iteB_neg rfl ?_
  have z6 := hc6.size
  have p3 := ho3.ltS
  have p4 := h4.own.ltS
  have o3 := ho3''.chg hc6 fun k hk hkk => by have := hg3 k hk; omega
  have o4 := ho4.chg hc6 fun k hk hkk => by have := h4.ge k hk; omega
  have o5 := ho5.chg hc6 fun k hk hkk => by have := hg5 k hk; omega
  have hcw6 : Ch [] w w6 := (show Chg Nil w w5 from hc5).step hc6 fun k hk hkk => by omega
  refine sim_preludelaw06_num ?_
  unfold sh_preludelaw06_num
  refine iteB_neg (by simp) ?_
  refine lsame_ok o3.rd o4.rd (by omega) fun w7 hc7 => ?_
  rw [decide_eq_true rfl]
  refine iteB_neg rfl ?_
  replace o3 := o3.ch0 hc7
  replace o4 := o4.ch0 hc7
  replace o5 := o5.ch0 hc7
  have z7 := hc7.size
  replace hc7 := hcw6.tr hc7
  refine lsame_ok o5.rd o4.rd (by omega) fun w8 hc8 => ?_
  rw [decide_eq_true rfl]
  refine iteB_neg rfl ?_
  replace o3 := o3.ch0 hc8
  replace o5 := o5.ch0 hc8
  have z8 := hc8.size
  replace hc8 := hc7.tr hc8
  refine newB fun kA w9 hc9 hb9 hk9 hs9 => ?_
  refine newB fun kB w10 hc10 hb10 hk10 hs10 => ?_
  replace hb9 := hb9.ch0 hc10
  replace o3 := (o3.ch0 hc9).ch0 hc10
  replace o5 := (o5.ch0 hc9).ch0 hc10
  have hc11 := (hc8.tr hc9).tr hc10
  have p5 := ho5.ltS
  obtain ⟨D, f, G, hS, hD, few'⟩ := shf2 (n := w.heap.size) hb10 hb9 o3 o5 (by omega) (by omega) (by omega)
    (fun k hk => by have h1 := hg3 k hk; have h2 := p3 k hk; omega) (fun k hk => by have h1 := hg5 k hk; have h2 := p5 k hk; omega)
    (fun k hk hk' => by have h1 := p3 k hk; have h2 := hg5 k hk'; omega) (by omega) (by omega)
  refine apart_ok hS (fun k hk => (hD k hk).2) few' fun w12 hc12 => ⟨rfl, (show Chg Nil w w10 from hc11).step hc12 fun k hk hkk => ?_⟩
  rcases hkk with hkk | hkk
  · have := (hD k hkk).1; omega
  · have := hc11.size; omega
end Go.Proofs.Ytlnhecbgjjglfaa
