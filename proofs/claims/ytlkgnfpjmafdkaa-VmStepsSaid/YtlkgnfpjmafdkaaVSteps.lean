/- VSteps: the law VmSteps. -/
import Derived.Test.YtlkgnfpjmafdkaaVAsk
set_option linter.unusedVariables false
set_option linter.unusedSimpArgs false
namespace Go.Proofs.Ytlkgnfpjmafdkaa
open Go Go.Sh Go.Pl Go.RowKit Go.Lang Go.Vm Go.Gt
/-- Two arrays of two machines; those that are there are alike, and share nothing. -/
structure Al (N0 n1 k5 k7 : Nat) (t5 t7 : TypeId) (w : World) (P R : Nat → Option Addr) (S : Nat → Nat → Prop) : Prop where
  bP : Blk w k5 #[.pointer (P 0), .pointer (P 1)] t5
  bR : Blk w k7 #[.pointer (R 0), .pointer (R 1)] t7
  tw : ∀ j, (P j = none ∧ R j = none) ∨ Tw N0 (S j) w (P j) (R j)
  lo : ∀ j k, S j k → n1 ≤ k ∧ k < w.heap.size
  dj : ∀ i j k, i ≠ j → S i k → ¬ S j k
  l0 : N0 ≤ n1
  l5 : k5 < n1
  l7 : k7 < n1
  nz : n1 ≤ w.heap.size
theorem Al.ch0 {N0 n1 k5 k7 : Nat} {t5 t7 : TypeId} {w w' : World} {P R : Nat → Option Addr} {S : Nat → Nat → Prop} (h : Al N0 n1 k5 k7 t5 t7 w P R S) (hc : Ch [] w w') : Al N0 n1 k5 k7 t5 t7 w' P R S :=
  ⟨h.bP.ch0 hc, h.bR.ch0 hc, fun j => (h.tw j).imp id fun h => h.ch0 hc, fun j k hk => by have := h.lo j k hk; have := hc.size; omega, h.dj, h.l0, h.l5, h.l7, Nat.le_trans h.nz hc.size⟩
theorem Al.ask {N0 n1 k5 k7 : Nat} {t5 t7 : TypeId} {w : World} {P R : Nat → Option Addr} {S : Nat → Nat → Prop} {j : Nat} {ask : Int} {K : Bool → World → Prop} (h : Al N0 n1 k5 k7 t5 t7 w P R S) (hn : R j ≠ none)
    (hK : ∀ w' S', Al N0 n1 k5 k7 t5 t7 w' P R S' → Chg (fun k => n1 ≤ k) w w' → K true w') : c_preludelaw05_asked (P j) (R j) ask w K := by
  rcases h.tw j with ⟨_, h0⟩ | ht
  · exact absurd h0 hn
  have l0 := h.l0
  have l5 := h.l5
  have l7 := h.l7
  have nz := h.nz
  refine asked_ok ht fun w' h' hc => ?_
  have hz := hc.size
  have hc' : Chg (fun k => n1 ≤ k) w w' := hc.mono fun k _ hk => (h.lo j k hk).1
  refine hK w' (fun i => if i = j then (fun k => S j k ∨ (w.heap.size ≤ k ∧ k < w'.heap.size)) else S i)
    ⟨h.bP.chg hc' (by omega), h.bR.chg hc' (by omega), fun i => ?_, fun i k hk => ?_, fun i i' k hne hk hk' => ?_, l0, l5, l7, by omega⟩ hc'
  · by_cases e : i = j
    · subst e
      rw [if_pos rfl]
      exact .inr h'
    · rw [if_neg e]
      exact (h.tw i).imp id fun h0 => h0.chg hc (fun k hk => by have := (h.lo j k hk).1; omega) fun k hk hk' => h.dj i j k e hk hk'
  · by_cases e : i = j
    · rw [if_pos e] at hk
      rcases hk with hk | hk
      · have := h.lo j k hk; omega
      · omega
    · rw [if_neg e] at hk
      have := h.lo i k hk; omega
  · by_cases e : i = j
    · rw [if_pos e] at hk
      have e' : i' ≠ j := fun e' => hne (by rw [e, e'])
      rw [if_neg e'] at hk'
      rcases hk with hk | hk
      · exact h.dj j i' k (fun e' => hne (by rw [e, e'])) hk hk'
      · have := h.lo i' k hk'; omega
    · rw [if_neg e] at hk
      by_cases e' : i' = j
      · rw [if_pos e'] at hk'
        rcases hk' with hk' | hk'
        · exact h.dj i j k e hk hk'
        · have := h.lo i k hk; omega
      · rw [if_neg e'] at hk'
        exact h.dj i i' k hne hk hk'
theorem ldP2 {w : World} {k : Nat} {F : Nat → Option Addr} {t : TypeId} {j : Nat} {x : Int} {K : Option Addr → Prop} (h : Blk w k #[.pointer (F 0), .pointer (F 1)] t) (hj : j < 2) (hx : x = (j : Int)) (hK : K (F j)) :
    arrP 2 x (ldP ((⟨k, 0, none⟩ : Addr).add (Int.toNat x * 1)) w K) := by
  subst hx
  refine ⟨by omega, by omega, ?_⟩
  rw [Int.toNat_natCast, Nat.mul_one]
  have : j = 0 ∨ j = 1 := by omega
  rcases this with rfl | rfl
  · exact ldP_b h rfl hK
  · exact ldP_b h rfl hK
theorem stP2 {w : World} {k : Nat} {F : Nat → Option Addr} {t : TypeId} {j : Nat} {x : Int} {p : Option Addr} {K : World → Prop} (h : Blk w k #[.pointer (F 0), .pointer (F 1)] t) (hj : j < 2) (hx : x = (j : Int))
    (hK : ∀ w', Blk w' k #[.pointer ((fun i => if i = j then p else F i) 0), .pointer ((fun i => if i = j then p else F i) 1)] t → Ch [some k] w w' → w'.heap.size = w.heap.size → K w') :
    arrP 2 x (stP ((⟨k, 0, none⟩ : Addr).add (Int.toNat x * 1)) (.pointer p) w K) := by
  subst hx
  refine ⟨by omega, by omega, ?_⟩
  rw [Int.toNat_natCast, Nat.mul_one]
  refine stB h (by simpa using hj) fun w' hc hb hs => hK w' ?_ hc hs
  have : j = 0 ∨ j = 1 := by omega
  rcases this with rfl | rfl
  · exact hb
  · exact hb
theorem st14 {w : World} {b : Nat} {x0 x1 x2 x3 x4 x5 x6 x7 x8 x9 x10 x11 x12 x13 v0 v1 v2 v3 v4 v5 v6 v7 v8 v9 v10 v11 v12 v13 : Value} {t : TypeId} {K : World → Prop} (hb : Blk w b #[x0, x1, x2, x3, x4, x5, x6, x7, x8, x9, x10, x11, x12, x13] t) (h : ∀ w', Ch [some b] w w' → Blk w' b #[v0, v1, v2, v3, v4, v5, v6, v7, v8, v9, v10, v11, v12, v13] t → w'.heap.size = w.heap.size → K w') :
    stP ⟨b, 0, none⟩ v0 w fun y1 => stP ((⟨b, 0, none⟩ : Addr).add 1) v1 y1 fun y2 => stP ((⟨b, 0, none⟩ : Addr).add 2) v2 y2 fun y3 => stP ((⟨b, 0, none⟩ : Addr).add 3) v3 y3 fun y4 => stP ((⟨b, 0, none⟩ : Addr).add 4) v4 y4 fun y5 => stP ((⟨b, 0, none⟩ : Addr).add 5) v5 y5 fun y6 => stP ((⟨b, 0, none⟩ : Addr).add 6) v6 y6 fun y7 => stP ((⟨b, 0, none⟩ : Addr).add 7) v7 y7 fun y8 => stP ((⟨b, 0, none⟩ : Addr).add 8) v8 y8 fun y9 => stP ((⟨b, 0, none⟩ : Addr).add 9) v9 y9 fun y10 => stP ((⟨b, 0, none⟩ : Addr).add 10) v10 y10 fun y11 => stP ((⟨b, 0, none⟩ : Addr).add 11) v11 y11 fun y12 => stP ((⟨b, 0, none⟩ : Addr).add 12) v12 y12 fun y13 => stP ((⟨b, 0, none⟩ : Addr).add 13) v13 y13 K := by
  refine stB (o := 0) hb (show 0 < 14 by decide) fun y1 d1 j1 z1 => ?_
  replace j1 : Blk y1 b #[v0, x1, x2, x3, x4, x5, x6, x7, x8, x9, x10, x11, x12, x13] t := j1
  refine stB (o := 1) j1 (show 1 < 14 by decide) fun y2 d2 j2 z2 => ?_
  replace j2 : Blk y2 b #[v0, v1, x2, x3, x4, x5, x6, x7, x8, x9, x10, x11, x12, x13] t := j2
  refine stB (o := 2) j2 (show 2 < 14 by decide) fun y3 d3 j3 z3 => ?_
  replace j3 : Blk y3 b #[v0, v1, v2, x3, x4, x5, x6, x7, x8, x9, x10, x11, x12, x13] t := j3
  refine stB (o := 3) j3 (show 3 < 14 by decide) fun y4 d4 j4 z4 => ?_
  replace j4 : Blk y4 b #[v0, v1, v2, v3, x4, x5, x6, x7, x8, x9, x10, x11, x12, x13] t := j4
  refine stB (o := 4) j4 (show 4 < 14 by decide) fun y5 d5 j5 z5 => ?_
  replace j5 : Blk y5 b #[v0, v1, v2, v3, v4, x5, x6, x7, x8, x9, x10, x11, x12, x13] t := j5
  refine stB (o := 5) j5 (show 5 < 14 by decide) fun y6 d6 j6 z6 => ?_
  replace j6 : Blk y6 b #[v0, v1, v2, v3, v4, v5, x6, x7, x8, x9, x10, x11, x12, x13] t := j6
  refine stB (o := 6) j6 (show 6 < 14 by decide) fun y7 d7 j7 z7 => ?_
  replace j7 : Blk y7 b #[v0, v1, v2, v3, v4, v5, v6, x7, x8, x9, x10, x11, x12, x13] t := j7
  refine stB (o := 7) j7 (show 7 < 14 by decide) fun y8 d8 j8 z8 => ?_
  replace j8 : Blk y8 b #[v0, v1, v2, v3, v4, v5, v6, v7, x8, x9, x10, x11, x12, x13] t := j8
  refine stB (o := 8) j8 (show 8 < 14 by decide) fun y9 d9 j9 z9 => ?_
  replace j9 : Blk y9 b #[v0, v1, v2, v3, v4, v5, v6, v7, v8, x9, x10, x11, x12, x13] t := j9
  refine stB (o := 9) j9 (show 9 < 14 by decide) fun y10 d10 j10 z10 => ?_
  replace j10 : Blk y10 b #[v0, v1, v2, v3, v4, v5, v6, v7, v8, v9, x10, x11, x12, x13] t := j10
  refine stB (o := 10) j10 (show 10 < 14 by decide) fun y11 d11 j11 z11 => ?_
  replace j11 : Blk y11 b #[v0, v1, v2, v3, v4, v5, v6, v7, v8, v9, v10, x11, x12, x13] t := j11
  refine stB (o := 11) j11 (show 11 < 14 by decide) fun y12 d12 j12 z12 => ?_
  replace j12 : Blk y12 b #[v0, v1, v2, v3, v4, v5, v6, v7, v8, v9, v10, v11, x12, x13] t := j12
  refine stB (o := 12) j12 (show 12 < 14 by decide) fun y13 d13 j13 z13 => ?_
  replace j13 : Blk y13 b #[v0, v1, v2, v3, v4, v5, v6, v7, v8, v9, v10, v11, v12, x13] t := j13
  refine stB (o := 13) j13 (show 13 < 14 by decide) fun y14 d14 j14 z14 => ?_
  replace j14 : Blk y14 b #[v0, v1, v2, v3, v4, v5, v6, v7, v8, v9, v10, v11, v12, v13] t := j14
  exact h _ (((((((((((((d1.tr d2).tr d3).tr d4).tr d5).tr d6).tr d7).tr d8).tr d9).tr d10).tr d11).tr d12).tr d13).tr d14) j14 (by omega)
/-- The machine that New makes, or none. -/
theorem vnew_ok {E : En} {s sa sr : Slc} {w : World} {K : Option Addr → Int → World → Prop} (g : Gv w E s sa sr)
    (hK : ∀ p v, Ch [] w v → ((p = none ∧ newE E ≠ 0) ∨ (Sound E ∧ ∃ k, p = some ⟨k, 0, none⟩ ∧ Mn (fun i => w.heap.size ≤ i) v k E (mc0 E))) → K p (newE E) v) : c_vm_New E.a E.b E.c E.d s sa sr w K :=
  new_ok g.rc g.nc g.ra g.na g.rr g.nr g.big ⟨fun hne v hc => hK none v hc (.inl ⟨rfl, hne⟩), fun hS k v hM hc => by
    have := hK _ v hc (.inr ⟨hS, k, rfl, hM⟩)
    rwa [newE_s hS] at this⟩
theorem vrnew_ok {N0 : Nat} {E : En} {s sa sr : Slc} {w : World} {K : Option Addr → Int → World → Prop} (g : Gv w E s sa sr) (hN : N0 ≤ w.heap.size) (hG' : ∀ w', Chg (fun k => N0 ≤ k) w w' → Gv w' E s sa sr)
    (hK : ∀ p v, Ch [] w v → ((p = none ∧ newE E ≠ 0) ∨ (Sound E ∧ ∃ k, p = some ⟨k, 0, none⟩ ∧ Rn N0 (fun i => w.heap.size ≤ i) v k E (mc0 E))) → K p (newE E) v) : c_preluderef05_New E.a E.b E.c E.d s sa sr w K :=
  rnew_ok g hN hG' ⟨fun hne v hc => hK none v hc (.inl ⟨rfl, hne⟩), fun hS k v hM hc => by
    have := hK _ v hc (.inr ⟨hS, k, rfl, hM⟩)
    rwa [newE_s hS] at this⟩
def c14 (EE : Nat → En) (ss sas srs : Nat → Slc) : Array Value :=
  #[.int .i64 (EE 0).a, .int .i64 (EE 0).b, .int .i64 (EE 0).c, .int .i64 (EE 0).d, .slice (ss 0).a (ss 0).l (ss 0).c, .slice (sas 0).a (sas 0).l (sas 0).c, .slice (srs 0).a (srs 0).l (srs 0).c,
    .int .i64 (EE 1).a, .int .i64 (EE 1).b, .int .i64 (EE 1).c, .int .i64 (EE 1).d, .slice (ss 1).a (ss 1).l (ss 1).c, .slice (sas 1).a (sas 1).l (sas 1).c, .slice (srs 1).a (srs 1).l (srs 1).c]
theorem c14_at {EE : Nat → En} {ss sas srs : Nat → Slc} {i : Nat} (hi : i < 2) :
    (c14 EE ss sas srs)[i * 7 + 0]? = some (.int .i64 (EE i).a) ∧ (c14 EE ss sas srs)[i * 7 + 1]? = some (.int .i64 (EE i).b) ∧ (c14 EE ss sas srs)[i * 7 + 2]? = some (.int .i64 (EE i).c) ∧ (c14 EE ss sas srs)[i * 7 + 3]? = some (.int .i64 (EE i).d) ∧
      (c14 EE ss sas srs)[i * 7 + 4]? = some (.slice (ss i).a (ss i).l (ss i).c) ∧ (c14 EE ss sas srs)[i * 7 + 5]? = some (.slice (sas i).a (sas i).l (sas i).c) ∧ (c14 EE ss sas srs)[i * 7 + 6]? = some (.slice (srs i).a (srs i).l (srs i).c) := by
  have : i = 0 ∨ i = 1 := by omega
  rcases this with rfl | rfl
  · exact ⟨rfl, rfl, rfl, rfl, rfl, rfl, rfl⟩
  · exact ⟨rfl, rfl, rfl, rfl, rfl, rfl, rfl⟩
theorem ld7 {w : World} {k : Nat} {a b c d : Int} {s sa sr : Slc} {t : TypeId} {K : Int → Int → Int → Int → Slc → Slc → Slc → Prop} (h : Blk w k #[.int .i64 a, .int .i64 b, .int .i64 c, .int .i64 d, .slice s.a s.l s.c, .slice sa.a sa.l sa.c, .slice sr.a sr.l sr.c] t) (hK : K a b c d s sa sr) :
    ldI .i64 ⟨k, 0, none⟩ w fun n1 => ldI .i64 ((⟨k, 0, none⟩ : Addr).add 1) w fun n2 => ldI .i64 ((⟨k, 0, none⟩ : Addr).add 2) w fun n3 => ldI .i64 ((⟨k, 0, none⟩ : Addr).add 3) w fun n4 => ldS ((⟨k, 0, none⟩ : Addr).add 4) w fun s5 => ldS ((⟨k, 0, none⟩ : Addr).add 5) w fun s6 => ldS ((⟨k, 0, none⟩ : Addr).add 6) w fun s7 => K n1 n2 n3 n4 s5 s6 s7 :=
  ldI_b (o := 0) h rfl (ldI_b h rfl (ldI_b h rfl (ldI_b h rfl (ldS_b h rfl (ldS_b h rfl (ldS_b h rfl hK))))))
theorem wf64 {n : Int} (h : (Lit.int .i64 n).wf = true) : Vm.I64 n := by
  simp [Lit.wf, IntKind.min, IntKind.max, IntKind.signed, IntKind.bits] at h
  constructor <;> omega
theorem rep_b64 {a b c d : Int} {s sa sr : Slc} {mc : Mo insG} {ma : Mo intsG} {mr : Mo celG} {w : World} (k4 : Gt.Rep reachBytes w insG [.slice s.a s.l s.c] mc) (k5 : Gt.Rep reachBytes w intsG [.slice sa.a sa.l sa.c] ma) (k6 : Gt.Rep reachBytes w celG [.slice sr.a sr.l sr.c] mr) : B64 (callE a b c d mc ma mr) := by
  refine ⟨fun v hv => ?_, fun x hx => ?_, fun x hx => ((rep_code k4).2.1 x hx).2⟩
  · obtain ⟨i, hi⟩ := List.getElem?_of_mem hv
    obtain ⟨s', he, h1, h2, h3, h4, h5⟩ := k5
    obtain ⟨ad, es, g1, g2, g3, g4⟩ := h5 i v hi
    exact wf64 g4.2
  · obtain ⟨i, hi⟩ := List.getElem?_of_mem hx
    obtain ⟨u, hm⟩ := celL_at hi
    obtain ⟨s', he, h1, h2, h3, h4, h5⟩ := k6
    obtain ⟨ad, es, g1, g2, g3, g4⟩ := h5 i (x.1, x.2, u) hm
    obtain ⟨c1, c2, rfl, rfl, c3, c4, rfl, ⟨rfl, q2⟩, rfl⟩ := g4
    exact wf64 q2
set_option maxRecDepth 20000 in
set_option maxHeartbeats 4000000 in
theorem steps_core {EE : Nat → En} {ss sas srs : Nat → Slc} {q : Slc} {A : List Int} {w : World} (hG : ∀ j, j < 2 → Gv w (EE j) (ss j) (sas j) (srs j)) (hB : ∀ j, j < 2 → B64 (EE j)) (hA : Rd w q (Is .i64 A)) (lA : A.length ≤ 9000000000000000000) :
    c_preludelaw05_VmSteps (EE 0).a (EE 0).b (EE 0).c (EE 0).d (ss 0) (sas 0) (srs 0) (EE 1).a (EE 1).b (EE 1).c (EE 1).d (ss 1) (sas 1) (srs 1) q w fun r w' => r = true ∧ Chg Nil w w' := by
  refine sim_preludelaw05_VmSteps ?_
  unfold sh_preludelaw05_VmSteps
  refine newB fun k1 v1 hc1 hb1 hk1 hs1 => newB fun k3 v2 hc2 hb3 hk3 hs2 => ?_
  refine ld7 (hb1.ch0 hc2) (ld7 hb3 ?_)
  refine newB fun k9 v3 hc3 hb9 hk9 hs3 => ?_
  refine st14 hb9 fun v4 c34 j14 z34 => ?_
  replace j14 : Blk v4 k9 (c14 EE ss sas srs) _ := j14
  have c04 : Ch [] w v4 := ((hc1.tr hc2).tr hc3).trN c34 (by omega)
  refine newB fun k5 v5 hc5 hb5 hk5 hs5 => newB fun k7 v6 hc6 hb7 hk7 hs6 => ?_
  have hb5 := hb5.ch0 hc6
  have j9 := (j14.ch0 hc5).ch0 hc6
  have c06 := (c04.tr hc5).tr hc6
  have z06 : w.heap.size + 5 = v6.heap.size := by omega
  clear hb1 hb3 j14 hb9
  have fin : ∀ {u u' : World}, Ch [] w u → Chg (fun k => v6.heap.size ≤ k) u u' → Ch [] w u' := fun hu hc => Chg.step (show Chg Nil w _ from hu) hc fun i hi h => by omega
  refine loopP_inv (fun st w' => ∃ i : Nat, st.1 = (i : Int) ∧ i ≤ 2 ∧ Ch [] w w' ∧ Blk w' k9 (c14 EE ss sas srs) _ ∧ ∃ P R S, Al w.heap.size v6.heap.size k5 k7 _ _ w' P R S ∧ ∀ j, i ≤ j → P j = none ∧ R j = none ∧ ∀ k, ¬ S j k) (fun st _ => 2 - st.1.toNat)
    ⟨0, rfl, by omega, c06, j9, fun _ => none, fun _ => none, fun _ _ => False, ⟨hb5, hb7, fun _ => .inl ⟨rfl, rfl⟩, fun _ _ h => h.elim, fun _ _ _ _ h => h.elim, by omega, by omega, by omega, Nat.le_refl _⟩, fun _ _ => ⟨rfl, rfl, fun _ h => h⟩⟩ ?_
  rintro ⟨i0, u⟩ x1 next ⟨i, rfl, hi, hcx, hb9, P, R, S, hAl, hnone⟩ hnext
  dsimp only
  have nz := hAl.nz
  refine iteB_dec (fun h => ?_) fun h => ?_
  · have hi2 : i < 2 := by omega
    obtain ⟨e0, e1, e2, e3, e4, e5, e6⟩ := c14_at (EE := EE) (ss := ss) (sas := sas) (srs := srs) hi2
    have ld : ∀ {x : World} {K : Int → Int → Int → Int → Slc → Slc → Slc → Prop}, Ch [] x1 x → K (EE i).a (EE i).b (EE i).c (EE i).d (ss i) (sas i) (srs i) → arrP 2 (i : Int) (ldI .i64 ((⟨k9, 0, none⟩ : Addr).add (Int.toNat (i : Int) * 7)) x fun n43 => ldI .i64 (((⟨k9, 0, none⟩ : Addr).add (Int.toNat (i : Int) * 7)).add 1) x fun n44 => ldI .i64 (((⟨k9, 0, none⟩ : Addr).add (Int.toNat (i : Int) * 7)).add 2) x fun n45 => ldI .i64 (((⟨k9, 0, none⟩ : Addr).add (Int.toNat (i : Int) * 7)).add 3) x fun n46 => ldS (((⟨k9, 0, none⟩ : Addr).add (Int.toNat (i : Int) * 7)).add 4) x fun s47 => ldS (((⟨k9, 0, none⟩ : Addr).add (Int.toNat (i : Int) * 7)).add 5) x fun s48 => ldS (((⟨k9, 0, none⟩ : Addr).add (Int.toNat (i : Int) * 7)).add 6) x fun s49 => K n43 n44 n45 n46 s47 s48 s49) := fun hx hK => by
      have hb := hb9.ch0 hx
      rw [Int.toNat_natCast]
      simp only [Deep.add_add]
      exact ⟨by omega, by omega, ldI_b hb e0 (ldI_b hb e1 (ldI_b hb e2 (ldI_b hb e3 (ldS_b hb e4 (ldS_b hb e5 (ldS_b hb e6 hK))))))⟩
    have ld' : ∀ {x : World} {K : Int → Int → Int → Int → Slc → Slc → Slc → Prop}, Ch [] x1 x → K (EE i).a (EE i).b (EE i).c (EE i).d (ss i) (sas i) (srs i) → arrP 2 (i : Int) (ldI .i64 ((⟨k9, 0, none⟩ : Addr).add (Int.toNat (i : Int) * 7)) x fun n43 => ldI .i64 (((⟨k9, 0, none⟩ : Addr).add (Int.toNat (i : Int) * 7)).add 1) x fun n44 => ldI .i64 (((⟨k9, 0, none⟩ : Addr).add (Int.toNat (i : Int) * 7)).add 2) x fun n45 => ldI .i64 (((⟨k9, 0, none⟩ : Addr).add (Int.toNat (i : Int) * 7)).add 3) x fun n46 => ldS (((⟨k9, 0, none⟩ : Addr).add (Int.toNat (i : Int) * 7)).add 4) x fun s47 => arrP 2 (i : Int) (ldS (((⟨k9, 0, none⟩ : Addr).add (Int.toNat (i : Int) * 7)).add 5) x fun s48 => arrP 2 (i : Int) (ldS (((⟨k9, 0, none⟩ : Addr).add (Int.toNat (i : Int) * 7)).add 6) x fun s49 => K n43 n44 n45 n46 s47 s48 s49))) := fun hx hK => by
      have hb := hb9.ch0 hx
      rw [Int.toNat_natCast]
      simp only [Deep.add_add]
      exact ⟨by omega, by omega, ldI_b hb e0 (ldI_b hb e1 (ldI_b hb e2 (ldI_b hb e3 (ldS_b hb e4 ⟨by omega, by omega, ldS_b hb e5 ⟨by omega, by omega, ldS_b hb e6 hK⟩⟩))))⟩
    refine ld (Ch.refl _ _) ?_
    have hG0 := hG i hi2
    have hGx := hG0.ch0 hcx
    have hBi := hB i hi2
    generalize EE i = E at *
    generalize ss i = s at *
    generalize sas i = sa at *
    generalize srs i = sr at *
    refine given_ok hGx fun t ta tR x2 hn hc2 h3 => ?_
    have tl1 := hn.oc.lt
    have tl2 := hn.oa.lt
    have tl3 := hn.oR.lt
    refine newB fun k8 x3 hc3 hb8 hk8 hs3 => ?_
    refine stB (o := 0) hb8 (by simp) fun y1 d1 j1 z1 => stB j1 (by simp) fun y2 d2 j2 z2 => stB j2 (by simp) fun y3 d3 j3 z3 => stB j3 (by simp) fun y4 d4 j4 z4 => stB j4 (by simp) fun y5 d5 j5 z5 => stB j5 (by simp) fun y6 d6 j6 z6 => stB j6 (by simp) fun x4 d7 j7 z7 => ?_
    replace j7 : Blk x4 k8 #[.int .i64 E.a, .int .i64 E.b, .int .i64 E.c, .int .i64 E.d, .slice t.a t.l t.c, .slice ta.a ta.l ta.c, .slice tR.a tR.l tR.c] _ := j7
    have c24 : Ch [] x2 x4 := hc3.trN ((((((d1.tr d2).tr d3).tr d4).tr d5).tr d6).tr d7) (by omega)
    clear j1 j2 j3 j4 j5 j6 d1 d2 d3 d4 d5 d6 d7 z1 z2 z3 z4 z5 z6 z7 hb8
    have c14' := hc2.tr c24
    refine ld7 j7 ?_
    refine vnew_ok ((hn.ch0 c24).gv hGx) fun p x5 hc5 hp => ?_
    have dd : Ch [] x5 x5.drew := Ch.drew _
    have c15 := (c14'.tr hc5).tr dd
    have c05 := hcx.tr c15
    have zw := c05.size
    refine ld' c15 ?_
    refine vrnew_ok (N0 := w.heap.size) (hG0.ch0 c05) zw (fun w' hc => hG0.ch0 (Chg.step (show Chg Nil w _ from c05) hc fun i hi h => absurd hi (by omega))) fun r x6 hc6 hr => ?_
    have z45 := hc5.size
    have zdd : x5.drew.heap.size = x5.heap.size := rfl
    have z56 := hc6.size
    have z24 := c24.size
    have z12 := hc2.size
    have htw : (p = none ∧ r = none) ∨ Tw w.heap.size (fun k => x4.heap.size ≤ k ∧ k < x6.heap.size) x6 p r := by
      rcases hp with ⟨p0, hne⟩ | ⟨hS, kp, p0, hM⟩
      · rcases hr with ⟨r0, _⟩ | ⟨hS, _⟩
        · exact .inl ⟨p0, r0⟩
        · exact absurd (newE_s hS) hne
      · rcases hr with ⟨_, hne⟩ | ⟨_, kr, r0, hR⟩
        · exact absurd (newE_s hS) hne
        · refine .inr ⟨kp, kr, E, mc0 E, p0, r0, hS, hBi, Iv.init hS, init64 E, by omega, fun k hk => by omega, _, _, hM.cut.ch0 (dd.tr hc6), hR.cut, fun k hk => ⟨⟨hk.1, by have := hk.2; omega⟩, fun hk2 => ?_⟩, fun k hk => ⟨?_, hk.2⟩⟩
          · have h1 := hk.2
            have h2 : x5.drew.heap.size ≤ k := hk2.1
            omega
          · have h2 : x5.drew.heap.size ≤ k := hk.1
            omega
    refine iteB_neg (by simp) ?_
    refine iteB_neg (by
      rcases htw with ⟨rfl, rfl⟩ | ⟨b, c, _, _, rfl, rfl, _⟩
      · rfl
      · rfl) ?_
    have d6 : Ch [] x6 x6.drew := Ch.drew _
    have c46 := ((hc5.tr dd).tr hc6).tr d6
    refine ld7 (j7.ch0 c46) (ld (c14'.tr c46) ?_)
    refine kept_ok ((hn.ch0 c24).ch0 c46) (hGx.ch0 (c14'.tr c46)) fun x7 hc7 => iteB_neg rfl ?_
    have c47 := c46.tr hc7
    refine ld7 (j7.ch0 c47) ?_
    have b16 := hG0.b16
    have b8 := hG0.b8
    have br := hG0.br
    have ba := hG0.ba
    have big := hG0.big
    have c17 := c14'.tr c47
    have c27 := c24.tr c47
    refine spoil_ok (hn.ch0 c27) h3 (by rw [hn.lc]; exact big) (by rw [hn.la]; exact ba) (by rw [hn.lr]; omega) fun x8 hc8 => ?_
    have z17 := c17.size
    have z67 := (d6.tr hc7).size
    have z78 := hc8.size
    have inT : ∀ k, inL [blkOf t, blkOf ta, blkOf tR] k → x1.heap.size ≤ k ∧ k < x2.heap.size := fun k h => by
      rcases h with h | h | h
      · exact ⟨h3.g1 k h.symm, tl1 k h.symm⟩
      · exact ⟨h3.g2 k h.symm, tl2 k h.symm⟩
      · exact ⟨h3.g3 k (Eq.symm (show some k = blkOf tR from h)), tl3 k (Eq.symm (show some k = blkOf tR from h))⟩
    have c18 : Ch [] x1 x8 := Chg.step (show Chg Nil x1 _ from c17) hc8 fun k hk h => by have := (inT k h).1; omega
    have hAl8 := hAl.ch0 c18
    have lo := hAl.lo
    have l5 := hAl.l5
    have l7 := hAl.l7
    have z0x := hcx.size
    have htw8 : (p = none ∧ r = none) ∨ Tw w.heap.size (fun k => x4.heap.size ≤ k ∧ k < x6.heap.size) x8 p r := htw.imp id fun h => (h.ch0 (d6.tr hc7)).chg hc8 (fun k hk => by have := (inT k hk).1; omega) fun k hk h => by have := (inT k h).2; omega
    refine stP2 hAl8.bP hi2 rfl fun x9 hb5' hc9 hs9 => ?_
    refine stP2 (hAl8.bR.ch hc9 (nin1' (by omega))) hi2 rfl fun x10 hb7' hc10 hs10 => ?_
    have ca : Ch [some k5, some k7] x8 x10 := Ch.tr (b := x9) (Ch.mono (M := [some k5, some k7]) hc9 fun k _ h => Or.inl h) (Ch.mono (M := [some k5, some k7]) hc10 fun k _ h => Or.inr h)
    have inA : ∀ k, inL [some k5, some k7] k → k = k5 ∨ k = k7 := fun k h => by
      rcases h with h | h
      · exact .inl (by cases h; rfl)
      · exact .inr (by cases (show some k = some k7 from h); rfl)
    have c0a : Ch [] w x10 := Chg.step (show Chg Nil w _ from hcx.tr c18) ca fun k hk h => by have := inA k h; omega
    have z18 := c18.size
    rw [wrap_i64 (by omega)]
    refine hnext _ _ ⟨i + 1, by simp, by omega, c0a, (hb9.ch0 c18).ch ca (fun h => by have := inA _ h; omega), fun j => if j = i then p else P j, fun j => if j = i then r else R j, fun j => if j = i then (fun k => (p = none → False) ∧ x4.heap.size ≤ k ∧ k < x6.heap.size) else S j,
      ⟨hb5'.ch hc10 (nin1' (by omega)), hb7', fun j => ?_, fun j k hk => ?_, fun j j' k hne hk hk' => ?_, by omega, l5, l7, by omega⟩, fun j hj => ?_⟩ (by simp; omega)
    · by_cases e : j = i
      · rw [if_pos e, if_pos e, if_pos e]
        rcases htw8 with h0 | h0
        · exact .inl h0
        · refine .inr ((h0.chg ca (fun k hk => by have := inA k hk; omega) fun k hk h => by have := inA k h; omega).wide (fun k hk => ⟨fun hp0 => ?_, hk⟩) fun k hk => by have := hk.2; omega)
          obtain ⟨b, c, _, _, e1, _⟩ := h0
          rw [e1] at hp0
          cases hp0
      · rw [if_neg e, if_neg e, if_neg e]
        exact (hAl8.tw j).imp id fun h0 => h0.chg ca (fun k hk => by have := inA k hk; omega) fun k hk h => by have := inA k h; have := lo j k hk; omega
    · by_cases e : j = i
      · rw [if_pos e] at hk
        have := hk.2; omega
      · rw [if_neg e] at hk
        have := lo j k hk; omega
    · by_cases e : j = i
      · rw [if_pos e] at hk
        rw [if_neg (fun e' => hne (by rw [e, e']))] at hk'
        have := hk.2; have := lo j' k hk'; omega
      · rw [if_neg e] at hk
        by_cases e' : j' = i
        · rw [if_pos e'] at hk'
          have := hk'.2; have := lo j k hk; omega
        · rw [if_neg e'] at hk'
          exact hAl.dj j j' k hne hk hk'
    · dsimp only
      rw [if_neg (by omega), if_neg (by omega), if_neg (by omega)]
      exact hnone j (by omega)
  clear hnext hnone hb9 h hi
  refine loopP_inv (fun st w' => ∃ i : Nat, st.1 = (i : Int) ∧ i ≤ A.length ∧ Ch [] w w' ∧ ∃ S, Al w.heap.size v6.heap.size k5 k7 _ _ w' P R S) (fun st _ => A.length - st.1.toNat)
    ⟨0, rfl, Nat.zero_le _, hcx, S, hAl⟩ ?_
  clear hcx hAl
  rintro ⟨i0, u⟩ x2 next ⟨i, rfl, hi, hcx, S, hAl⟩ hnext
  dsimp only
  have lq : q.l = A.length := by have := hA.len; simpa using this
  refine iteB_dec (fun h => ?_) fun h => ?_
  · have hv : A[i]? = some A[i] := List.getElem?_eq_getElem (by omega)
    generalize A[i] = v at hv
    refine (hA.ch0 hcx).get (k := .i64) (ds := A) (v := v) (by omega) (by rw [Int.toNat_natCast]; exact hv) ?_
    refine ⟨by decide, ?_⟩
    have hX : ∃ j : Nat, j < 2 ∧ bAnd .i64 (Int.fdiv v (2 ^ (min (Int.toNat 3) (IntKind.bits .i64)))) 1 = (j : Int) := ⟨(bAnd .i64 (Int.fdiv v (2 ^ (min (Int.toNat 3) (IntKind.bits .i64)))) 1).toNat, by rw [band1]; omega, by rw [band1]; omega⟩
    obtain ⟨j, hj, hXj⟩ := hX
    generalize bAnd .i64 (Int.fdiv v (2 ^ (min (Int.toNat 3) (IntKind.bits .i64)))) 1 = X at hXj ⊢
    have d : Ch [] x2 x2.drew := Ch.drew _
    have hAd := hAl.ch0 d
    rw [wrap_i64 (by omega)]
    refine ldP2 hAd.bR hj hXj ?_
    refine iteB_intro (fun hb => ?_) fun hb => ?_
    · have hne : R j ≠ none := fun e => by rw [e] at hb; cases hb
      refine ldP2 hAd.bP hj hXj (ldP2 hAd.bR hj hXj ?_)
      refine (hA.ch0 (hcx.tr d)).get (k := .i64) (ds := A) (v := v) (by omega) (by rw [Int.toNat_natCast]; exact hv) ?_
      refine hAd.ask hne fun x3 S' hAl' hc' => iteB_neg rfl ?_
      exact hnext _ _ ⟨i + 1, by simp, by omega, fin (hcx.tr d) hc', S', hAl'⟩ (by simp; omega)
    · exact hnext _ _ ⟨i + 1, by simp, by omega, hcx.tr d, S, hAd⟩ (by simp; omega)
  clear hnext h hi
  refine loopP_inv (fun st w' => ∃ i : Nat, st.1 = (i : Int) ∧ i ≤ 2 ∧ Ch [] w w' ∧ ∃ S, Al w.heap.size v6.heap.size k5 k7 _ _ w' P R S) (fun st _ => 2 - st.1.toNat)
    ⟨0, rfl, Nat.zero_le _, hcx, S, hAl⟩ ?_
  clear hcx hAl
  rintro ⟨i0, u⟩ x3 next ⟨j, rfl, hj, hcx, S, hAl⟩ hnext
  dsimp only
  refine iteB_dec (fun h => ?_) fun h => ⟨rfl, hcx⟩
  have hj2 : j < 2 := by omega
  rw [wrap_i64 (by omega)]
  refine ldP2 hAl.bR hj2 rfl ?_
  refine iteB_intro (fun hb => ?_) fun hb => ?_
  · exact hnext _ _ ⟨j + 1, by simp, by omega, hcx, S, hAl⟩ (by simp; omega)
  have hne : R j ≠ none := fun e => by rw [e] at hb; cases hb
  refine loopP_inv (fun st w' => ∃ i : Nat, st.1 = (i : Int) ∧ i ≤ 300 ∧ Ch [] w w' ∧ ∃ S, Al w.heap.size v6.heap.size k5 k7 _ _ w' P R S) (fun st _ => 300 - st.1.toNat)
    ⟨0, rfl, Nat.zero_le _, hcx, S, hAl⟩ ?_
  clear hcx hAl
  rintro ⟨i0, u⟩ x4 next4 ⟨i, rfl, hi, hcx, S, hAl⟩ hnext4
  dsimp only
  refine iteB_dec (fun h4 => ?_) fun h4 => ?_
  · have d : Ch [] x4 x4.drew := Ch.drew _
    have hAd := hAl.ch0 d
    refine ldP2 hAd.bP hj2 rfl (ldP2 hAd.bR hj2 rfl ?_)
    refine hAd.ask hne fun x5 S5 hAl5 hc5 => iteB_pos rfl ?_
    refine ldP2 hAl5.bP hj2 rfl (ldP2 hAl5.bR hj2 rfl ?_)
    refine hAl5.ask hne fun x6 S6 hAl6 hc6 => iteB_pos rfl ?_
    refine ldP2 hAl6.bP hj2 rfl (ldP2 hAl6.bR hj2 rfl ?_)
    refine hAl6.ask hne fun x7 S7 hAl7 hc7 => iteB_neg rfl ?_
    rw [wrap_i64 (by omega)]
    exact hnext4 _ _ ⟨i + 1, by simp, by omega, fin (fin (fin (hcx.tr d) hc5) hc6) hc7, S7, hAl7⟩ (by simp; omega)
  clear hnext4 h4 hi
  refine loopP_inv (fun st w' => ∃ i : Nat, st.1 = (i : Int) ∧ i ≤ 6 ∧ Ch [] w w' ∧ ∃ S, Al w.heap.size v6.heap.size k5 k7 _ _ w' P R S) (fun st _ => 6 - st.1.toNat)
    ⟨1, rfl, by omega, hcx, S, hAl⟩ ?_
  clear hcx hAl
  rintro ⟨i0, u⟩ x5 next5 ⟨i, rfl, hi, hcx, S, hAl⟩ hnext5
  dsimp only
  refine iteB_dec (fun h5 => ?_) fun h5 => ?_
  · have d : Ch [] x5 x5.drew := Ch.drew _
    have hAd := hAl.ch0 d
    refine ldP2 hAd.bP hj2 rfl (ldP2 hAd.bR hj2 rfl ?_)
    refine hAd.ask hne fun x6 S6 hAl6 hc6 => iteB_neg rfl ?_
    rw [wrap_i64 (by omega)]
    exact hnext5 _ _ ⟨i + 1, by simp, by omega, fin (hcx.tr d) hc6, S6, hAl6⟩ (by simp; omega)
  · exact hnext _ _ ⟨j + 1, by simp, by omega, hcx, S, hAl⟩ (by simp; omega)
theorem law_VmSteps {a b c d a' b' c' d' : Int} {s sa sr s' sa' sr' q : Slc} {mc mc' : Mo insG} {ma ma' mq : Mo intsG} {mr mr' : Mo celG} {w : World} (w0 : (Lit.int .i64 a).wf = true) (w1 : (Lit.int .i64 b).wf = true) (w2 : (Lit.int .i64 c).wf = true) (w3 : (Lit.int .i64 d).wf = true)
    (k4 : Gt.Rep reachBytes w insG [.slice s.a s.l s.c] mc) (k5 : Gt.Rep reachBytes w intsG [.slice sa.a sa.l sa.c] ma) (k6 : Gt.Rep reachBytes w celG [.slice sr.a sr.l sr.c] mr)
    (w7 : (Lit.int .i64 a').wf = true) (w8 : (Lit.int .i64 b').wf = true) (w9 : (Lit.int .i64 c').wf = true) (w10 : (Lit.int .i64 d').wf = true)
    (k11 : Gt.Rep reachBytes w insG [.slice s'.a s'.l s'.c] mc') (k12 : Gt.Rep reachBytes w intsG [.slice sa'.a sa'.l sa'.c] ma') (k13 : Gt.Rep reachBytes w celG [.slice sr'.a sr'.l sr'.c] mr') (k14 : Gt.Rep reachBytes w intsG [.slice q.a q.l q.c] mq) :
    c_preludelaw05_VmSteps a b c d s sa sr a' b' c' d' s' sa' sr' q w fun r w' => r = true ∧ Chg Nil w w' := by
  obtain ⟨hq, _, hl⟩ := rep_ints k14
  have lq := hq.len
  have cq := hq.cap
  rw [Is_length] at lq
  have hre : reachBytes = 140737488351232 := rfl
  exact steps_core (EE := fun | 0 => callE a b c d mc ma mr | _ + 1 => callE a' b' c' d' mc' ma' mr') (ss := fun | 0 => s | _ + 1 => s') (sas := fun | 0 => sa | _ + 1 => sa') (srs := fun | 0 => sr | _ + 1 => sr') (A := intsOf mq)
    (fun j hj => match j with | 0 => rep_call k4 k5 k6 | 1 => rep_call k11 k12 k13) (fun j hj => match j with | 0 => rep_b64 k4 k5 k6 | 1 => rep_b64 k11 k12 k13) hq (by omega)
end Go.Proofs.Ytlkgnfpjmafdkaa
