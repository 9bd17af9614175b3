/- VrS: the document's machine: simple, other, Step. -/
import Derived.Test.YtlkgnfpjmafdkaaVrT
import Derived.Test.YtlkgnfpjmafdkaaRefE
set_option linter.unusedVariables false
set_option linter.unusedSimpArgs false
namespace Go.Vm
open Go Go.Lang
def setPc (p : Nat) (r : Mc × Int) : Mc × Int := ({ r.1 with pc := p }, r.2)
theorem pite2 {α β : Type} {f : α → β} {c : Prop} [Decidable c] {a b : β} {a' b' : α} (h1 : c → a = f a') (h2 : ¬ c → b = f b') : (if c then a else b) = f (if c then a' else b') := by
  by_cases h : c
  · rw [if_pos h, if_pos h]; exact h1 h
  · rw [if_neg h, if_neg h]; exact h2 h
theorem putAt_pc {m : Mc} {p : Nat} {i : Int} {v : Int × Int} : putAt { m with pc := p } i v = setPc p (putAt m i v) := by
  unfold putAt
  exact pite2 (fun _ => rfl) fun _ => rfl
theorem ex_pc {E : En} {m : Mc} {x : Ins} {p : Nat} : ex E { m with pc := p } x = setPc p (ex E m x) := by
  unfold ex
  refine pite2 (fun _ => rfl) fun _ => ?_
  refine pite2 (fun _ => rfl) fun _ => ?_
  refine pite2 (fun _ => rfl) fun _ => ?_
  refine pite2 (fun _ => rfl) fun _ => ?_
  refine pite2 (fun _ => rfl) fun _ => ?_
  refine pite2 (fun _ => rfl) fun _ => ?_
  refine pite2 (fun _ => rfl) fun _ => ?_
  refine pite2 (fun _ => rfl) fun _ => ?_
  refine pite2 (fun _ => pite2 (fun _ => rfl) fun _ => rfl) fun _ => ?_
  refine pite2 (fun _ => rfl) fun _ => ?_
  refine pite2 (fun _ => rfl) fun _ => ?_
  refine pite2 (fun _ => putAt_pc (m := { m with st := m.st.tail })) fun _ => ?_
  refine pite2 (fun _ => putAt_pc) fun _ => ?_
  refine pite2 (fun _ => putAt_pc (m := { m with st := m.st.tail.tail })) fun _ => ?_
  refine pite2 (fun _ => pite2 (fun _ => rfl) fun _ => rfl) fun _ => ?_
  rfl
def isSmp (op : Int) : Prop := (1 ≤ op ∧ op ≤ 8) ∨ op = 20 ∨ op = 21
end Go.Vm
namespace Go.Proofs.Ytlkgnfpjmafdkaa
open Go Go.Sh Go.Pl Go.RowKit Go.Lang Go.Vm Go.Names
variable {N0 : Nat}
set_option maxHeartbeats 2000000 in
set_option maxRecDepth 4000 in
theorem simple_ok {w : World} {b : Nat} {E : En} {m : Mc} {q : Sl} {O : Nat → Nat} {op A : Int} {i : Nat} {K : Bool → World → Prop} (h : RmX N0 w b E m q O) (g0 : 0 ≤ op) (g1 : op < 37) (n0 : op ≠ 0) (hp : (mv op).1 ≤ (m.st.length : Int)) (hl : m.st.length ≤ 32)
    (hA : insE E.a E.b E.c E.d E.is.length (op, A) i = 0) (hla : (E.args.length : Int) = E.a) (hlr : (E.rs.length : Int) = E.b) (hll : (m.lo.length : Int) = E.d)
    (h1 : isSmp op → ∀ q' O' w', RmX N0 w' b E (ex E m (op, A)).1 q' O' → Sp O w O' w' → K true w')
    (h30 : op = 30 → ∀ w', RmX N0 w' b E { m with pc := A.toNat } q O → Sp O w O w' → K true w')
    (h31 : op = 31 → ∀ q' O' w', RmX N0 w' b E { m with st := m.st.tail, pc := if m.st.headD 0 = 0 then A.toNat else m.pc } q' O' → Sp O w O' w' → K true w')
    (hn : ¬ isSmp op → op ≠ 30 → op ≠ 31 → K false w) : c_preluderef05_Machine_simple (some ⟨b, 0, none⟩) (spell op) A w K := by
  refine sim_preluderef05_Machine_simple ?_
  unfold sh_preluderef05_Machine_simple
  simp only [nnP_some]
  rw [sE1 g0 g1, sE2 g0 g1, sE3 g0 g1, sE4 g0 g1, sE5 g0 g1, sE6 g0 g1, sE7 g0 g1, sE8 g0 g1, sE20 g0 g1, sE21 g0 g1, sE30 g0 g1, sE31 g0 g1]
  refine iteB_eq (fun e => ?_) (fun n1 => ?_)
  · subst e
    replace h1 := h1 (by unfold isSmp; omega)
    refine lay_ok h (by omega) fun s' O2 w2 h2 p2 => h1 { q with ss := s' } O2 w2 ?_ p2
    simpa [ex] using h2
  refine iteB_eq (fun e => ?_) (fun n2 => ?_)
  · subst e
    replace h1 := h1 (by unfold isSmp; omega)
    obtain ⟨v, r, hs⟩ := top1 (m := m) (by simp [mv] at hp; omega)
    refine take_ok h hs (by rw [hs] at hl; simp at hl; omega) fun s' O2 w2 h2 p2 => h1 { q with ss := s' } O2 w2 ?_ p2
    simpa [ex, hs] using h2
  refine iteB_eq (fun e => ?_) (fun n3 => ?_)
  · subst e
    replace h1 := h1 (by unfold isSmp; omega)
    obtain ⟨v, r, hs⟩ := top1 (m := m) (by simp [mv] at hp; omega)
    have hrl : r.length ≤ 32 := by rw [hs] at hl; simp at hl; omega
    refine take_ok h hs (by omega) fun s' O2 w2 h2 p2 => ?_
    refine lay_ok h2 (by show r.length ≤ _; omega) fun s3 O3 w3 h3 p3 => ?_
    refine lay_ok h3 (by show r.length + 1 ≤ _; omega) fun s4 O4 w4 h4 p4 => h1 { q with ss := s4 } O4 w4 ?_ (p2.tr (p3.tr p4))
    simpa [ex, hs] using h4
  refine iteB_eq (fun e => ?_) (fun n4 => ?_)
  · subst e
    replace h1 := h1 (by unfold isSmp; omega)
    have hAr : 0 ≤ A ∧ A < E.d := by
      simp only [insE, argE, mostA] at hA
      simp at hA
      omega
    refine ldS_b (s := q.sl) h.blk rfl ?_
    refine h.lo.rd.get hAr.1 (isAt (by omega)) ?_
    refine lay_ok h (by omega) fun s' O2 w2 h2 p2 => h1 { q with ss := s' } O2 w2 ?_ p2
    simpa [ex] using h2
  refine iteB_eq (fun e => ?_) (fun n5 => ?_)
  · subst e
    replace h1 := h1 (by unfold isSmp; omega)
    obtain ⟨v, r, hs⟩ := top1 (m := m) (by simp [mv] at hp; omega)
    have hAr : 0 ≤ A ∧ A < E.d := by
      simp only [insE, argE, mostA] at hA
      simp at hA
      omega
    refine take_ok h hs (by rw [hs] at hl; simp at hl; omega) fun s' O2 w2 h2 p2 => ?_
    refine ldS_b (s := q.sl) h2.blk rfl ?_
    have hll' : q.sl.l = m.lo.length := by have := h.lo.rd.len; simpa using this
    refine Own.st1' (x := A.toNat) h2.lo (show A.toNat < q.sl.l by omega) (by omega) fun w3 ho3 hc3 hz3 => ?_
    have e3 : (Is .i64 m.lo).set A.toNat (.int .i64 v) = Is .i64 (m.lo.set A.toNat v) := by simp [Is]
    have ho3 : Own w3 2 1 q.sl (Is .i64 (m.lo.set A.toNat v)) := by rw [← e3]; exact ho3
    obtain ⟨h3, p3⟩ := h2.loa (lo' := m.lo.set A.toNat v) ho3 hc3
    refine h1 { q with ss := s' } O2 w3 ?_ (p2.tr p3)
    simpa [ex, hs] using h3
  refine iteB_eq (fun e => ?_) (fun n6 => ?_)
  · subst e
    replace h1 := h1 (by unfold isSmp; omega)
    have hAr : 0 ≤ A ∧ A < E.a := by
      simp only [insE, argE, mostA] at hA
      simp at hA
      omega
    refine ldS_b (s := q.sa) h.blk rfl ?_
    have hAi : (Is .i64 E.args)[A.toNat]? = some (.int .i64 (E.args[A.toNat]?.getD 0)) := by
      have := isAt (xs := E.args) (i := A) (by omega)
      unfold Is
      rw [List.getElem?_map, this]; rfl
    obtain ⟨ad, ha, c1⟩ := h.ar.now.at_ _ _ hAi
    have hl6 := h.ar.now.len
    rw [Is_length] at hl6
    refine ⟨hAr.1, by omega, ad, ha, ?_⟩
    rw [Nat.mul_one]
    refine ldI_of c1 ?_
    refine lay_ok h (by omega) fun s' O2 w2 h2 p2 => h1 { q with ss := s' } O2 w2 ?_ p2
    simpa [ex] using h2
  refine iteB_eq (fun e => ?_) (fun n7 => ?_)
  · subst e
    replace h1 := h1 (by unfold isSmp; omega)
    have hAr : 0 ≤ A ∧ A < E.b := by
      simp only [insE, argE, mostA] at hA
      simp at hA
      omega
    refine value_ok h hAr.1 (by omega) fun w1 hc1 => ?_
    refine lay_ok (h.ch0 hc1) (by omega) fun s' O2 w2 h2 p2 => h1 { q with ss := s' } O2 w2 ?_ (Sp.af hc1 p2)
    simpa [ex] using h2
  refine iteB_eq (fun e => ?_) (fun n8 => ?_)
  · subst e
    replace h1 := h1 (by unfold isSmp; omega)
    have hAr : 0 ≤ A ∧ A < E.b := by
      simp only [insE, argE, mostA] at hA
      simp at hA
      omega
    refine ldS_b (s := q.sr) h.blk rfl ?_
    have hc : E.rs[A.toNat]? = some E.rs[A.toNat] := List.getElem?_eq_getElem (by omega)
    refine RdQ.cel' h.re.now hAr.1 hc fun ad c1 c2 => ldB_of c1 (rtruth_ok ?_)
    refine lay_ok h (by omega) fun s' O2 w2 h2 p2 => h1 { q with ss := s' } O2 w2 ?_ p2
    simpa [ex, hc] using h2
  refine iteB_eq (fun e => ?_) (fun n20 => ?_)
  · subst e
    replace h1 := h1 (by unfold isSmp; omega)
    obtain ⟨v, r, hs⟩ := top1 (m := m) (by simp [mv] at hp; omega)
    have hrl : r.length ≤ 32 := by rw [hs] at hl; simp at hl; omega
    refine take_ok h hs (by omega) fun s' O2 w2 h2 p2 => ?_
    refine lay_ok h2 (by show r.length ≤ _; omega) fun s3 O3 w3 h3 p3 => h1 { q with ss := s3 } O3 w3 ?_ (p2.tr p3)
    simpa [ex, hs, Vm.wr] using h3
  refine iteB_eq (fun e => ?_) (fun n21 => ?_)
  · subst e
    replace h1 := h1 (by unfold isSmp; omega)
    obtain ⟨v, r, hs⟩ := top1 (m := m) (by simp [mv] at hp; omega)
    have hrl : r.length ≤ 32 := by rw [hs] at hl; simp at hl; omega
    refine take_ok h hs (by omega) fun s' O2 w2 h2 p2 => rtruth_ok ?_
    refine lay_ok h2 (by show r.length ≤ _; omega) fun s3 O3 w3 h3 p3 => h1 { q with ss := s3 } O3 w3 ?_ (p2.tr p3)
    simpa [ex, hs] using h3
  have hns : ¬ isSmp op := by unfold isSmp; omega
  have jmp : op = 30 ∨ op = 31 → (i : Int) < A := fun ho => by
    have hA' := hA
    simp only [insE, argE] at hA'
    rw [if_neg (by omega), if_neg (by omega), if_pos ho] at hA'
    split at hA'
    · cases hA'
    · omega
  refine iteB_eq (fun e => ?_) (fun n30 => ?_)
  · have := jmp (.inl e)
    rw [show A = ((A.toNat : Nat) : Int) by omega]
    refine RmX.put (m' := { m with pc := A.toNat }) h (by decide) rfl rfl rfl rfl rfl fun w2 h2 p2 => h30 e w2 h2 p2
  refine iteB_eq (fun e => ?_) (fun n31 => ?_)
  · have := jmp (.inr e)
    replace h31 := h31 e
    obtain ⟨v, r, hs⟩ := top1 (m := m) (by rw [e] at hp; simp [mv] at hp; omega)
    rw [hs] at h31
    refine take_ok h hs (by rw [hs] at hl; simp at hl; omega) fun s' O2 w2 h2 p2 => ?_
    refine iteB_eq (fun e0 => ?_) fun e0 => ?_
    · rw [show A = ((A.toNat : Nat) : Int) by omega]
      refine RmX.put (m' := { m with st := r, pc := A.toNat }) h2 (by decide) rfl rfl rfl rfl rfl fun w3 h3 p3 => h31 { q with ss := s' } O2 w3 ?_ (p2.tr p3)
      simpa [e0] using h3
    · refine h31 { q with ss := s' } O2 w2 ?_ p2
      simpa [e0] using h2
  exact hn hns n30 n31
set_option maxHeartbeats 2000000 in
set_option maxRecDepth 4000 in
theorem other_ok {w : World} {b : Nat} {E : En} {m : Mc} {q : Sl} {O : Nat → Nat} {op A : Int} {K : Int → Int → World → Prop} (h : RmX N0 w b E m q O) (g0 : 0 ≤ op) (g1 : op < 37) (n0 : op ≠ 0) (hns : ¬ isSmp op) (n30 : op ≠ 30) (n31 : op ≠ 31) (hp : (mv op).1 ≤ (m.st.length : Int)) (hl : m.st.length ≤ 32) (hol : m.out.length ≤ 16) (h64 : M64 m)
    (h36 : op = 36 → ∀ q' O' w', RmX N0 w' b E { m with st := m.st.tail } q' O' → Sp O w O' w' → K 200 (m.st.headD 0) w')
    (hK : op ≠ 36 → ∀ m' r q' O' w', RmX N0 w' b E m' q' O' → Sp O w O' w' → Res E m (op, A) m' r → K r 0 w') : c_preluderef05_Machine_other (some ⟨b, 0, none⟩) (spell op) A w K := by
  refine sim_preluderef05_Machine_other ?_
  unfold sh_preluderef05_Machine_other
  simp only [nnP_some]
  rw [sE9 g0 g1, sE32 g0 g1, sE33 g0 g1, sE34 g0 g1, sE35 g0 g1, sE36 g0 g1]
  refine iteB_eq (fun e => ?_) (fun n9 => ?_)
  · subst e
    replace hK := hK (by decide)
    obtain ⟨v, r, hs⟩ := top1 (m := m) (by simp [mv] at hp; omega)
    have hrl : r.length ≤ 32 := by rw [hs] at hl; simp at hl; omega
    have lR : q.sr.l = E.rs.length := by have := h.re.now.len; rw [flatR_length] at this; omega
    refine take_ok h hs (by omega) fun s' O2 w2 h2 p2 => ?_
    have bad : (v < 0 ∨ v ≥ (E.rs.length : Int)) → K 203 0 w2 := fun hb => hK _ 203 _ O2 w2 h2 p2 ⟨by unfold ex; simp [hs, hb], rfl, rfl, rfl, fun h => by cases h⟩
    refine iteB_dec (fun hv => bad (.inl hv)) fun hv => ?_
    refine ldS_b (s := q.sr) h2.blk rfl ?_
    refine iteB_dec (fun hv2 => bad (.inr (by omega))) fun hv2 => ?_
    refine value_ok h2 (by omega) (by omega) fun w3 hc3 => ?_
    refine lay_ok (h2.ch0 hc3) (by show r.length ≤ _; omega) fun s4 O4 w4 h4 p4 => ?_
    refine hK _ 0 _ O4 w4 h4 (p2.tr (Sp.af hc3 p4)) (Res.of (by unfold ex; simp [hs]; omega) rfl rfl rfl)
  refine iteB_eq (fun e => ?_) (fun n32 => ?_)
  · subst e
    replace hK := hK (by decide)
    obtain ⟨v, r, hs⟩ := top1 (m := m) (by simp [mv] at hp; omega)
    refine take_ok h hs (by rw [hs] at hl; simp at hl; omega) fun s' O2 w2 h2 p2 => ?_
    refine rput_ok (p := (1, v)) h2 fun w3 h3 p3 => ?_
    exact hK _ _ _ O2 w3 h3 (p2.tr p3) (Res.put (by unfold ex; simp [hs]) rfl rfl rfl)
  refine iteB_eq (fun e => ?_) (fun n33 => ?_)
  · subst e
    replace hK := hK (by decide)
    refine rput_ok (p := (2, 0)) h fun w3 h3 p3 => ?_
    exact hK _ _ _ O w3 h3 p3 (Res.put (by unfold ex; simp) rfl rfl rfl)
  refine iteB_eq (fun e => ?_) (fun n34 => ?_)
  · subst e
    replace hK := hK (by decide)
    obtain ⟨y, x, r, hs⟩ := top2 (m := m) (by simp [mv] at hp; omega)
    refine take_ok h hs (by rw [hs] at hl; simp at hl ⊢; omega) fun s' O2 w2 h2 p2 => ?_
    refine take_ok h2 rfl (by rw [hs] at hl; simp at hl; omega) fun s'' O3 w3 h3 p3 => ?_
    refine rput_ok (p := (1, y)) h3 fun w4 h4 p4 => ?_
    exact hK _ _ _ O3 w4 h4 (p2.tr (p3.tr p4)) (Res.put (by unfold ex; simp [hs]) rfl rfl rfl)
  refine iteB_eq (fun e => ?_) (fun n35 => ?_)
  · subst e
    replace hK := hK (by decide)
    obtain ⟨v, r, hs⟩ := top1 (m := m) (by simp [mv] at hp; omega)
    have hlo : q.so.l = m.out.length := by have := h.ou.rd.len; simpa using this
    refine take_ok h hs (by rw [hs] at hl; simp at hl; omega) fun s' O2 w2 h2 p2 => ?_
    refine ldS_b (s := q.so) h2.blk rfl ?_
    refine iteB_eq (fun h16 => ?_) fun h16 => ?_
    · refine hK _ 204 _ O2 w2 h2 p2 ⟨by unfold ex; simp [show 16 ≤ m.out.length by omega], rfl, rfl, rfl, fun h => by cases h⟩
    have hlo2 : ({ q with ss := s' } : Sl).so.l = m.out.length := hlo
    refine ldS_b (s := q.so) h2.blk rfl ?_
    refine apB TI6 (cells := #[.int .i64 v]) rfl (by simp; rfl) h2.ou (by omega) (by omega) fun s'' w4 ho4 hl4 hg4 => ?_
    refine RmX.ouk (out' := m.out ++ [v]) ⟨h2, hg4.chg, h2.oo, hg4.blk⟩ (by
      have e : Is .i64 (m.out ++ [v]) = Is .i64 m.out ++ [.int .i64 v] := by simp [Is]
      rw [e]; exact ho4) fun O5 w5 h5 p5 => ?_
    exact hK _ 0 _ O5 w5 h5 (p2.tr p5) (Res.of (by unfold ex; simp [hs]; omega) rfl rfl rfl)
  refine iteB_eq (fun e => ?_) (fun n36 => ?_)
  · replace h36 := h36 e
    obtain ⟨v, r, hs⟩ := top1 (m := m) (by rw [e] at hp; simp [mv] at hp; omega)
    rw [hs] at h36
    exact take_ok h hs (by rw [hs] at hl; simp at hl; omega) fun s' O2 w2 h2 p2 => h36 _ O2 w2 h2 p2
  replace hK := hK n36
  have e1 : op ≠ 1 ∧ op ≠ 2 ∧ op ≠ 3 ∧ op ≠ 4 ∧ op ≠ 5 ∧ op ≠ 6 ∧ op ≠ 7 ∧ op ≠ 8 ∧ op ≠ 20 ∧ op ≠ 21 := by unfold isSmp at hns; omega
  obtain ⟨n1, n2, n3, n4, n5, n6, n7, n8, n20, n21⟩ := e1
  have hm2 : mv op = (2, 1) := mv2 g0 g1 n0 n1 n2 n3 n4 n5 n6 n7 n8 n9 n20 n21 n30 n31 n32 n33 n34 n35 n36
  obtain ⟨y, x, r, hs⟩ := top2 (m := m) (by rw [hm2] at hp; exact hp)
  have hrl : r.length ≤ 32 := by rw [hs] at hl; simp at hl; omega
  have hx64 : I64 x := h64.st x (by rw [hs]; simp)
  have hy64 : I64 y := h64.st y (by rw [hs]; simp)
  obtain ⟨o, rfl⟩ : ∃ o : Nat, op = (o : Int) := ⟨op.toNat, by omega⟩
  have h2o : isTwo o := by unfold isTwo; omega
  refine take_ok h hs (by simp; omega) fun s' O2 w2 h2 p2 => ?_
  refine take_ok h2 rfl (by omega) fun s'' O3 w3 h3 p3 => ?_
  refine rtwo_ok h2o hx64 hy64 ?_
  refine lay_ok h3 (by show r.length ≤ _; omega) fun s4 O4 w4 h4 p4 => ?_
  have hex : ex E m ((o : Int), A) = ({ m with st := (two o x y).1 :: r }, (two o x y).2) := by
    unfold ex
    simp only [if_neg n1, if_neg n2, if_neg n3, if_neg n4, if_neg n5, if_neg n6, if_neg n7, if_neg n8, if_neg n9, if_neg n20, if_neg n21, if_neg n32, if_neg n33, if_neg n34, if_neg n35]
    rw [hs]; rfl
  exact hK _ _ _ O4 w4 h4 (p2.tr (p3.tr p4)) (Res.of hex rfl rfl rfl)
/-- The step's end: is the place behind the code? -/
theorem rend_ok {w : World} {b : Nat} {E : En} {m : Mc} {q : Sl} {O : Nat → Nat} {K : World → Prop} (h : RmX N0 w b E m q O) (hK : ∀ w', RmX N0 w' b E { m with dn := m.pc == E.is.length } q O → Sp O w O w' → K w') :
    ldI .i64 ((⟨b, 0, none⟩ : Addr).add 11) w.drew fun n36 => ldS ((⟨b, 0, none⟩ : Addr).add 4) w.drew fun s38 => stP ((⟨b, 0, none⟩ : Addr).add 13) (.bool (n36 == (s38.l : Int))) w.drew fun w40 => K w40 := by
  have d1 : Ch [] w w.drew := Ch.drew _
  have hd := h.ch0 d1
  refine ldI_b (n := (m.pc : Int)) hd.blk rfl (ldS_b (s := q.sc) hd.blk rfl ?_)
  have hl : q.sc.l = E.is.length := h.co.now.len
  have e : ((m.pc : Int) == (q.sc.l : Int)) = (m.pc == E.is.length) := by rw [hl, Bool.eq_iff_iff]; simp; omega
  rw [e]
  exact RmX.put (m' := { m with dn := m.pc == E.is.length }) hd (by decide) rfl rfl rfl rfl rfl fun w2 h2 p2 => hK w2 h2 (Sp.af d1 p2)
set_option maxHeartbeats 2000000 in
set_option maxRecDepth 8000 in
theorem rstep_ok {w : World} {b : Nat} {E : En} {m : Mc} {q : Sl} {O : Nat → Nat} {K : Bool → World → Prop} (h : RmX N0 w b E m q O) (hS : Sound E) (hI : Iv E m) (h64 : M64 m)
    (hK : (m.dn = true → K false w) ∧ (m.dn = false → ∀ q' O' w', RmX N0 w' b E (Vm.step E m) q' O' → Sp O w O' w' → K true w')) : c_preluderef05_Machine_Step (some ⟨b, 0, none⟩) w K := by
  refine sim_preluderef05_Machine_Step ?_
  unfold sh_preluderef05_Machine_Step
  simp only [nnP_some]
  refine ldB_b (s := m.dn) h.blk rfl ?_
  refine iteB_intro (fun hd => hK.1 hd) (fun hd => ?_)
  replace hK := hK.2 hd
  obtain ⟨x, hx, h0, h37, hins, hp, h32, hw⟩ := hI.at hS hd
  obtain ⟨hlt, _, _, _, hn⟩ := hI.more hd
  have hr := hS.rng
  rw [step_at hx] at hK
  have d1 : Ch [] w w.drew := Ch.drew _
  have s0 := Sp.rel (O := O) (w := w) 0
  have z0 : ∀ k, w.heap.size ≤ k → relab O w.heap.size 0 k = 0 := fun k hk => relab_ge hk
  have hh := h.r0
  generalize relab O w.heap.size 0 = O0 at *
  have hk0 := hh
  replace hh := hh.ch0 d1
  replace s0 := s0.tr (Sp.c0 d1)
  refine ldS_b (s := q.sc) hh.blk rfl (ldI_b (n := (m.pc : Int)) hh.blk rfl ?_)
  have hxx : x = E.is[m.pc] := by rw [List.getElem?_eq_getElem hlt] at hx; cases hx; rfl
  refine hh.co.now.idx (i := m.pc) rfl hlt fun ad c1 c2 => ?_
  rw [← hxx] at c1 c2
  refine ldI_of c1 (ldI_of c2 ?_)
  refine newB fun k1 w1 hc1 hb1 hk1 hs1 => ?_
  have hh1 := hh.ch0 hc1
  have z1 : O0 k1 = 0 := z0 k1 (by have := d1.size; omega)
  replace s0 := s0.tr (Sp.c0 hc1)
  refine ⟨⟨cell_chg hc1 c1 fun h => h, cell_chg hc1 c2 fun h => h, trivial⟩, by rw [add_mk, Nat.zero_add, hh1.blk.cell]; rfl, by rw [add_mk, Nat.zero_add, hh1.blk.cell]; rfl, ?_⟩
  refine stB (o := 0) hb1 (by simp) fun w2 hc2 hb2 hs2 => stB hb2 (by simp) fun w3 hc3 hb3 hs3 => ?_
  have hc13 : Ch [] w w3 := (d1.tr hc1).trN (hc2.tr hc3) (by have := d1.size; omega)
  have hh3 := hk0.ch0 hc13
  replace hb3 : Blk w3 k1 #[.int .i64 x.1, .int .i64 x.2] _ := hb3
  have sp3 : Sp O w O0 w3 := ⟨s0.1, Chg.mono hc13 fun _ _ h => h.elim⟩
  clear hb2 hb1 hh hh1 s0
  refine ldI_b (n := (m.n : Int)) hh3.blk rfl ?_
  rw [wrap_i64 (by omega), show ((m.n : Int) + 1) = ((m.n + 1 : Nat) : Int) by omega]
  refine RmX.put (m' := tick m) hh3 (by decide) rfl rfl rfl rfl rfl fun w4 h4 p4 => ?_
  obtain ⟨hb4, z4⟩ := p4.tmp hb3 z1
  replace p4 := sp3.tr p4
  refine ldI_b (o := 0) hb4 rfl ?_
  refine refSpell_ok fun w5 (hc5 : Ch [] w4 w5) => ?_
  have h5 := h4.ch0 hc5
  have hb5 := hb4.ch0 hc5
  have p5 := p4.tr (Sp.c0 hc5)
  rw [sE0 h0 h37]
  unfold act at hK
  refine iteB_eq (fun e => ?_) (fun n0 => ?_)
  · rw [if_pos e] at hK
    refine RmX.put (m' := { tick m with dn := true }) h5 (by decide) rfl rfl rfl rfl rfl fun w6 h6 p6 => ?_
    exact hK q O0 w6 h6 (p5.tr p6)
  rw [if_neg n0] at hK
  refine ldI_b (n := (m.pc : Int)) h5.blk rfl ?_
  have hwr : IntKind.i64.wrap ((m.pc : Int) + 1) = ((m.pc + 1 : Nat) : Int) := by rw [wrap_i64 (by omega)]; omega
  rw [hwr]
  refine RmX.put (m' := { tick m with pc := m.pc + 1 }) h5 (by decide) rfl rfl rfl rfl rfl fun w6 h6 p6 => ?_
  obtain ⟨hb6, z6⟩ := p6.tmp hb5 (by rw [← z4])
  replace p6 := p5.tr p6
  have lst : m.st.length ≤ 32 := hI.st
  have epc : ex E { tick m with pc := m.pc + 1 } (x.1, x.2) = setPc (m.pc + 1) (ex E (tick m) x) := ex_pc
  refine ldI_b hb6 rfl ?_
  refine simple_ok (i := m.pc) h6 h0 h37 n0 hp lst hins hS.args hS.reads hI.lo (fun hs q' O' w7 h7 p7 => iteB_neg rfl ?_) (fun e w7 h7 p7 => iteB_neg rfl ?_) (fun e q' O' w7 h7 p7 => iteB_neg rfl ?_) (fun hns n30 n31 => iteB_pos rfl ?_)
  · rw [epc] at h7
    have hz : (ex E (tick m) x).2 = 0 := by
      unfold isSmp at hs
      have hops : x.1 = 1 ∨ x.1 = 2 ∨ x.1 = 3 ∨ x.1 = 4 ∨ x.1 = 5 ∨ x.1 = 6 ∨ x.1 = 7 ∨ x.1 = 8 ∨ x.1 = 20 ∨ x.1 = 21 := by omega
      rcases hops with e | e | e | e | e | e | e | e | e | e <;> (unfold ex; simp [e])
    have e30 : x.1 ≠ 30 ∧ x.1 ≠ 31 ∧ x.1 ≠ 36 := by unfold isSmp at hs; omega
    rw [if_neg e30.1, if_neg e30.2.1, if_neg e30.2.2, if_neg (fun h => h hz)] at hK
    exact rend_ok h7 fun w8 h8 p8 => hK _ _ w8 h8 (p6.tr (p7.tr p8))
  · rw [if_pos e] at hK
    exact rend_ok h7 fun w8 h8 p8 => hK _ _ w8 h8 (p6.tr (p7.tr p8))
  · rw [if_neg (by omega), if_pos e] at hK
    exact rend_ok h7 fun w8 h8 p8 => hK _ _ w8 h8 (p6.tr (p7.tr p8))
  · rw [if_neg n30, if_neg n31] at hK
    refine ldI_b hb6 rfl ?_
    have h64' : M64 { tick m with pc := m.pc + 1 } := ⟨h64.st, h64.lo⟩
    refine other_ok h6 h0 h37 n0 hns n30 n31 hp lst hI.out h64' (fun e q' O' w7 h7 p7 => iteB_pos rfl ?_) (fun n36 m' r q' O' w7 h7 p7 hR => ?_)
    · rw [if_pos e] at hK
      refine fails_ok (p := m.pc) h7 rfl (by omega) hr.2.2.2.1 hr.2.2.1 fun q8 O8 w8 h8 p8 => ?_
      exact hK q8 O8 w8 h8 (p6.tr (p7.tr p8))
    · rw [if_neg n36] at hK
      obtain ⟨e, r1, r2, r3, r4⟩ := hR
      rw [epc] at e r4
      have e : r = (ex E (tick m) x).2 := e
      refine iteB_ne (fun hne => ?_) (fun heq => ?_)
      · rw [if_pos (by rw [← e]; exact hne), ← e] at hK
        refine fails_ok (p := m.pc) h7 r1 (by omega) hr.2.2.2.1 hr.2.2.1 fun q8 O8 w8 h8 p8 => ?_
        have ef : fault E { m' with pc := m.pc } r 0 = fault E (tick m) r 0 := by unfold Vm.fault; simp only [r2]; rfl
        rw [ef] at h8
        exact hK q8 O8 w8 h8 (p6.tr (p7.tr p8))
      · rw [if_neg (by rw [← e]; exact fun h => h heq)] at hK
        rw [r4 heq] at h7
        exact rend_ok h7 fun w8 h8 p8 => hK _ _ w8 h8 (p6.tr (p7.tr p8))
end Go.Proofs.Ytlkgnfpjmafdkaa
