/- Rd: what a Reader's calls come to. -/
import Derived.Test.YtlnhecbgjjglfaaDoorWr
set_option linter.unusedVariables false
set_option linter.unusedSimpArgs false
namespace Go.Num
/-- What a Reader answers and where it then stands: value, place, error. -/
def rUpto (bs : List UInt8) (at_ : Nat) (e : Int) (most : Nat) : Nat × Nat × Int :=
  if e ≠ 0 then (0, at_, e) else
    match dnum 0 0 (bs.drop at_) with
    | (n, k, d) => if d ≠ 0 then (0, at_, d) else if n > most then (0, at_, 12) else (n, at_ + k, 0)
def rRaw (bs : List UInt8) (at_ : Nat) (e : Int) (n : Int) : List UInt8 × Nat × Int :=
  if e ≠ 0 then ([], at_, e) else if n < 0 then ([], at_, 11) else if n > ((bs.length - at_ : Nat) : Int) then ([], at_, 10) else ((bs.drop at_).take n.toNat, at_ + n.toNat, 0)
def rBytes (bs : List UInt8) (at_ : Nat) (e : Int) (most : Int) : List UInt8 × Nat × Int :=
  if e ≠ 0 then ([], at_, e) else
    match dnum 0 0 (bs.drop at_) with
    | (n, k, d) => if d ≠ 0 then ([], at_, d) else if most < 0 ∨ (n : Int) > most then ([], at_, 12) else if n > bs.length - (at_ + k) then ([], at_, 10) else ((bs.drop (at_ + k)).take n, at_ + k + n, 0)
theorem rUpto_at {bs : List UInt8} {at_ most : Nat} {e : Int} (h : at_ ≤ bs.length) : (rUpto bs at_ e most).2.1 ≤ bs.length := by
  unfold rUpto
  split
  · exact h
  · rcases hd : dnum 0 0 (bs.drop at_) with ⟨n, k, d⟩
    simp only
    split
    · exact h
    · split
      · exact h
      · have hd0 : d = 0 := by omega
        subst hd0
        have := (dnum_ok hd).2.2.1
        simp at this
        show at_ + k ≤ _
        omega
theorem rRaw_at {bs : List UInt8} {at_ : Nat} {e n : Int} (h : at_ ≤ bs.length) : (rRaw bs at_ e n).2.1 ≤ bs.length := by
  unfold rRaw
  split
  · exact h
  · split
    · exact h
    · split
      · exact h
      · show at_ + n.toNat ≤ _; omega
theorem rBytes_at {bs : List UInt8} {at_ : Nat} {e most : Int} (h : at_ ≤ bs.length) : (rBytes bs at_ e most).2.1 ≤ bs.length := by
  unfold rBytes
  split
  · exact h
  · rcases hd : dnum 0 0 (bs.drop at_) with ⟨n, k, d⟩
    simp only
    split
    · exact h
    · split
      · exact h
      · split
        · exact h
        · have hd0 : d = 0 := by omega
          subst hd0
          have := (dnum_ok hd).2.2.1
          simp at this
          show at_ + k + n ≤ _
          omega
end Go.Num
namespace Go.Proofs.YtlnhecbgjjglfaaDoor
open Go Go.Sh Go.Pl Go.RowKit Go.Num
/-- A Reader of these bytes, at a place, with an error. -/
structure Rr (w : World) (b : Nat) (s : Slc) (bs : List UInt8) (at_ : Nat) (e : Int) : Prop where
  blk : Blk w b #[.slice s.a s.l s.c, .int .i64 (at_ : Int), .int .i64 e] 103
  rd : Rd w s (U8 bs)
  ne : blkOf s ≠ some b
  le : at_ ≤ bs.length
  few : bs.length ≤ 140737488351232
theorem Rr.len {w : World} {b : Nat} {s : Slc} {bs : List UInt8} {at_ : Nat} {e : Int} (h : Rr w b s bs at_ e) : s.l = bs.length := by have := h.rd.len; simpa using this
theorem Rr.chg {S : Nat → Prop} {w w' : World} {b : Nat} {s : Slc} {bs : List UInt8} {at_ : Nat} {e : Int} (h : Rr w b s bs at_ e) (hc : Chg S w w') (hb : ¬ S b) (hs : ∀ k, blkOf s = some k → ¬ S k) : Rr w' b s bs at_ e := ⟨h.blk.chg hc hb, h.rd.chg hc hs, h.ne, h.le, h.few⟩
theorem Rr.nil {w w' : World} {b : Nat} {s : Slc} {bs : List UInt8} {at_ : Nat} {e : Int} (h : Rr w b s bs at_ e) (hc : Chg Nil w w') : Rr w' b s bs at_ e := h.chg hc (fun h => h) fun _ _ h => h
theorem Rr.drew {w : World} {b : Nat} {s : Slc} {bs : List UInt8} {at_ : Nat} {e : Int} (h : Rr w b s bs at_ e) : Rr w.drew b s bs at_ e := h.nil ((Drw.refl w).drew.chg Nil)
theorem Rr.c0 {w : World} {b : Nat} {s : Slc} {bs : List UInt8} {at_ : Nat} {e : Int} (h : Rr w b s bs at_ e) : w.cell? ⟨b, 0, none⟩ = some (.slice s.a s.l s.c) := by rw [h.blk.cell]; rfl
theorem Rr.c1 {w : World} {b : Nat} {s : Slc} {bs : List UInt8} {at_ : Nat} {e : Int} (h : Rr w b s bs at_ e) : w.cell? ((⟨b, 0, none⟩ : Addr).add 1) = some (.int .i64 (at_ : Int)) := by rw [add_mk, h.blk.cell]; rfl
theorem Rr.c2 {w : World} {b : Nat} {s : Slc} {bs : List UInt8} {at_ : Nat} {e : Int} (h : Rr w b s bs at_ e) : w.cell? ((⟨b, 0, none⟩ : Addr).add 2) = some (.int .i64 e) := by rw [add_mk, h.blk.cell]; rfl
abbrev Of (b : Nat) : Nat → Prop := fun k => k = b
theorem Rr.set1 {w : World} {b : Nat} {s : Slc} {bs : List UInt8} {at_ at2 : Nat} {e : Int} {v : Int} {K : World → Prop} (h : Rr w b s bs at_ e) (hv : v = (at2 : Int)) (h2 : at2 ≤ bs.length) (hK : ∀ w', Rr w' b s bs at2 e → Chg (Of b) w w' → K w') : stP ((⟨b, 0, none⟩ : Addr).add 1) (.int .i64 v) w K := by
  subst hv
  rw [add_mk]
  refine stP_intro h.blk (by simp) fun w' hc hb _ => hK w' ⟨by simpa using hb, h.rd.chg hc fun k hk he => h.ne (by subst he; exact hk), h.ne, h2, h.few⟩ hc
theorem Rr.set2 {w : World} {b : Nat} {s : Slc} {bs : List UInt8} {at_ : Nat} {e e2 : Int} {K : World → Prop} (h : Rr w b s bs at_ e) (hK : ∀ w', Rr w' b s bs at_ e2 → Chg (Of b) w w' → K w') : stP ((⟨b, 0, none⟩ : Addr).add 2) (.int .i64 e2) w K := by
  rw [add_mk]
  refine stP_intro h.blk (by simp) fun w' hc hb _ => hK w' ⟨by simpa using hb, h.rd.chg hc fun k hk he => h.ne (by subst he; exact hk), h.ne, h.le, h.few⟩ hc
theorem chgO (b : Nat) {w w1 w2 : World} (h : Chg (Of b) w w1) (k : Chg (Of b) w1 w2) : Chg (Of b) w w2 := h.step k fun _ _ h => h
theorem chgN (b : Nat) {w w1 w2 : World} (h : Chg (Of b) w w1) (k : Chg Nil w1 w2) : Chg (Of b) w w2 := h.step k fun _ _ h => h.elim
theorem drewO (b : Nat) (w : World) : Chg (Of b) w w.drew := (Drw.refl w).drew.chg _
theorem read_ok {w : World} {x : Slc} {bs : List UInt8} {K : Option Addr → World → Prop} (hx : Rd w x (U8 bs)) (hl : bs.length ≤ 140737488351232)
    (hK : ∀ b s w', Rr w' b s bs 0 0 → Chg Nil w w' → w.heap.size ≤ b → NewS w.heap.size s → (∀ k, blkOf s = some k → k < w'.heap.size) → K (some ⟨b, 0, none⟩) w') : c_codec_Read x w K := by
  refine sim_codec_Read ?_
  unfold sh_codec_Read
  refine clone_ok hx hl fun s1 w1 ho1 hc1 hn1 hl1 hnil _ _ => ?_
  refine newP_intro fun w2 hc2 hb2 hs2 => ?_
  have hlt := ho1.lt
  exact hK w1.heap.size s1 w2 ⟨hb2, ho1.rd.chg hc2 fun _ _ h => h, fun he => by have := hlt _ he; omega, Nat.zero_le _, hl⟩ (hc1.step hc2 fun _ _ h => h) hc1.size hn1 fun k hk => by have := hlt k hk; omega
theorem bAnd_127 (c : UInt8) : bAnd .u8 (c.toNat : Int) 127 = ((c.toNat % 128 : Nat) : Int) := by
  have h : ∀ m : Fin 256, bAnd .u8 (m.val : Int) 127 = ((m.val % 128 : Nat) : Int) := by decide +kernel
  exact h ⟨c.toNat, c.toNat_lt⟩
theorem or_step {n i : Nat} (c : UInt8) (hn : n < 2 ^ (7 * i)) (hi : i ≤ 9) (h9 : i = 9 → c.toNat ≤ 1) :
    bOr .u64 (n : Int) (IntKind.u64.wrap ((IntKind.u64.wrap (bAnd .u8 (c.toNat : Int) 127)) * 2 ^ (min (Int.toNat (IntKind.i64.wrap (7 * (i : Int)))) (IntKind.bits .u64)))) = ((n + c.toNat % 128 * 2 ^ (7 * i) : Nat) : Int) ∧ n + c.toNat % 128 * 2 ^ (7 * i) < 18446744073709551616 := by
  have hp9 : 2 ^ (7 * i) ≤ 2 ^ 63 := Nat.pow_le_pow_right (by omega) (by omega)
  have hmul : c.toNat % 128 * 2 ^ (7 * i) ≤ 9223372036854775808 := by
    rcases Nat.lt_or_ge i 9 with h | h
    · have h1 : 2 ^ (7 * i) ≤ 2 ^ 56 := Nat.pow_le_pow_right (by omega) (by omega)
      have := Nat.mul_le_mul (show c.toNat % 128 ≤ 127 by omega) h1
      omega
    · have : i = 9 := by omega
      subst this
      have := h9 rfl
      have := Nat.mul_le_mul (show c.toNat % 128 ≤ 1 by omega) hp9
      omega
  have e1 : min (Int.toNat (IntKind.i64.wrap (7 * (i : Int)))) (IntKind.bits .u64) = 7 * i := by
    rw [wrap_i64 (by omega)]; simp only [IntKind.bits]; omega
  rw [e1, bAnd_127, wrap_u64 (x := ((c.toNat % 128 : Nat) : Int)) (by omega)]
  have e2 : (((c.toNat % 128 : Nat) : Int) * 2 ^ (7 * i)) = ((c.toNat % 128 * 2 ^ (7 * i) : Nat) : Int) := by simp
  rw [e2, wrap_u64 (by omega), bOr_u64 (by omega) (by omega)]
  have e3 : n ||| c.toNat % 128 * 2 ^ (7 * i) = n + c.toNat % 128 * 2 ^ (7 * i) := by
    rw [Nat.or_comm, ← Nat.shiftLeft_eq, ← Nat.shiftLeft_add_eq_or_of_lt hn, Nat.add_comm]
  rw [e3]
  exact ⟨rfl, by omega⟩
set_option maxRecDepth 20000 in
theorem ruint_ok {w : World} {b : Nat} {s : Slc} {bs : List UInt8} {at_ : Nat} {e : Int} {K : Int → Int → Int → World → Prop} (h : Rr w b s bs at_ e)
    (hK : ∀ n k d, dnum 0 0 (bs.drop at_) = (n, k, d) → K (n : Int) ((at_ + k : Nat) : Int) d w) : c_codec_Reader_uint (some ⟨b, 0, none⟩) (at_ : Int) w K := by
  refine sim_codec_Reader_uint ?_
  unfold sh_codec_Reader_uint
  have hle := h.le
  have hfew := h.few
  have hlen := h.len
  refine loopP_inv (fun st w1 => w1 = w ∧ ∃ n i : Nat, st.1 = (n : Int) ∧ st.2.1 = (i : Int) ∧ i ≤ 9 ∧ at_ + i ≤ bs.length ∧ n < 2 ^ (7 * i) ∧ dnum i n (bs.drop (at_ + i)) = dnum 0 0 (bs.drop at_)) (fun st _ => 10 - st.2.1.toNat)
    ⟨rfl, 0, 0, rfl, rfl, by omega, by omega, by simp, by simp⟩ ?_
  rintro ⟨n0, i0, u⟩ w1 next ⟨rfl, n, i, rfl, rfl, hi, hai, hn, hdec⟩ hnext
  simp only
  have eai : IntKind.i64.wrap ((at_ : Int) + (i : Int)) = ((at_ + i : Nat) : Int) := by rw [wrap_i64 (by omega)]; omega
  rw [nnP_some]
  refine ldS_of h.c0 ?_
  simp only [eai]
  refine iteB_intro (fun hs => ?_) (fun hs => ?_)
  · have hge : bs.length ≤ at_ + i := by simp [hlen] at hs; omega
    rw [List.drop_eq_nil_of_le hge] at hdec
    have := hK 0 0 10 (by rw [← hdec]; rfl)
    simpa using this
  · have hlt : at_ + i < bs.length := by simp [hlen] at hs; omega
    rw [nnP_some]
    refine ldS_of h.c0 ?_
    refine h.rd.idx (by omega) (by simp; omega) fun ad had => ?_
    rw [Int.toNat_natCast, U8_at bs hlt] at had
    refine ldI_of had ?_
    generalize hc : bs[at_ + i] = c at *
    rw [List.drop_eq_getElem_cons hlt, hc] at hdec
    have form : ((i = 9 ∧ c.toNat > 1) ∨ (i > 0 ∧ c.toNat = 0)) → K 0 (at_ : Int) 11 w1 := fun hbad => by
      have := hK 0 0 11 (by rw [← hdec]; unfold dnum; rw [if_pos hbad])
      simpa using this
    have leaf : ¬ ((i = 9 ∧ c.toNat > 1) ∨ (i > 0 ∧ c.toNat = 0)) →
        shP (IntKind.i64.wrap (7 * (i : Int))) (iteB (decide ((c.toNat : Int) < 128))
          (K (bOr .u64 (n : Int) (IntKind.u64.wrap ((IntKind.u64.wrap (bAnd .u8 (c.toNat : Int) 127)) * 2 ^ (min (Int.toNat (IntKind.i64.wrap (7 * (i : Int)))) (IntKind.bits .u64))))) (IntKind.i64.wrap (((at_ + i : Nat) : Int) + 1)) 0 w1)
          (next ((bOr .u64 (n : Int) (IntKind.u64.wrap ((IntKind.u64.wrap (bAnd .u8 (c.toNat : Int) 127)) * 2 ^ (min (Int.toNat (IntKind.i64.wrap (7 * (i : Int)))) (IntKind.bits .u64))))), (IntKind.i64.wrap ((i : Int) + 1)), ()) w1)) := fun hok => by
      have h9 : i = 9 → c.toNat ≤ 1 := fun h9 => by
        rcases Nat.lt_or_ge 1 c.toNat with h1 | h1
        · exact absurd (.inl ⟨h9, h1⟩) hok
        · exact h1
      have hstep := or_step c hn hi h9
      rw [hstep.1]
      refine ⟨by rw [wrap_i64 (by omega)]; omega, ?_⟩
      refine iteB_intro (fun h128 => ?_) (fun h128 => ?_)
      · have hlow : c.toNat < 128 := by simp at h128; omega
        have := hK (n + c.toNat % 128 * 2 ^ (7 * i)) (i + 1) 0 (by rw [← hdec]; unfold dnum; rw [if_neg hok, if_pos hlow])
        rw [wrap_i64 (by omega)]
        rwa [show ((at_ + (i + 1) : Nat) : Int) = ((at_ + i : Nat) : Int) + 1 by omega] at this
      · have hhigh : ¬ c.toNat < 128 := by simp at h128; omega
        have hi8 : i < 9 := by
          rcases Nat.lt_or_ge i 9 with h1 | h1
          · exact h1
          · have := h9 (by omega); omega
        rw [wrap_i64 (x := (i : Int) + 1) (by omega)]
        refine hnext _ _ ⟨rfl, _, i + 1, rfl, by simp, by omega, by omega, ?_, ?_⟩ (by simp; omega)
        · have hp : 2 ^ (7 * (i + 1)) = 128 * 2 ^ (7 * i) := by rw [show 7 * (i + 1) = 7 + 7 * i by omega, Nat.pow_add]
          have h1 : c.toNat % 128 * 2 ^ (7 * i) ≤ 127 * 2 ^ (7 * i) := Nat.mul_le_mul_right _ (by omega)
          omega
        · rw [← hdec]
          conv => rhs; unfold dnum
          rw [if_neg hok, if_neg hhigh]
          rfl
    refine iteB_intro (fun h9 => ?_) (fun h9 => ?_)
    · have e9 : i = 9 := by simp at h9; omega
      refine iteB_intro (fun h1 => form (.inl ⟨e9, by simp at h1; omega⟩)) (fun h1 => ?_)
      have hc1 : ¬ c.toNat > 1 := by simp at h1; omega
      refine iteB_intro (fun h2 => ?_) (fun h2 => ?_)
      · refine iteB_intro (fun h3 => form (.inr ⟨by omega, by simp at h3; omega⟩)) (fun h3 => leaf ?_)
        simp at h3
        omega
      · simp at h2; omega
    · have e9 : i ≠ 9 := by simp at h9; omega
      refine iteB_intro (fun h2 => ?_) (fun h2 => ?_)
      · refine iteB_intro (fun h3 => form (.inr ⟨by simp at h2; omega, by simp at h3; omega⟩)) (fun h3 => leaf ?_)
        simp at h3
        omega
      · exact leaf (by simp at h2; omega)
theorem rupto_ok {w : World} {b : Nat} {s : Slc} {bs : List UInt8} {at_ most : Nat} {e : Int} {K : Int → World → Prop} (h : Rr w b s bs at_ e)
    (hK : ∀ w', Rr w' b s bs (rUpto bs at_ e most).2.1 (rUpto bs at_ e most).2.2 → Chg (Of b) w w' → K ((rUpto bs at_ e most).1 : Int) w') : c_codec_Reader_Upto (some ⟨b, 0, none⟩) (most : Int) w K := by
  refine sim_codec_Reader_Upto ?_
  unfold sh_codec_Reader_Upto
  rw [nnP_some]
  refine ldI_of h.c2 ?_
  refine iteB_intro (fun he => ?_) (fun he => ?_)
  · have hne : e ≠ 0 := by simpa using he
    unfold rUpto at hK
    rw [if_pos hne] at hK
    exact hK w h (Chg.refl _ _)
  have h0 : e = 0 := by simpa using he
  subst h0
  rw [nnP_some]
  refine ldI_of h.c1 ?_
  refine ruint_ok h fun n k d hd => ?_
  unfold rUpto at hK
  rw [if_neg (by simp), hd] at hK
  simp only at hK
  rcases dnum_err _ _ _ _ _ _ hd with hd0 | ⟨hn0, hk0, hdd⟩
  · subst hd0
    rw [if_neg (by simp)] at hK
    have hok := dnum_ok hd
    have hk : at_ + k ≤ bs.length := by have := hok.2.2.1; simp at this; have := h.le; omega
    refine iteB_pos (by simp) ?_
    refine iteB_intro (fun hm => ?_) (fun hm => ?_)
    · have hgt : n > most := by simp at hm; omega
      rw [if_pos hgt] at hK
      refine iteB_pos (by simp) ?_
      rw [nnP_some]
      exact h.set2 fun w' hw hc => hK w' hw hc
    · have hle : ¬ n > most := by simp at hm; omega
      rw [if_neg hle] at hK
      refine iteB_neg (by simp) ?_
      rw [nnP_some]
      exact h.set1 rfl hk fun w' hw hc => hK w' hw hc
  · have hne : d ≠ 0 := by omega
    rw [if_pos hne] at hK
    refine iteB_neg (by simpa using hne) ?_
    refine iteB_pos (by simpa using hne) ?_
    rw [nnP_some]
    exact h.set2 fun w' hw hc => hK w' hw hc
theorem ruintN_ok {w : World} {b : Nat} {s : Slc} {bs : List UInt8} {at_ : Nat} {e : Int} {K : Int → World → Prop} (h : Rr w b s bs at_ e)
    (hK : ∀ w', Rr w' b s bs (rUpto bs at_ e 18446744073709551615).2.1 (rUpto bs at_ e 18446744073709551615).2.2 → Chg (Of b) w w' → K ((rUpto bs at_ e 18446744073709551615).1 : Int) w') : c_codec_Reader_Uint (some ⟨b, 0, none⟩) w K := by
  refine sim_codec_Reader_Uint ?_
  unfold sh_codec_Reader_Uint
  exact rupto_ok (most := 18446744073709551615) h hK
theorem unz_bits {u : Nat} (h : u < 18446744073709551616) : bXor .i64 (IntKind.i64.wrap (Int.fdiv (u : Int) (2 ^ (min (Int.toNat 1) (IntKind.bits .u64))))) (IntKind.i64.wrap (0 - (IntKind.i64.wrap (bAnd .u64 (u : Int) 1)))) = unz u := by
  have e1 : min (Int.toNat 1) (IntKind.bits .u64) = 1 := rfl
  have hand : bAnd .u64 (u : Int) 1 = ((u % 2 : Nat) : Int) := by
    show IntKind.u64.wrap (((BitVec.ofInt 64 (u : Int) &&& BitVec.ofInt 64 1).toNat : Nat) : Int) = _
    have h3 : BitVec.ofInt 64 (u : Int) = BitVec.ofNat 64 u := by rw [BitVec.ofInt_natCast]
    rw [h3, show BitVec.ofInt 64 1 = 1#64 from rfl, BitVec.toNat_and, BitVec.toNat_ofNat, Nat.mod_eq_of_lt (by omega), show (1#64).toNat = 1 from rfl, Nat.and_one_is_mod, wrap_u64 (by omega)]
  rw [e1, fdiv_pow, hand, Nat.pow_one, wrap_i64 (x := ((u / 2 : Nat) : Int)) (by omega), wrap_i64 (x := ((u % 2 : Nat) : Int)) (by omega), wrap_i64 (by omega)]
  have h3 : BitVec.ofInt 64 ((u / 2 : Nat) : Int) = BitVec.ofNat 64 (u / 2) := by rw [BitVec.ofInt_natCast]
  unfold unz
  show IntKind.i64.wrap (((BitVec.ofInt 64 ((u / 2 : Nat) : Int) ^^^ BitVec.ofInt 64 (0 - ((u % 2 : Nat) : Int))).toNat : Nat) : Int) = _
  rcases Nat.mod_two_eq_zero_or_one u with h0 | h1
  · rw [h3, h0, if_pos rfl, show BitVec.ofInt 64 (0 - ((0 : Nat) : Int)) = 0#64 from rfl, BitVec.xor_zero, BitVec.toNat_ofNat, Nat.mod_eq_of_lt (by omega), wrap_i64 (by omega)]
  · rw [h3, h1, if_neg (by omega), show BitVec.ofInt 64 (0 - ((1 : Nat) : Int)) = BitVec.allOnes 64 from by decide, BitVec.xor_allOnes, BitVec.toNat_not, BitVec.toNat_ofNat, Nat.mod_eq_of_lt (by omega)]
    have : ((2 ^ 64 - 1 - u / 2 : Nat) : Int) = 18446744073709551615 - ((u / 2 : Nat) : Int) := by omega
    rw [this]
    simp [IntKind.wrap, IntKind.signed, IntKind.bits]
    omega
theorem rUpto_lt {bs : List UInt8} {at_ most : Nat} {e : Int} : (rUpto bs at_ e most).1 < 18446744073709551616 := by
  unfold rUpto
  split
  · simp
  · rcases hd : dnum 0 0 (bs.drop at_) with ⟨n, k, d⟩
    simp only
    split
    · simp
    · split
      · simp
      · have hd0 : d = 0 := by omega
        subst hd0
        exact (dnum_ok hd).2.2.2
theorem rint_ok {w : World} {b : Nat} {s : Slc} {bs : List UInt8} {at_ : Nat} {e : Int} {K : Int → World → Prop} (h : Rr w b s bs at_ e)
    (hK : ∀ w', Rr w' b s bs (rUpto bs at_ e 18446744073709551615).2.1 (rUpto bs at_ e 18446744073709551615).2.2 → Chg (Of b) w w' → K (unz (rUpto bs at_ e 18446744073709551615).1) w') : c_codec_Reader_Int (some ⟨b, 0, none⟩) w K := by
  refine sim_codec_Reader_Int ?_
  unfold sh_codec_Reader_Int
  refine ruintN_ok h fun w' hw hc => ⟨by omega, ?_⟩
  rw [unz_bits rUpto_lt]
  exact hK w' hw hc
theorem rraw_ok {w : World} {b : Nat} {s : Slc} {bs : List UInt8} {at_ : Nat} {e n : Int} {K : Slc → World → Prop} (h : Rr w b s bs at_ e) (hn : n ≤ 9223372036854775807)
    (hK : ∀ l w', Rr w' b s bs (rRaw bs at_ e n).2.1 (rRaw bs at_ e n).2.2 → Own w' 5 1 l (U8 (rRaw bs at_ e n).1) → Chg (Of b) w w' → NewS w.heap.size l → l.l = (rRaw bs at_ e n).1.length → (l.a = none → l.l = 0) → K l w') : c_codec_Reader_Raw (some ⟨b, 0, none⟩) n w K := by
  refine sim_codec_Reader_Raw ?_
  unfold sh_codec_Reader_Raw
  have hle := h.le
  have hfew := h.few
  have hlen := h.len
  unfold rRaw at hK
  rw [nnP_some]
  refine ldI_of h.c2 ?_
  refine iteB_intro (fun he => ?_) (fun he => ?_)
  · have hne : e ≠ 0 := by simpa using he
    rw [if_pos hne] at hK
    exact hK _ w h (Own.nil _ _ _) (Chg.refl _ _) (fun b h => by cases h) rfl fun _ => rfl
  have h0 : e = 0 := by simpa using he
  subst h0
  rw [if_neg (by simp)] at hK
  refine iteB_intro (fun hneg => ?_) (fun hneg => ?_)
  · have hn0 : n < 0 := by simpa using hneg
    rw [if_pos hn0] at hK
    rw [nnP_some]
    exact h.set2 fun w' hw hc => hK _ w' hw (Own.nil _ _ _) hc (fun b h => by cases h) rfl fun _ => rfl
  have hn0 : ¬ n < 0 := by simpa using hneg
  rw [if_neg hn0] at hK
  rw [nnP_some]
  refine ldS_of h.drew.c0 ?_
  rw [nnP_some]
  refine ldI_of h.drew.c1 ?_
  have esub : IntKind.i64.wrap ((s.l : Int) - (at_ : Int)) = ((bs.length - at_ : Nat) : Int) := by rw [wrap_i64 (by omega)]; omega
  rw [esub]
  refine iteB_intro (fun hbig => ?_) (fun hbig => ?_)
  · have hb : n > ((bs.length - at_ : Nat) : Int) := by simpa using hbig
    rw [if_pos hb] at hK
    rw [nnP_some]
    exact h.drew.set2 fun w' hw hc => hK _ w' hw (Own.nil _ _ _) (chgO b (drewO b w) hc) (fun b h => by cases h) rfl fun _ => rfl
  have hb : ¬ n > ((bs.length - at_ : Nat) : Int) := by simpa using hbig
  rw [if_neg hb] at hK
  obtain ⟨m, rfl⟩ : ∃ m : Nat, n = (m : Int) := ⟨n.toNat, by omega⟩
  rw [Int.toNat_natCast] at hK
  rw [nnP_some]
  refine ldI_of h.drew.c1 ?_
  rw [nnP_some]
  refine h.drew.set1 (at2 := at_ + m) (by rw [wrap_i64 (by omega)]; omega) (by omega) fun w1 hw1 hc1 => ?_
  rw [nnP_some]
  refine ldS_of hw1.drew.c0 ?_
  rw [nnP_some]
  refine ldI_of hw1.drew.c1 ?_
  rw [nnP_some]
  refine ldI_of hw1.drew.c1 ?_
  have ewr : IntKind.i64.wrap (((at_ + m : Nat) : Int) - (m : Int)) = ((at_ : Nat) : Int) := by rw [wrap_i64 (by omega)]; omega
  rw [ewr]
  refine hw1.drew.rd.sl (l := at_) (u := at_ + m) rfl rfl (by omega) (by simp; omega) fun p hp _ => ?_
  rw [U8_part, show at_ + m - at_ = m by omega] at hp
  rw [show at_ + m - at_ = m by omega]
  refine clone_ok (bs := (bs.drop at_).take m) hp (by simp; omega) fun l w2 ho2 hc2 hn2 hl2 hnil2 _ _ => ?_
  have hc : Chg (Of b) w w2 := chgN b (chgO b (chgO b (drewO b w) hc1) (drewO b w1)) hc2
  exact hK l w2 (hw1.drew.nil hc2) ho2 hc (fun k hk => by have := hn2 k hk; have := (chgO b (chgO b (drewO b w) hc1) (drewO b w1)).size; omega) hl2 hnil2
def rEnd (bs : List UInt8) (at_ : Nat) (e : Int) : Int := if e = 0 then (if at_ < bs.length then 11 else 0) else e
theorem rat_ok {w : World} {b : Nat} {s : Slc} {bs : List UInt8} {at_ : Nat} {e : Int} {K : Int → World → Prop} (h : Rr w b s bs at_ e) (hK : K (at_ : Int) w) : c_codec_Reader_At (some ⟨b, 0, none⟩) w K := by
  refine sim_codec_Reader_At ?_
  unfold sh_codec_Reader_At
  rw [nnP_some]
  exact ldI_of h.c1 hK
theorem rleft_ok {w : World} {b : Nat} {s : Slc} {bs : List UInt8} {at_ : Nat} {e : Int} {K : Int → World → Prop} (h : Rr w b s bs at_ e) (hK : ∀ w', Drw w w' → K ((bs.length - at_ : Nat) : Int) w') : c_codec_Reader_Left (some ⟨b, 0, none⟩) w K := by
  refine sim_codec_Reader_Left ?_
  unfold sh_codec_Reader_Left
  have hlen := h.len
  have hle := h.le
  have hfew := h.few
  rw [nnP_some]
  refine ldS_of h.drew.c0 ?_
  rw [nnP_some]
  refine ldI_of h.drew.c1 ?_
  rw [wrap_i64 (by omega)]
  have := hK _ (Drw.refl w).drew
  rwa [show ((bs.length - at_ : Nat) : Int) = (s.l : Int) - (at_ : Int) by omega] at this
theorem rerr_ok {w : World} {b : Nat} {s : Slc} {bs : List UInt8} {at_ : Nat} {e : Int} {K : Int → World → Prop} (h : Rr w b s bs at_ e) (hK : K e w) : c_codec_Reader_Err (some ⟨b, 0, none⟩) w K := by
  refine sim_codec_Reader_Err ?_
  unfold sh_codec_Reader_Err
  rw [nnP_some]
  exact ldI_of h.c2 hK
end Go.Proofs.YtlnhecbgjjglfaaDoor
