/- Seal: what sealing and unsealing a record come to, in the program and in the document's answer. -/
import Derived.Test.YtmadhcoeiclalaaDoorSum
set_option linter.unusedVariables false
set_option linter.unusedSimpArgs false
namespace Go.Rec
open Go.Crc
/-- Four bytes of a number, the lowest first; and back. -/
def four (n : Nat) : List UInt8 := [UInt8.ofNat n, UInt8.ofNat (n / 256), UInt8.ofNat (n / 65536), UInt8.ofNat (n / 16777216)]
def num4 (bs : List UInt8) : Nat := (bs.getD 0 0).toNat + 256 * (bs.getD 1 0).toNat + 65536 * (bs.getD 2 0).toNat + 16777216 * (bs.getD 3 0).toNat
@[simp] theorem four_length (n : Nat) : (four n).length = 4 := rfl
theorem num4_four (n : Nat) (h : n < 4294967296) (r : List UInt8) : num4 (four n ++ r) = n := by
  simp [num4, four]
  omega
theorem num4_lt (bs : List UInt8) : num4 bs < 4294967296 := by
  unfold num4
  have := (bs.getD 0 0).toNat_lt
  have := (bs.getD 1 0).toNat_lt
  have := (bs.getD 2 0).toNat_lt
  have := (bs.getD 3 0).toNat_lt
  omega
theorem four_inj {m n : Nat} (hm : m < 4294967296) (hn : n < 4294967296) (h : four m = four n) : m = n := by
  have h1 := num4_four m hm []
  rw [h, num4_four n hn []] at h1
  exact h1.symm
theorem four_num4 (bs : List UInt8) (h : bs.length = 4) : four (num4 bs) = bs := by
  match bs, h with
  | [a, b, c, d], _ =>
    have ha := a.toNat_lt
    have hb := b.toNat_lt
    have hc := c.toNat_lt
    have hd := d.toNat_lt
    simp only [four, num4, List.getD_cons_zero, List.getD_cons_succ, List.cons.injEq, and_true]
    refine ⟨?_, ?_, ?_, ?_⟩ <;> apply UInt8.toNat_inj.1 <;> rw [UInt8.toNat_ofNat'] <;> omega
def crcN (bs : List UInt8) : Nat := (crc bs).toNat
theorem crcN_lt (bs : List UInt8) : crcN bs < 4294967296 := (crc bs).isLt
def head (kind : UInt8) (n : Nat) : List UInt8 := kind :: four n
def sealed (kind : UInt8) (load : List UInt8) : List UInt8 := head kind load.length ++ (four (crcN (head kind load.length)) ++ (load ++ four (crcN load)))
/-- A record; nothing where the load is too long. -/
def sealB (kind : UInt8) (load : List UInt8) : List UInt8 := if load.length ≤ 16777216 then sealed kind load else []
theorem sealed_length (kind : UInt8) (load : List UInt8) : (sealed kind load).length = load.length + 13 := by simp [sealed, head]; omega
structure Un where
  kind : UInt8
  load : List UInt8
  next : Int
  err : Int
def bad (e : Int) : Un := ⟨0, [], 0, e⟩
/-- What stands at a place, looked over. -/
def openedAt (c : List UInt8) (at_ : Int) : Un :=
  if c.length < 9 then bad 10 else
  if crcN (c.take 5) ≠ num4 ((c.drop 5).take 4) then bad 13 else
  if num4 ((c.drop 1).take 4) > 16777216 then bad 12 else
  if c.length < 13 + num4 ((c.drop 1).take 4) then bad 10 else
  if crcN ((c.drop 9).take (num4 ((c.drop 1).take 4))) ≠ num4 (c.drop (9 + num4 ((c.drop 1).take 4))) then bad 13 else
  ⟨c.getD 0 0, (c.drop 9).take (num4 ((c.drop 1).take 4)), at_ + num4 ((c.drop 1).take 4) + 13, 0⟩
def opened (bs : List UInt8) (at_ : Int) : Un := if at_ < 0 ∨ (bs.length : Int) < at_ then bad 11 else openedAt (bs.drop at_.toNat) at_
end Go.Rec
namespace Go.Proofs.YtmadhcoeiclalaaDoor
open Go Go.Sh Go.Pl Go.RowKit Go.Crc Go.Rec
theorem wrap_u8_nat (n : Nat) : IntKind.u8.wrap (n : Int) = ((UInt8.ofNat n).toNat : Int) := by
  rw [UInt8.toNat_ofNat']
  simp [IntKind.wrap, IntKind.signed, IntKind.bits]
theorem shr_nat (n k : Nat) (h : k < 32) : Int.fdiv (n : Int) (2 ^ (min (Int.toNat (k : Int)) (IntKind.bits .u32))) = ((n / 2 ^ k : Nat) : Int) := by
  have e : min (Int.toNat (k : Int)) (IntKind.bits .u32) = k := by simp [IntKind.bits]; omega
  rw [e, Int.fdiv_eq_ediv_of_nonneg _ (Int.le_of_lt (Int.pow_pos (by omega)))]
  simp
theorem fourV (n : Nat) : [Value.int .u8 (IntKind.u8.wrap (n : Int)), .int .u8 (IntKind.u8.wrap (Int.fdiv (n : Int) (2 ^ (min (Int.toNat 8) (IntKind.bits .u32))))), .int .u8 (IntKind.u8.wrap (Int.fdiv (n : Int) (2 ^ (min (Int.toNat 16) (IntKind.bits .u32))))), .int .u8 (IntKind.u8.wrap (Int.fdiv (n : Int) (2 ^ (min (Int.toNat 24) (IntKind.bits .u32)))))] = U8 (four n) := by
  have h8 := shr_nat n 8 (by omega)
  have h16 := shr_nat n 16 (by omega)
  have h24 := shr_nat n 24 (by omega)
  simp only [Int.cast_ofNat_Int] at h8 h16 h24
  rw [h8, h16, h24]
  simp only [wrap_u8_nat]
  rfl
theorem four_ok {s : Slc} {bs : List UInt8} {n : Nat} {w : World} {K : Slc → World → Prop} (hs : Own w 5 1 s (U8 bs)) (hl : bs.length ≤ 140737488355000)
    (hK : ∀ s' w', Own w' 5 1 s' (U8 (bs ++ four n)) → s'.l = bs.length + 4 → Gr s w s' w' → K s' w') : c_codec_four s (n : Int) w K := by
  refine sim_codec_four ?_
  unfold sh_codec_four
  refine ⟨by omega, by omega, by omega, newP_intro fun w1 hc1 hb1 hs1 => ?_⟩
  have hr : Rd w1 ⟨some ⟨w.heap.size, 0, none⟩, 4, 4⟩ (U8 (four n)) := by
    have := hb1.rd (o := 0) (l := 4) (c := 4) (by simp) (by omega)
    rw [← fourV]
    simpa using this
  refine apP_rd TU8 (x := ⟨some ⟨w.heap.size, 0, none⟩, 4, 4⟩) (hs.chg hc1 fun _ _ h => h) hr (fun h => by cases h) (U8_one _) (by simp; omega) (by simp; omega) fun s' w' ho hl' hg _ => ?_
  exact hK s' w' (by rw [U8_append]; exact ho) (by simpa using hl') (Gr.after hc1 hg)
theorem refFour_ok {n : Nat} {w : World} {K : Slc → World → Prop}
    (hK : ∀ w', Rd w' ⟨some ⟨w.heap.size, 0, none⟩, 4, 4⟩ (U8 (four n)) → Chg Nil w w' → w'.heap.size = w.heap.size + 1 → K ⟨some ⟨w.heap.size, 0, none⟩, 4, 4⟩ w') : c_preluderef01_four (n : Int) w K := by
  refine sim_preluderef01_four ?_
  unfold sh_preluderef01_four
  refine ⟨by omega, by omega, by omega, newP_intro fun w1 hc1 hb1 hs1 => hK w1 ?_ hc1 hs1⟩
  have := hb1.rd (o := 0) (l := 4) (c := 4) (by simp) (by omega)
  rw [← fourV]
  simpa using this
/-- What four reads of bytes come to. -/
theorem bOr_nat {x y : Nat} (hx : x < 4294967296) (hy : y < 4294967296) : bOr .u32 (x : Int) (y : Int) = ((x ||| y : Nat) : Int) := by
  have h1 : BitVec.ofInt 32 (x : Int) = BitVec.ofNat 32 x := by simp
  have h2 : BitVec.ofInt 32 (y : Int) = BitVec.ofNat 32 y := by simp
  show IntKind.u32.wrap (((BitVec.ofInt 32 (x : Int) ||| BitVec.ofInt 32 (y : Int)).toNat : Nat) : Int) = _
  rw [h1, h2, BitVec.toNat_or, BitVec.toNat_ofNat, BitVec.toNat_ofNat, Nat.mod_eq_of_lt (by omega), Nat.mod_eq_of_lt (by omega)]
  have : x ||| y < 2 ^ 32 := Nat.or_lt_two_pow (by omega) (by omega)
  rw [wrap_u32 (by omega)]
theorem sh_u32 (b : UInt8) (k : Nat) (h : k ≤ 24) : IntKind.u32.wrap (IntKind.u32.wrap (b.toNat : Int) * 2 ^ (min (Int.toNat (k : Int)) (IntKind.bits .u32))) = ((b.toNat * 2 ^ k : Nat) : Int) := by
  have e : min (Int.toNat (k : Int)) (IntKind.bits .u32) = k := by simp [IntKind.bits]; omega
  have hb := b.toNat_lt
  have hp : 2 ^ k ≤ 2 ^ 24 := Nat.pow_le_pow_right (by omega) h
  have h1 : b.toNat * 2 ^ k ≤ 255 * 2 ^ 24 := Nat.mul_le_mul (by omega) hp
  have h2 : ((b.toNat : Int) * 2 ^ k) = ((b.toNat * 2 ^ k : Nat) : Int) := by simp
  have h3 : IntKind.u32.wrap (b.toNat : Int) = (b.toNat : Int) := wrap_u32 (by omega)
  rw [e, h3, h2, wrap_u32 (by omega)]
theorem four_reads {s : Slc} {bs : List UInt8} {w : World} (hs : Rd w s (U8 bs)) {i : Nat} (hi : i < bs.length) {w' : World} (hd : Drw w w') {K : Int → Prop} (hK : K ((bs.getD i 0).toNat : Int)) :
    idxP s.a s.l (i : Int) 1 fun a => ldI .u8 a w' K := by
  refine (hs.drw hd).idx (by omega) (by simpa using hi) fun ad had => ldI_of (n := ((bs.getD i 0).toNat : Int)) ?_ hK
  rw [had, Int.toNat_natCast, U8_at bs hi]
  simp [List.getD, hi]
theorem back_ok {s : Slc} {bs : List UInt8} {w : World} {K : Int → World → Prop} (hs : Rd w s (U8 bs)) (hl : 4 ≤ bs.length) (hK : ∀ w', Drw w w' → K (num4 bs : Int) w') : c_codec_back s w K := by
  refine sim_codec_back ?_
  unfold sh_codec_back
  have hd : Drw w w.drew := (Drw.refl w).drew
  refine four_reads hs (i := 0) (by omega) hd (four_reads hs (i := 1) (by omega) hd ⟨by omega, four_reads hs (i := 2) (by omega) hd ⟨by omega, four_reads hs (i := 3) (by omega) hd ⟨by omega, ?_⟩⟩⟩)
  have h8 := sh_u32 (bs.getD 1 0) 8 (by omega)
  have h16 := sh_u32 (bs.getD 2 0) 16 (by omega)
  have h24 := sh_u32 (bs.getD 3 0) 24 (by omega)
  simp only [Int.cast_ofNat_Int] at h8 h16 h24
  have b0 := (bs.getD 0 0).toNat_lt
  have b1 := (bs.getD 1 0).toNat_lt
  have b2 := (bs.getD 2 0).toNat_lt
  have b3 := (bs.getD 3 0).toNat_lt
  rw [h8, h16, h24, wrap_u32 (by omega), bOr_nat (by omega) (by omega)]
  have e1 : (bs.getD 0 0).toNat ||| (bs.getD 1 0).toNat * 2 ^ 8 = (bs.getD 0 0).toNat + (bs.getD 1 0).toNat * 2 ^ 8 := by
    rw [Nat.or_comm, ← Nat.shiftLeft_eq, ← Nat.shiftLeft_add_eq_or_of_lt (by omega), Nat.add_comm]
  rw [e1, bOr_nat (by omega) (by omega)]
  have e2 : (bs.getD 0 0).toNat + (bs.getD 1 0).toNat * 2 ^ 8 ||| (bs.getD 2 0).toNat * 2 ^ 16 = (bs.getD 0 0).toNat + (bs.getD 1 0).toNat * 2 ^ 8 + (bs.getD 2 0).toNat * 2 ^ 16 := by
    rw [Nat.or_comm, ← Nat.shiftLeft_eq (_) 16, ← Nat.shiftLeft_add_eq_or_of_lt (by omega), Nat.add_comm]
  rw [e2, bOr_nat (by omega) (by omega)]
  have e3 : (bs.getD 0 0).toNat + (bs.getD 1 0).toNat * 2 ^ 8 + (bs.getD 2 0).toNat * 2 ^ 16 ||| (bs.getD 3 0).toNat * 2 ^ 24 = (bs.getD 0 0).toNat + (bs.getD 1 0).toNat * 2 ^ 8 + (bs.getD 2 0).toNat * 2 ^ 16 + (bs.getD 3 0).toNat * 2 ^ 24 := by
    rw [Nat.or_comm, ← Nat.shiftLeft_eq (_) 24, ← Nat.shiftLeft_add_eq_or_of_lt (by omega), Nat.add_comm]
  rw [e3]
  have := hK _ hd
  have e4 : num4 bs = (bs.getD 0 0).toNat + (bs.getD 1 0).toNat * 2 ^ 8 + (bs.getD 2 0).toNat * 2 ^ 16 + (bs.getD 3 0).toNat * 2 ^ 24 := by unfold num4; omega
  rwa [e4] at this
theorem num4_ok {s : Slc} {bs : List UInt8} {w : World} {K : Int → World → Prop} (hs : Rd w s (U8 bs)) (hl : 4 ≤ bs.length) (hK : ∀ w', Drw w w' → K (num4 bs : Int) w') : c_preluderef01_word s w K := by
  refine sim_preluderef01_word ?_
  unfold sh_preluderef01_word
  have hd : Drw w w.drew := (Drw.refl w).drew
  refine four_reads hs (i := 0) (by omega) hd (four_reads hs (i := 1) (by omega) hd ⟨by omega, four_reads hs (i := 2) (by omega) hd ⟨by omega, four_reads hs (i := 3) (by omega) hd ⟨by omega, ?_⟩⟩⟩)
  have h8 := sh_u32 (bs.getD 1 0) 8 (by omega)
  have h16 := sh_u32 (bs.getD 2 0) 16 (by omega)
  have h24 := sh_u32 (bs.getD 3 0) 24 (by omega)
  simp only [Int.cast_ofNat_Int] at h8 h16 h24
  have b0 := (bs.getD 0 0).toNat_lt
  have b1 := (bs.getD 1 0).toNat_lt
  have b2 := (bs.getD 2 0).toNat_lt
  have b3 := (bs.getD 3 0).toNat_lt
  rw [h8, h16, h24]
  rw [wrap_u32 (x := ((bs.getD 0 0).toNat : Int)) (by omega), wrap_u32 (x := ((bs.getD 0 0).toNat : Int) + (((bs.getD 1 0).toNat * 2 ^ 8 : Nat) : Int)) (by omega),
    wrap_u32 (x := ((bs.getD 0 0).toNat : Int) + (((bs.getD 1 0).toNat * 2 ^ 8 : Nat) : Int) + (((bs.getD 2 0).toNat * 2 ^ 16 : Nat) : Int)) (by omega), wrap_u32 (by omega)]
  have := hK _ hd
  have e4 : (num4 bs : Int) = ((bs.getD 0 0).toNat : Int) + (((bs.getD 1 0).toNat * 2 ^ 8 : Nat) : Int) + (((bs.getD 2 0).toNat * 2 ^ 16 : Nat) : Int) + (((bs.getD 3 0).toNat * 2 ^ 24 : Nat) : Int) := by unfold num4; omega
  rwa [e4] at this
theorem seal_ok {kind : UInt8} {load : Slc} {bs : List UInt8} {w : World} {K : Slc → World → Prop} (ht : Tab w) (hb : Rd w load (U8 bs)) (hn : load.a = none → load.l = 0 ∧ load.c = 0)
    (hK : ∀ s w', Own w' 5 1 s (U8 (sealB kind bs)) → s.l = (sealB kind bs).length → Chg Nil w w' → NewS w.heap.size s → (bs.length ≤ 16777216 → s.a ≠ none) → K s w') : c_codec_Seal (kind.toNat : Int) load w K := by
  refine sim_codec_Seal ?_
  unfold sh_codec_Seal
  have lb := hb.len
  simp only [U8_length] at lb
  refine iteB_intro (fun h => ?_) (fun h => ?_)
  · have hgt : ¬ bs.length ≤ 16777216 := by simp [lb] at h; omega
    refine hK _ w ?_ ?_ (Chg.refl _ _) (fun b h => by cases h) (fun h => absurd h hgt)
    · simp only [sealB, if_neg hgt]; exact Own.nil _ _ _
    · simp [sealB, hgt]
  · have hle : bs.length ≤ 16777216 := by simp [lb] at h; omega
    have hsb : sealB kind bs = sealed kind bs := by simp [sealB, hle]
    refine newP_intro fun w1 hc1 hb1 hs1 => ?_
    have ho1 : Own w1 5 1 ⟨some ⟨w.heap.size, 0, none⟩, 1, 1⟩ (U8 [kind]) := Own.new hb1 (by simp [maxLen])
    have hN1 : NewS w.heap.size ⟨some ⟨w.heap.size, 0, none⟩, 1, 1⟩ := fun b hb => by simp [blkOf] at hb; omega
    have e0 : IntKind.u32.wrap (load.l : Int) = ((bs.length : Nat) : Int) := by rw [wrap_u32 (by omega), lb]
    rw [e0]
    refine four_ok ho1 (by simp) fun s2 w2 ho2 hl2 hg2 => ?_
    have hN2 := hN1.gr hg2 (by omega)
    have hc2 : Chg Nil w w2 := hg2.nil hc1 hN1
    refine sum_ok (bs := head kind bs.length) (ht.chg hc2 fun h => h) ho2.rd (by simp [head]) ?_
    refine four_ok (n := crcN (head kind bs.length)) ho2 (by simp) fun s3 w3 ho3 hl3 hg3 => ?_
    have hN3 := hN2.gr hg3 hc2.size
    have hc3 : Chg Nil w w3 := hg3.nil hc2 hN2
    refine apP_rd TU8 ho3 (hb.chg hc3 fun _ _ h => h) hn (U8_one _) (by simp; omega) (by simp; omega) fun s4 w4 ho4 hl4 hg4 _ => ?_
    have hN4 := hN3.gr hg4 hc3.size
    have hc4 : Chg Nil w w4 := hg4.nil hc3 hN3
    refine sum_ok (bs := bs) (ht.chg hc4 fun h => h) (hb.chg hc4 fun _ _ h => h) (by omega) ?_
    rw [← U8_append] at ho4
    refine four_ok (n := crcN bs) ho4 (by simp; omega) fun s5 w5 ho5 hl5 hg5 => ?_
    have hN5 := hN4.gr hg5 hc4.size
    have hc5 : Chg Nil w w5 := hg5.nil hc4 hN4
    have e5 : [kind] ++ four bs.length ++ four (crcN (head kind bs.length)) ++ bs ++ four (crcN bs) = sealB kind bs := by
      rw [hsb]; simp [sealed, head]
    rw [e5] at ho5
    have hlen : (U8 (sealB kind bs)).length = s5.l := by rw [ho5.len, Nat.mul_one]
    refine hK s5 w5 ho5 (by rw [← hlen, U8_length]) hc5 hN5 (fun _ hn5 => ?_)
    rcases ho5.2 with ⟨he, h0⟩ | ⟨g, cap, cur, he, _⟩
    · rw [h0, U8_length, hsb, sealed_length] at hlen; omega
    · injection he with e1 _ _; rw [hn5] at e1; cases e1
theorem refSeal_ok {kind : UInt8} {load : Slc} {bs : List UInt8} {w : World} {K : Slc → World → Prop} (hb : Rd w load (U8 bs)) (hn : load.a = none → load.l = 0 ∧ load.c = 0)
    (hK : ∀ s w', Own w' 5 1 s (U8 (sealB kind bs)) → Chg Nil w w' → NewS w.heap.size s → K s w') : c_preluderef01_Seal (kind.toNat : Int) load w K := by
  refine sim_preluderef01_Seal ?_
  unfold sh_preluderef01_Seal
  have lb := hb.len
  simp only [U8_length] at lb
  refine iteB_intro (fun h => ?_) (fun h => ?_)
  · have hgt : ¬ bs.length ≤ 16777216 := by simp [lb] at h; omega
    refine hK _ w ?_ (Chg.refl _ _) (fun b h => by cases h)
    simp only [sealB, if_neg hgt]; exact Own.nil _ _ _
  · have hle : bs.length ≤ 16777216 := by simp [lb] at h; omega
    have hsb : sealB kind bs = sealed kind bs := by simp [sealB, hle]
    refine newP_intro fun w1 hc1 hb1 hs1 => ?_
    have ho1 : Own w1 5 1 ⟨some ⟨w.heap.size, 0, none⟩, 1, 1⟩ (U8 [kind]) := Own.new hb1 (by simp [maxLen])
    have hN1 : NewS w.heap.size ⟨some ⟨w.heap.size, 0, none⟩, 1, 1⟩ := fun b hb => by simp [blkOf] at hb; omega
    have e0 : IntKind.u32.wrap (load.l : Int) = ((bs.length : Nat) : Int) := by rw [wrap_u32 (by omega), lb]
    rw [e0]
    refine refFour_ok fun w2 hr2 hc2 hs2 => ?_
    have hc2' : Chg Nil w w2 := hc1.step hc2 fun _ _ h => h
    refine apP_rd TU8 (s := ⟨some ⟨w.heap.size, 0, none⟩, 1, 1⟩) (ho1.chg hc2 fun _ _ h => h) hr2 (fun h => by cases h) (U8_one _) (by simp) (by simp) fun s3 w3 ho3 hl3 hg3 _ => ?_
    have hN3 := hN1.gr hg3 hc2'.size
    have hc3 : Chg Nil w w3 := hg3.nil hc2' hN1
    rw [← U8_append] at ho3
    refine refSum_ok (bs := head kind bs.length) ho3.rd (by simp [head]) ?_
    refine refFour_ok (n := crcN (head kind bs.length)) fun w4 hr4 hc4 hs4 => ?_
    have hc4' : Chg Nil w w4 := hc3.step hc4 fun _ _ h => h
    refine apP_rd TU8 (ho3.chg hc4 fun _ _ h => h) hr4 (fun h => by cases h) (U8_one _) (by simp) (by simp) fun s5 w5 ho5 hl5 hg5 _ => ?_
    have hN5 := hN3.gr hg5 hc4'.size
    have hc5 : Chg Nil w w5 := hg5.nil hc4' hN3
    refine apP_rd TU8 ho5 (hb.chg hc5 fun _ _ h => h) hn (U8_one _) (by simp; omega) (by simp; omega) fun s6 w6 ho6 hl6 hg6 _ => ?_
    have hN6 := hN5.gr hg6 hc5.size
    have hc6 : Chg Nil w w6 := hg6.nil hc5 hN5
    refine refSum_ok (bs := bs) (hb.chg hc6 fun _ _ h => h) (by omega) ?_
    refine refFour_ok (n := crcN bs) fun w7 hr7 hc7 hs7 => ?_
    have hc7' : Chg Nil w w7 := hc6.step hc7 fun _ _ h => h
    refine apP_rd TU8 (ho6.chg hc7 fun _ _ h => h) hr7 (fun h => by cases h) (U8_one _) (by simp; omega) (by simp; omega) fun s8 w8 ho8 hl8 hg8 _ => ?_
    have hN8 := hN6.gr hg8 hc7'.size
    have hc8 : Chg Nil w w8 := hg8.nil hc7' hN6
    refine hK s8 w8 ?_ hc8 hN8
    have e8 : U8 ([kind] ++ four bs.length) ++ U8 (four (crcN (head kind bs.length))) ++ U8 bs ++ U8 (four (crcN bs)) = U8 (sealB kind bs) := by
      rw [hsb]; simp only [sealed, head, ← U8_append]; simp
    rw [e8] at ho8
    exact ho8
theorem opened_ok {s : Slc} {bs : List UInt8} {at_ : Int} {w : World} {K : Int → Slc → Int → Int → World → Prop} (ht : Tab w) (hb : Rd w s (U8 bs)) (hl : bs.length ≤ 140737488351232)
    (hK : ∀ l w', Own w' 5 1 l (U8 (opened bs at_).load) → Chg Nil w w' → NewS w.heap.size l → l.l = (opened bs at_).load.length → (l.a = none → l.l = 0) → K ((opened bs at_).kind.toNat : Int) l (opened bs at_).next (opened bs at_).err w') : c_codec_Unseal s at_ w K := by
  refine sim_codec_Unseal ?_
  unfold sh_codec_Unseal
  have lb := hb.len
  simp only [U8_length] at lb
  have no : ∀ (e : Int) (w' : World), opened bs at_ = bad e → Chg Nil w w' → K 0 ⟨none, 0, 0⟩ 0 e w' := fun e w' he hc => by
    have := hK ⟨none, 0, 0⟩ w' (by rw [he]; exact Own.nil _ _ _) hc (fun b h => by cases h) (by rw [he]; rfl) (fun _ => rfl)
    rw [he] at this
    exact this
  refine iteB_intro (fun h => ?_) (fun h => ?_)
  · exact no 11 w (by unfold opened; rw [if_pos (.inl (by simpa using h))]) (Chg.refl _ _)
  have h0 : 0 ≤ at_ := by simp at h; omega
  refine iteB_intro (fun h => ?_) (fun h => ?_)
  · exact no 11 w (by unfold opened; rw [if_pos (.inr (by simp [lb] at h; omega))]) (Chg.refl _ _)
  have h1 : at_ ≤ (bs.length : Int) := by simp [lb] at h; omega
  obtain ⟨n, rfl⟩ : ∃ n : Nat, at_ = (n : Int) := ⟨at_.toNat, by omega⟩
  have hop : opened bs (n : Int) = openedAt (bs.drop n) (n : Int) := by
    unfold opened; rw [if_neg (by omega)]; simp
  refine hb.sl (l := n) (u := bs.length) rfl (by simp [lb]) (by omega) (by simp) fun p hp hblk => ?_
  have hpc : Rd w ⟨p, bs.length - n, s.c - n⟩ (U8 (bs.drop n)) := by
    rw [U8_part] at hp
    rwa [List.take_of_length_le (by simp)] at hp
  generalize hcc : bs.drop n = c at hop hpc
  have hcl : c.length = bs.length - n := by rw [← hcc]; simp
  refine iteB_intro (fun h => ?_) (fun h => ?_)
  · refine no 10 w ?_ (Chg.refl _ _)
    rw [hop]; unfold openedAt; rw [if_pos (by simp at h; omega)]
  have h9 : 9 ≤ c.length := by simp at h; omega
  have hlen : (U8 c).length = c.length := by simp
  refine hpc.sl (l := 0) (u := 5) rfl rfl (by omega) (by omega) fun p1 hp1 _ => ?_
  refine hpc.sl (l := 5) (u := 9) rfl rfl (by omega) (by omega) fun p2 hp2 _ => ?_
  rw [U8_part] at hp1 hp2
  have hd0 : Drw w w.drew := (Drw.refl w).drew
  refine sum_ok (bs := c.take 5) (ht.chg (hd0.chg Nil) fun h => h) (by simpa using hp1.drw hd0) (by simp; omega) ?_
  refine back_ok (bs := (c.drop 5).take 4) (by simpa using hp2.drw hd0) (by simp; omega) fun w1 hd1' => ?_
  have hd1 : Drw w w1 := hd0.trans hd1'
  refine iteB_intro (fun h => ?_) (fun h => ?_)
  · refine no 13 w1 ?_ (hd1.chg _)
    rw [hop]; unfold openedAt; rw [if_neg (by omega), if_pos]
    intro he
    have he' : (crc (c.take 5)).toNat = num4 ((c.drop 5).take 4) := he
    rw [he'] at h; simp at h
  have hsum : crcN (c.take 5) = num4 ((c.drop 5).take 4) := by
    have : ((crc (c.take 5)).toNat : Int) = (num4 ((c.drop 5).take 4) : Int) := by simpa using h
    exact Int.ofNat.inj this
  refine (hpc.drw hd1).sl (l := 1) (u := 5) rfl rfl (by omega) (by omega) fun p3 hp3 _ => ?_
  rw [U8_part] at hp3
  refine back_ok (bs := (c.drop 1).take 4) (by simpa using hp3) (by simp; omega) fun w2 hd2' => ?_
  have hd2 : Drw w w2 := hd1.trans hd2'
  generalize hm : num4 ((c.drop 1).take 4) = m
  refine iteB_intro (fun h => ?_) (fun h => ?_)
  · refine no 12 w2 ?_ (hd2.chg _)
    rw [hop]; unfold openedAt; rw [if_neg (by omega), if_neg (by simp [hsum]), hm, if_pos (by simp at h; omega)]
  have hm24 : m ≤ 16777216 := by simp at h; omega
  have ew : IntKind.i64.wrap (m : Int) = (m : Int) := wrap_i64 (by omega)
  have ew9 : IntKind.i64.wrap (9 + (m : Int)) = ((9 + m : Nat) : Int) := by rw [wrap_i64 (by omega)]; simp
  have ew13 : IntKind.i64.wrap (13 + (m : Int)) = ((13 + m : Nat) : Int) := by rw [wrap_i64 (by omega)]; simp
  rw [ew, ew9, ew13]
  refine iteB_intro (fun h => ?_) (fun h => ?_)
  · refine no 10 w2 ?_ (hd2.chg _)
    rw [hop]; unfold openedAt; rw [if_neg (by omega), if_neg (by simp [hsum]), hm, if_neg (by omega), if_pos (by simp at h; omega)]
  have h13 : 13 + m ≤ c.length := by simp at h; omega
  refine (hpc.drw hd2).sl (l := 9) (u := 9 + m) rfl rfl (by omega) (by omega) fun p4 hp4 hblk4 => ?_
  refine (hpc.drw hd2).sl (l := 9 + m) (u := c.length) rfl (by simp [hcl]) (by omega) (by omega) fun p5 hp5 _ => ?_
  rw [U8_part] at hp4 hp5
  rw [show 9 + m - 9 = m by omega] at hp4
  have hd3 : Drw w2 w2.drew := (Drw.refl w2).drew
  refine sum_ok (bs := (c.drop 9).take m) (ht.chg ((hd2.trans hd3).chg Nil) fun h => h) (by simpa using hp4.drw hd3) (by simp; omega) ?_
  refine back_ok (bs := c.drop (9 + m)) (by rw [List.take_of_length_le (by simp)] at hp5; exact hp5.drw hd3) (by simp; omega) fun w3 hd3' => ?_
  have hd4 : Drw w w3 := (hd2.trans hd3).trans hd3'
  refine iteB_intro (fun h => ?_) (fun h => ?_)
  · refine no 13 w3 ?_ (hd4.chg _)
    rw [hop]; unfold openedAt; rw [if_neg (by omega), if_neg (by simp [hsum]), hm, if_neg (by omega), if_neg (by omega), if_pos]
    intro he
    have he' : (crc ((c.drop 9).take m)).toNat = num4 (c.drop (9 + m)) := he
    rw [he'] at h; simp at h
  have hsum2 : crcN ((c.drop 9).take m) = num4 (c.drop (9 + m)) := by
    have : ((crc ((c.drop 9).take m)).toNat : Int) = (num4 (c.drop (9 + m)) : Int) := by simpa using h
    exact Int.ofNat.inj this
  have hres : opened bs (n : Int) = ⟨c.getD 0 0, (c.drop 9).take m, (n : Int) + m + 13, 0⟩ := by
    rw [hop]; unfold openedAt; rw [if_neg (by omega), if_neg (by simp [hsum]), hm, if_neg (by omega), if_neg (by omega), if_neg (by simp [hsum2])]
  have hd5 : Drw w w3.drew := hd4.drew
  refine (hpc.drw hd5).idx (by omega) (by simp; omega) fun ad had => ?_
  have had' : w3.drew.cell? ad = some (.int .u8 ((c.getD 0 0).toNat : Int)) := by
    rw [had, Int.toNat_zero, U8_at c (by omega)]
    simp [List.getD, show 0 < c.length by omega]
  refine ldI_of had' ?_
  refine clone_ok (bs := (c.drop 9).take m) (by simpa using hp4.drw (hd3.trans (hd3'.drew))) (by simp; omega) fun l w4 ho hc4 hnew hll hnil _ _ => ?_
  refine ⟨cell_chg hc4 had' fun h => h, ?_⟩
  have hlenm : ((c.drop 9).take m).length = m := by simp; omega
  have hwn : IntKind.i64.wrap (IntKind.i64.wrap ((n : Int) + 13) + (m : Int)) = (n : Int) + m + 13 := by
    rw [wrap_i64 (x := (n : Int) + 13) (by omega), wrap_i64 (by omega)]; omega
  rw [hwn]
  have := hK l w4 (by rw [hres]; exact ho) ((hd5.chg Nil).step hc4 fun _ _ h => h) (fun b hb => by have := hnew b hb; have := (hd5.chg Nil).size; omega) (by rw [hres]; exact hll) hnil
  rw [hres] at this
  exact this
theorem refOpened_ok {s : Slc} {bs : List UInt8} {at_ : Int} {w : World} {K : Int → Slc → Int → Int → World → Prop} (hb : Rd w s (U8 bs)) (hl : bs.length ≤ 140737488351232) (hsn : s.a = none → s.c = 0)
    (hK : ∀ l w', Own w' 5 1 l (U8 (opened bs at_).load) → Chg Nil w w' → NewS w.heap.size l → K ((opened bs at_).kind.toNat : Int) l (opened bs at_).next (opened bs at_).err w') : c_preluderef01_Unseal s at_ w K := by
  refine sim_preluderef01_Unseal ?_
  unfold sh_preluderef01_Unseal
  have lb := hb.len
  simp only [U8_length] at lb
  have no : ∀ (e : Int) (w' : World), opened bs at_ = bad e → Chg Nil w w' → K 0 ⟨none, 0, 0⟩ 0 e w' := fun e w' he hc => by
    have := hK ⟨none, 0, 0⟩ w' (by rw [he]; exact Own.nil _ _ _) hc (fun b h => by cases h)
    rw [he] at this
    exact this
  refine iteB_intro (fun h => ?_) (fun h => ?_)
  · exact no 11 w (by unfold opened; rw [if_pos (.inl (by simpa using h))]) (Chg.refl _ _)
  have h0 : 0 ≤ at_ := by simp at h; omega
  refine iteB_intro (fun h => ?_) (fun h => ?_)
  · exact no 11 w (by unfold opened; rw [if_pos (.inr (by simp [lb] at h; omega))]) (Chg.refl _ _)
  have h1 : at_ ≤ (bs.length : Int) := by simp [lb] at h; omega
  obtain ⟨n, rfl⟩ : ∃ n : Nat, at_ = (n : Int) := ⟨at_.toNat, by omega⟩
  have hop : opened bs (n : Int) = openedAt (bs.drop n) (n : Int) := by
    unfold opened; rw [if_neg (by omega)]; simp
  refine hb.sl (l := n) (u := bs.length) rfl (by simp [lb]) (by omega) (by simp) fun p hp hblk => ?_
  have hpc : Rd w ⟨p, bs.length - n, s.c - n⟩ (U8 (bs.drop n)) := by
    rw [U8_part] at hp
    rwa [List.take_of_length_le (by simp)] at hp
  generalize hcc : bs.drop n = c at hop hpc
  have hcl : c.length = bs.length - n := by rw [← hcc]; simp
  refine iteB_intro (fun h => ?_) (fun h => ?_)
  · refine no 10 w ?_ (Chg.refl _ _)
    rw [hop]; unfold openedAt; rw [if_pos (by simp at h; omega)]
  have h9 : 9 ≤ c.length := by simp at h; omega
  have hpn : p ≠ none := by
    intro hp0
    rw [hp0] at hblk
    cases ha : s.a with
    | none => have := hsn ha; have := hb.cap; omega
    | some a => rw [ha] at hblk; cases hblk
  have hlen : (U8 c).length = c.length := by simp
  refine hpc.sl (l := 0) (u := 5) rfl rfl (by omega) (by omega) fun p1 hp1 _ => ?_
  refine hpc.sl (l := 5) (u := 9) rfl rfl (by omega) (by omega) fun p2 hp2 _ => ?_
  rw [U8_part] at hp1 hp2
  have hd0 : Drw w w.drew := (Drw.refl w).drew
  refine refSum_ok (bs := c.take 5) (by simpa using hp1.drw hd0) (by simp; omega) ?_
  refine num4_ok (bs := (c.drop 5).take 4) (by simpa using hp2.drw hd0) (by simp; omega) fun w1 hd1' => ?_
  have hd1 : Drw w w1 := hd0.trans hd1'
  refine iteB_intro (fun h => ?_) (fun h => ?_)
  · refine no 13 w1 ?_ (hd1.chg _)
    rw [hop]; unfold openedAt; rw [if_neg (by omega), if_pos]
    intro he
    have he' : (crc (c.take 5)).toNat = num4 ((c.drop 5).take 4) := he
    rw [he'] at h; simp at h
  have hsum : crcN (c.take 5) = num4 ((c.drop 5).take 4) := by
    have : ((crc (c.take 5)).toNat : Int) = (num4 ((c.drop 5).take 4) : Int) := by simpa using h
    exact Int.ofNat.inj this
  refine (hpc.drw hd1).sl (l := 1) (u := 5) rfl rfl (by omega) (by omega) fun p3 hp3 _ => ?_
  rw [U8_part] at hp3
  refine num4_ok (bs := (c.drop 1).take 4) (by simpa using hp3) (by simp; omega) fun w2 hd2' => ?_
  have hd2 : Drw w w2 := hd1.trans hd2'
  have hm32 := num4_lt ((c.drop 1).take 4)
  generalize hm : num4 ((c.drop 1).take 4) = m at hm32
  have ew : IntKind.i64.wrap (m : Int) = (m : Int) := wrap_i64 (by omega)
  rw [ew]
  refine iteB_intro (fun h => ?_) (fun h => ?_)
  · refine no 12 w2 ?_ (hd2.chg _)
    rw [hop]; unfold openedAt; rw [if_neg (by omega), if_neg (by simp [hsum]), hm, if_pos (by simp at h; omega)]
  have hm24 : m ≤ 16777216 := by simp at h; omega
  have ew9 : IntKind.i64.wrap (9 + (m : Int)) = ((9 + m : Nat) : Int) := by rw [wrap_i64 (by omega)]; simp
  have ew13 : IntKind.i64.wrap (13 + (m : Int)) = ((13 + m : Nat) : Int) := by rw [wrap_i64 (by omega)]; simp
  have ewm : IntKind.i64.wrap ((m : Int) + 13) = ((13 + m : Nat) : Int) := by rw [wrap_i64 (by omega)]; omega
  rw [ew9, ew13, ewm]
  refine iteB_intro (fun h => ?_) (fun h => ?_)
  · refine no 10 w2 ?_ (hd2.chg _)
    rw [hop]; unfold openedAt; rw [if_neg (by omega), if_neg (by simp [hsum]), hm, if_neg (by omega), if_pos (by simp at h; omega)]
  have h13 : 13 + m ≤ c.length := by simp at h; omega
  refine (hpc.drw hd2).sl (l := 9) (u := 9 + m) rfl rfl (by omega) (by omega) fun p4 hp4 hblk4 => ?_
  refine (hpc.drw hd2).sl (l := 9 + m) (u := 13 + m) rfl rfl (by omega) (by omega) fun p5 hp5 _ => ?_
  rw [U8_part] at hp4 hp5
  rw [show 9 + m - 9 = m by omega] at hp4
  have e134 : 13 + m - (9 + m) = 4 := by omega
  rw [e134] at hp5 ⊢
  have hd3 : Drw w2 w2.drew := (Drw.refl w2).drew
  refine refSum_ok (bs := (c.drop 9).take m) (by simpa using hp4.drw hd3) (by simp; omega) ?_
  refine num4_ok (bs := (c.drop (9 + m)).take 4) (by simpa using hp5.drw hd3) (by simp; omega) fun w3 hd3' => ?_
  have hd4 : Drw w w3 := (hd2.trans hd3).trans hd3'
  have hw4 : num4 ((c.drop (9 + m)).take 4) = num4 (c.drop (9 + m)) := by
    simp [num4, List.getD, List.getElem?_take]
  rw [hw4]
  refine iteB_intro (fun h => ?_) (fun h => ?_)
  · refine no 13 w3 ?_ (hd4.chg _)
    rw [hop]; unfold openedAt; rw [if_neg (by omega), if_neg (by simp [hsum]), hm, if_neg (by omega), if_neg (by omega), if_pos]
    intro he
    have he' : (crc ((c.drop 9).take m)).toNat = num4 (c.drop (9 + m)) := he
    rw [he'] at h; simp at h
  have hsum2 : crcN ((c.drop 9).take m) = num4 (c.drop (9 + m)) := by
    have : ((crc ((c.drop 9).take m)).toNat : Int) = (num4 (c.drop (9 + m)) : Int) := by simpa using h
    exact Int.ofNat.inj this
  have hres : opened bs (n : Int) = ⟨c.getD 0 0, (c.drop 9).take m, (n : Int) + m + 13, 0⟩ := by
    rw [hop]; unfold openedAt; rw [if_neg (by omega), if_neg (by simp [hsum]), hm, if_neg (by omega), if_neg (by omega), if_neg (by simp [hsum2])]
  refine (hpc.drw hd4).sl (l := 9) (u := 9 + m) rfl rfl (by omega) (by omega) fun p6 hp6 hblk6 => ?_
  rw [U8_part, show 9 + m - 9 = m by omega] at hp6
  have hp6n : p6 = none → (m = 0 ∧ s.c - n - 9 = 0) := fun h6 => by
    rw [h6] at hblk6
    cases p with
    | none => exact absurd rfl hpn
    | some a => cases hblk6
  rw [show 9 + m - 9 = m by omega]
  refine apP_rd TU8 (s := ⟨none, 0, 0⟩) (x := ⟨p6, m, s.c - n - 9⟩) (vs := []) (Own.nil _ _ _) (by simpa using hp6) hp6n (U8_one _) (by simp; omega) (by simp; omega) fun l w4 ho hll hg hnil => ?_
  have hc4 : Chg Nil w3 w4 := hg.chg.mono fun _ _ h => by cases h
  have hnew : ∀ b, blkOf l = some b → w3.heap.size ≤ b := fun b hb => (hg.blk b hb).elim (fun h => by cases h) id
  have hd5 := hpc.drw hd4
  refine (hd5.chg hc4 fun _ _ h => h).idx (by omega) (by simp; omega) fun ad had => ?_
  refine ldI_of (n := ((c.getD 0 0).toNat : Int)) ?_ ?_
  · rw [had, Int.toNat_zero, U8_at c (by omega)]
    simp [List.getD, show 0 < c.length by omega]
  have hwn : IntKind.i64.wrap (IntKind.i64.wrap ((n : Int) + (m : Int)) + 13) = (n : Int) + m + 13 := by
    rw [wrap_i64 (x := (n : Int) + (m : Int)) (by omega), wrap_i64 (by omega)]
  rw [hwn]
  have := hK l w4 (by rw [hres]; simpa using ho) ((hd4.chg Nil).step hc4 fun _ _ h => h) (fun b hb => by have := hnew b hb; have := (hd4.chg Nil).size; omega)
  rw [hres] at this
  exact this
end Go.Proofs.YtmadhcoeiclalaaDoor
