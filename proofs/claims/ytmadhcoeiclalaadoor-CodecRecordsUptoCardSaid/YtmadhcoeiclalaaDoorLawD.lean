/- LawD: records in a row, cut anywhere: the law CodecRecords. -/
import Derived.Test.YtmadhcoeiclalaaDoorLawC
import Derived.Test.YtmadhcoeiclalaaDoorGt
set_option linter.unusedVariables false
set_option linter.unusedSimpArgs false
namespace Go.Pl
open Go Go.Sh Go.RowKit
def Dis (s t : Slc) : Prop := ∀ b, blkOf s = some b → blkOf t ≠ some b
theorem Dis.symm {s t : Slc} (h : Dis s t) : Dis t s := fun b h1 h2 => h b h2 h1
theorem Dis.gr {s s' t : Slc} {w w' : World} (h : Dis s t) (g : Gr s w s' w') (ht : ∀ b, blkOf t = some b → b < w.heap.size) : Dis s' t := fun b h1 h2 => by
  rcases g.blk b h1 with h3 | h3
  · exact h b h3 h2
  · have := ht b h2; omega
theorem Own.gr {w w' : World} {e : TypeId} {size : Nat} {s s' t : Slc} {vs : List Value} (h : Own w e size t vs) (g : Gr s w s' w') (hd : Dis s t) : Own w' e size t vs := h.chg g.chg fun b hb hs => hd b hs.symm hb
theorem Rd.gr {w w' : World} {s s' t : Slc} {vs : List Value} (h : Rd w t vs) (g : Gr s w s' w') (hd : Dis s t) : Rd w' t vs := h.chg g.chg fun b hb hs => hd b hs.symm hb
end Go.Pl
namespace Go.Gt
open Go Go.Sh Go.Pl Go.RowKit
/-- An element of a slice of slices. -/
theorem Rep.at {R b : Nat} {w : World} {x : Slc} {ms : List (List UInt8)} (h : Rep R w (.sl b .bytes) [.slice x.a x.l x.c] ms) {w' : World} (hc : Chg Nil w w') {i : Nat} (hi : i < ms.length) {K : Addr → Prop}
    (hK : ∀ ad (s : Slc), w'.cell? ad = some (.slice s.a s.l s.c) → Rd w' s (U8 (ms.getD i [])) → (s.a = none → s.l = 0 ∧ s.c = 0) → K ad) : idxP x.a x.l (i : Int) 1 K := by
  obtain ⟨s, he, hl, hlc, hn, _, hx⟩ := h.chg hc
  have he' : x.a = s.a ∧ x.l = s.l ∧ x.c = s.c := by simpa using he
  have hl' : s.l = ms.length := hl
  obtain ⟨ad, es, ha, hes, hcell, s', hs', hrd, hn', _⟩ := hx i (ms.getD i []) (by show ms[i]? = _; simp only [List.getD, List.getElem?_eq_getElem hi, Option.getD_some]; rfl)
  subst hs'
  have h0 := hcell 0 (by decide)
  refine ⟨by omega, by rw [he'.2.1]; omega, ad, by rw [he'.1, ha], ?_⟩
  rw [Int.toNat_natCast]
  exact hK _ s' (by simpa [G.sz] using h0) hrd hn'
theorem Rep.len {R b : Nat} {w : World} {x : Slc} {g : G} {ms : List (Mo g)} (h : Rep R w (.sl b g) [.slice x.a x.l x.c] ms) : x.l = ms.length := by
  obtain ⟨s, he, hl, _⟩ := h
  have he' : x.a = s.a ∧ x.l = s.l ∧ x.c = s.c := by simpa using he
  rw [he'.2.1]; exact hl
end Go.Gt
namespace Go.Rec
open Go.Crc
/-- A torn record: too short. -/
theorem openedAt_torn {k : UInt8} {l : List UInt8} {at_ : Int} (post : List UInt8) (hl : l.length ≤ 16777216) {n : Nat} (hn : n < l.length + 13) : openedAt ((sealed k l ++ post).take n) at_ = bad 10 := by
  have hs := sealed_length k l
  rw [List.take_append_of_le_length (by omega)]
  have hlen : ((sealed k l).take n).length = n := by simp; omega
  unfold openedAt
  by_cases h9 : n < 9
  · rw [if_pos (by omega)]
  rw [if_neg (by omega)]
  have e : sealed k l = head k l.length ++ (four (crcN (head k l.length)) ++ (l ++ four (crcN l))) := rfl
  have h5 : ((sealed k l).take n).take 5 = head k l.length := by
    rw [List.take_take, Nat.min_eq_left (by omega), e, ← head_length k l.length, List.take_left]
  have h4 : (((sealed k l).take n).drop 5).take 4 = four (crcN (head k l.length)) := by
    rw [List.drop_take, List.take_take, Nat.min_eq_left (by omega), e, ← head_length k l.length, List.drop_left]
    rfl
  have h1 : (((sealed k l).take n).drop 1).take 4 = four l.length := by
    rw [List.drop_take, List.take_take, Nat.min_eq_left (by omega), e]
    rfl
  have hf : ∀ m, m < 4294967296 → num4 (four m) = m := fun m hm => by have := num4_four m hm []; rwa [List.append_nil] at this
  rw [h5, h4, h1, hf _ (crcN_lt _), hf _ (by omega), if_neg (by simp), if_neg (by omega), if_pos (by omega)]
/-- So many records in a row. -/
def row (kk : Nat → UInt8) (ms : List (List UInt8)) (i : Nat) : List UInt8 := (List.range i).flatMap fun j => sealed (kk j) (ms.getD j [])
theorem row_succ (kk : Nat → UInt8) (ms : List (List UInt8)) (i : Nat) : row kk ms (i + 1) = row kk ms i ++ sealed (kk i) (ms.getD i []) := by
  simp [row, List.range_succ]
theorem row_split (kk : Nat → UInt8) (ms : List (List UInt8)) (i : Nat) : ∀ d, ∃ r, row kk ms (i + d) = row kk ms i ++ r := by
  intro d
  induction d with
  | zero => exact ⟨[], by simp⟩
  | succ d ih =>
    obtain ⟨r, hr⟩ := ih
    exact ⟨r ++ sealed (kk (i + d)) (ms.getD (i + d) []), by rw [← Nat.add_assoc, row_succ, hr, List.append_assoc]⟩
theorem row_cut (kk : Nat → UInt8) (ms : List (List UInt8)) {i n : Nat} (h : i < n) : ∃ r, row kk ms n = row kk ms i ++ (sealed (kk i) (ms.getD i []) ++ r) := by
  obtain ⟨r, hr⟩ := row_split kk ms (i + 1) (n - (i + 1))
  rw [show i + 1 + (n - (i + 1)) = n by omega, row_succ] at hr
  exact ⟨r, by rw [hr, List.append_assoc]⟩
theorem row_length (kk : Nat → UInt8) (ms : List (List UInt8)) : ∀ i, i ≤ ms.length → (row kk ms i).length ≤ 13 * ((ms.take i).map fun m => m.length + 1).sum := by
  intro i
  induction i with
  | zero => intro _; simp [row]
  | succ i ih =>
    intro hi
    have h1 := ih (by omega)
    rw [row_succ, List.length_append, sealed_length, List.take_succ_eq_append_getElem (by omega), List.map_append, List.sum_append]
    have : ms.getD i [] = ms[i] := by simp [List.getD, show i < ms.length by omega]
    rw [this]
    simp only [List.map_cons, List.map_nil, List.sum_cons, List.sum_nil]
    omega
theorem take_sum (ms : List (List UInt8)) (i : Nat) : ((ms.take i).map fun m => m.length + 1).sum ≤ (ms.map fun m => m.length + 1).sum := by
  have h := congrArg (fun l : List (List UInt8) => (l.map fun m => m.length + 1).sum) (List.take_append_drop i ms)
  simp only [List.map_append, List.sum_append] at h
  omega
theorem len_le_sum (ms : List (List UInt8)) : ms.length ≤ (ms.map fun m => m.length + 1).sum := by
  induction ms with
  | nil => simp
  | cons m ms ih => simp only [List.map_cons, List.sum_cons, List.length_cons]; omega
theorem at_le_sum (ms : List (List UInt8)) (i : Nat) : (ms.getD i []).length ≤ (ms.map fun m => m.length + 1).sum := by
  by_cases h : i < ms.length
  · have h1 := take_sum ms (i + 1)
    rw [List.take_succ_eq_append_getElem h, List.map_append, List.sum_append] at h1
    have : ms.getD i [] = ms[i] := by simp [List.getD, h]
    rw [this]
    simp only [List.map_cons, List.map_nil, List.sum_cons, List.sum_nil] at h1
    omega
  · simp [List.getD, List.getElem?_eq_none (show ms.length ≤ i by omega)]
theorem row_mono (kk : Nat → UInt8) (ms : List (List UInt8)) {i n : Nat} (h : i ≤ n) : (row kk ms i).length ≤ (row kk ms n).length := by
  obtain ⟨r, hr⟩ := row_split kk ms i (n - i)
  rw [show i + (n - i) = n by omega] at hr
  rw [hr]; simp
end Go.Rec
namespace Go.Proofs.YtmadhcoeiclalaaDoor
open Go Go.Sh Go.Pl Go.RowKit Go.Crc Go.Rec Go.Gt
theorem TI64 : ElT Tryd.prog 47 3 (.int .i64 0) 1 8 := ⟨by kernel_rfl, by kernel_rfl, rfl, by decide⟩
def IV (zs : List Nat) : List Value := zs.map fun (n : Nat) => .int .i64 (n : Int)
@[simp] theorem IV_length (zs : List Nat) : (IV zs).length = zs.length := by simp [IV]
theorem IV_append (a b : List Nat) : IV (a ++ b) = IV a ++ IV b := by simp [IV]
theorem IV_one (zs : List Nat) : ∀ u ∈ IV zs, u.oneCell' = true := by
  intro u hu
  obtain ⟨b, _, rfl⟩ := List.mem_map.1 hu
  rfl
def ends (kk : Nat → UInt8) (ms : List (List UInt8)) (i : Nat) : List Nat := (List.range i).map fun j => (row kk ms (j + 1)).length
theorem ends_succ (kk : Nat → UInt8) (ms : List (List UInt8)) (i : Nat) : ends kk ms (i + 1) = ends kk ms i ++ [(row kk ms (i + 1)).length] := by simp [ends, List.range_succ]
theorem own_a {w : World} {e : TypeId} {s : Slc} {vs : List Value} (h : Own w e 1 s vs) (hp : 0 < vs.length) : s.a ≠ none := by
  intro hn
  rcases h.2 with ⟨he, h0⟩ | ⟨g, cap, cur, he, _⟩
  · have := h.1; rw [h0] at this; omega
  · injection he with e1 _ _; rw [hn] at e1; cases e1
theorem law_CodecRecords {x : Slc} {ms : List (List UInt8)} {k0 cut : Int} {w : World} (ht : Tab w) (hx : Rep reachBytes w (.sl 24 .bytes) [.slice x.a x.l x.c] ms) (hk0 : (Lit.int .u8 k0).wf = true) (hcut : (Lit.int .i64 cut).wf = true)
    (hb : bulk (.pair (.sl 24 .bytes) (.pair (.int .u8) (.pair (.int .i64) .unit))) (ms, k0, cut, ()) ≤ 1048576) :
    c_preludelaw01_CodecRecords x k0 cut w fun r w' => r = true ∧ Chg Nil w w' := by
  refine sim_preludelaw01_CodecRecords ?_
  unfold sh_preludelaw01_CodecRecords
  obtain ⟨k, rfl⟩ : ∃ k : UInt8, k0 = (k.toNat : Int) := ⟨_, (Row.toU8_toNat hk0).symm⟩
  have hsum : (ms.map fun m => m.length + 1).sum ≤ 1048576 := by
    have : (ms.map fun m => m.length + 1).sum + 1 + (1 + (1 + 0)) ≤ 1048576 := hb
    omega
  have hxl : x.l = ms.length := hx.len
  have hN : ms.length ≤ 1048576 := Nat.le_trans (len_le_sum ms) hsum
  have hm : ∀ i, (ms.getD i []).length ≤ 1048576 := fun i => Nat.le_trans (at_le_sum ms i) hsum
  let kk : Nat → UInt8 := fun i => k + UInt8.ofNat i
  have hkk : ∀ i : Nat, IntKind.u8.wrap ((k.toNat : Int) + IntKind.u8.wrap (i : Int)) = ((kk i).toNat : Int) := fun i => by
    show _ = ((k + UInt8.ofNat i).toNat : Int)
    rw [UInt8.toNat_add, UInt8.toNat_ofNat']
    simp [IntKind.wrap, IntKind.signed, IntKind.bits]
  have hrow : ∀ i, i ≤ ms.length → (row kk ms i).length ≤ 13631488 := fun i hi => by
    have h1 := row_length kk ms i hi
    have h2 := take_sum ms i
    omega
  refine loopP_inv (fun st w1 => ∃ i : Nat, st.2.2.1 = (i : Int) ∧ i ≤ ms.length ∧ Own w1 5 1 st.1 (U8 (row kk ms i)) ∧ Own w1 3 1 st.2.1 (IV (ends kk ms i)) ∧ Chg Nil w w1 ∧ NewS w.heap.size st.1 ∧ NewS w.heap.size st.2.1 ∧ Dis st.1 st.2.1)
    (fun st _ => ms.length - st.2.2.1.toNat) ⟨0, rfl, Nat.zero_le _, Own.nil _ _ _, Own.nil _ _ _, Chg.refl _ _, (fun b h => by cases h), (fun b h => by cases h), (fun b h => by cases h)⟩ ?_
  rintro ⟨all, es, i0, u⟩ w1 next ⟨i, rfl, hi, ho1, he1, hc1, hN1, hE1, hD1⟩ hnext
  simp only
  refine iteB_intro (fun h => ?_) (fun h => ?_)
  · have hlt : i < ms.length := by simp [hxl] at h; omega
    refine hx.at hc1 hlt fun ad s had hs hsn => ldS_of had ?_
    refine iteB_intro (fun h => ⟨by trivial, hc1⟩) (fun h => ?_)
    refine hx.at hc1 hlt fun ad s had hs hsn => ldS_of had ?_
    rw [hkk i]
    have hle : (ms.getD i []).length ≤ 16777216 := Nat.le_trans (hm i) (by omega)
    have hsb : sealB (kk i) (ms.getD i []) = sealed (kk i) (ms.getD i []) := by simp only [sealB, if_pos hle]
    refine seal_ok (ht.chg hc1 fun h => h) hs hsn fun r w2 ho2 hl2 hc2 hN2 hne2 => ?_
    rw [hsb] at ho2 hl2
    rw [sealed_length] at hl2
    have hc2' : Chg Nil w w2 := hc1.step hc2 fun _ _ h => h
    refine hx.at hc2' hlt fun ad s had hs hsn => ldS_of had ?_
    have hsl := hs.len
    simp only [U8_length] at hsl
    have hmi := hm i
    refine iteB_neg (by rw [wrap_i64 (by omega)]; simp; omega) ?_
    have hri := hrow i hi
    have hri1 := hrow (i + 1) hlt
    refine apP_rd TU8 (ho1.chg hc2 fun _ _ h => h) ho2.rd (fun h => absurd h (hne2 hle)) (U8_one _) (by simp only [U8_length, sealed_length]; omega) (by simp only [U8_length, sealed_length]; omega) fun s3 w3 ho3 hl3 hg3 _ => ?_
    rw [← U8_append, ← row_succ] at ho3
    have hs3l : s3.l = (row kk ms (i + 1)).length := by have := ho3.rd.len; simpa using this
    have hc3 : Chg Nil w w3 := hg3.nil hc2' hN1
    have hN3 : NewS w.heap.size s3 := hN1.gr hg3 hc2'.size
    have hE2 : ∀ b, blkOf es = some b → b < w2.heap.size := (he1.chg hc2 fun _ _ h => h).lt
    have hD3 : Dis s3 es := hD1.gr hg3 hE2
    have he3 : Own w3 3 1 es (IV (ends kk ms i)) := (he1.chg hc2 fun _ _ h => h).gr hg3 hD1
    refine newP_intro fun w4 hc4 hb4 hs4 => ?_
    have hr4 : Rd w4 ⟨some ⟨w3.heap.size, 0, none⟩, 1, 1⟩ (IV [(row kk ms (i + 1)).length]) := by
      have := hb4.rd (o := 0) (l := 1) (c := 1) (by simp) (by omega)
      rw [hs3l] at this
      simpa [IV] using this
    refine apP_rd TI64 (x := ⟨some ⟨w3.heap.size, 0, none⟩, 1, 1⟩) (he3.chg hc4 fun _ _ h => h) hr4 (fun h => by cases h) (IV_one _) (by simp [ends]; omega) (by simp [ends]; omega) fun s5 w5 ho5 hl5 hg5 _ => ?_
    rw [← IV_append, ← ends_succ] at ho5
    have hc4' : Chg Nil w w4 := hc3.step hc4 fun _ _ h => h
    have ho4 : Own w4 5 1 s3 (U8 (row kk ms (i + 1))) := ho3.chg hc4 fun _ _ h => h
    rw [wrap_i64 (by omega)]
    refine hnext _ _ ⟨i + 1, by simp, hlt, ho4.gr hg5 hD3.symm, ho5, hg5.nil hc4' hE1, hN3, hE1.gr hg5 hc4'.size, ((hD3.symm.gr hg5 ho4.lt)).symm⟩ (by simp; omega)
  · have hge : i = ms.length := by simp [hxl] at h; omega
    subst hge
    have hall : all.l = (row kk ms ms.length).length := by have := ho1.rd.len; simpa using this
    have hrN := hrow ms.length (Nat.le_refl _)
    have e1 : IntKind.u64.wrap (IntKind.i64.wrap ((all.l : Int) + 1)) = (((row kk ms ms.length).length + 1 : Nat) : Int) := by
      rw [wrap_i64 (by omega), wrap_u64 (by omega)]; omega
    obtain ⟨n, hne, hnlt⟩ := place_of cut ((row kk ms ms.length).length + 1) (by omega)
    have ew : IntKind.i64.wrap (n : Int) = (n : Int) := wrap_i64 (by omega)
    simp only [e1, hne, ew]
    refine ⟨by omega, ?_⟩
    refine loopP_inv (fun st w2 => ∃ i : Nat, st.1 = ((row kk ms i).length : Int) ∧ st.2.1 = (i : Int) ∧ i ≤ ms.length ∧ (row kk ms i).length ≤ n ∧ Chg Nil w w2 ∧ Chg Nil w1 w2)
      (fun st _ => ms.length - st.2.1.toNat) ⟨0, rfl, rfl, Nat.zero_le _, Nat.zero_le _, hc1, Chg.refl _ _⟩ ?_
    rintro ⟨at0, i0, u⟩ w2 next2 ⟨i, rfl, rfl, hi, hin, hc2, hc12⟩ hnext2
    simp only
    have hall2 : Rd w2 all (U8 (row kk ms ms.length)) := ho1.rd.chg hc12 fun _ _ h => h
    refine iteB_intro (fun h => ?_) (fun h => ?_)
    · have hlt : i < ms.length := by simp [hxl] at h; omega
      refine hall2.sl (l := 0) (u := n) rfl rfl (by omega) (by simp; omega) fun p hp _ => ?_
      rw [U8_part, List.drop_zero, Nat.sub_zero] at hp
      obtain ⟨r, hr⟩ := row_cut kk ms hlt
      have hmi := hm i
      refine opened_ok (ht.chg hc2 fun h => h) (by simpa using hp) (by simp; omega) fun l w3 ho3 hc3 hN3 hl3 hnil3 => ?_
      have hc3' : Chg Nil w w3 := hc2.step hc3 fun _ _ h => h
      have hlast : (row kk ms (i + 1)).length = (row kk ms i).length + ((ms.getD i []).length + 13) := by rw [row_succ, List.length_append, sealed_length]
      have hend : Rd w3 es (IV (ends kk ms ms.length)) := (he1.rd.chg hc12 fun _ _ h => h).chg hc3 fun _ _ h => h
      have hendi : ∀ (w' : World), Chg Nil w3 w' → ∀ K : Int → Prop, K ((row kk ms (i + 1)).length : Int) → idxP es.a es.l (i : Int) 1 fun a => ldI .i64 a w' K := fun w' hc' K hK => by
        refine (hend.chg hc' fun _ _ h => h).idx (by omega) (by simp [ends]; omega) fun ad had => ldI_of ?_ hK
        rw [had]
        simp [IV, ends, hlt]
      refine hendi w3 (Chg.refl _ _) _ ?_
      refine iteB_intro (fun h => ?_) (fun h => ?_)
      · have hgt : n < (row kk ms (i + 1)).length := by simp at h; omega
        have hop : opened ((row kk ms ms.length).take n) ((row kk ms i).length : Int) = bad 10 := by
          unfold opened
          rw [if_neg (by simp; omega), Int.toNat_natCast, List.drop_take, hr, List.drop_left]
          exact openedAt_torn r (by omega) (by omega)
        rw [hop] at hl3 ⊢
        refine iteB_pos rfl (iteB_pos rfl (iteB_pos (by rw [hl3]; rfl) ⟨by trivial, hc3'⟩))
      · have hle : (row kk ms (i + 1)).length ≤ n := by simp at h; omega
        have hop : opened ((row kk ms ms.length).take n) ((row kk ms i).length : Int) = ⟨kk i, ms.getD i [], ((row kk ms i).length : Int) + (ms.getD i []).length + 13, 0⟩ := by
          have h1 : (row kk ms ms.length).take n = row kk ms i ++ (sealed (kk i) (ms.getD i []) ++ r.take (n - (row kk ms (i + 1)).length)) := by
            rw [hr, List.take_append, List.take_of_length_le hin, List.take_append, List.take_of_length_le (by rw [sealed_length]; omega), sealed_length, hlast, Nat.sub_sub]
          rw [h1]
          exact opened_sealed _ _ (by omega)
        rw [hop] at ho3 hl3 ⊢
        refine iteB_neg rfl (iteB_neg (by rw [hkk i]; simp) ?_)
        refine hx.at hc3' hlt fun ad s had hs hsn => ldS_of had ?_
        refine same_ok (xs := ms.getD i []) ho3.rd hs (by omega) fun w4 hd4 => ?_
        refine iteB_neg (by simp) ?_
        refine hendi w4 (hd4.chg _) _ ?_
        refine iteB_neg (by rw [hlast]; simp; omega) ?_
        rw [wrap_i64 (by omega)]
        refine hnext2 _ _ ⟨i + 1, by simp only [hlast]; omega, by simp, hlt, hle, hc3'.step (hd4.chg Nil) fun _ _ h => h, (hc12.step hc3 fun _ _ h => h).step (hd4.chg Nil) fun _ _ h => h⟩ (by simp; omega)
    · have hge : i = ms.length := by simp [hxl] at h; omega
      subst hge
      refine hall2.sl (l := 0) (u := n) rfl rfl (by omega) (by simp; omega) fun p hp _ => ?_
      rw [U8_part, List.drop_zero, Nat.sub_zero] at hp
      refine opened_ok (ht.chg hc2 fun h => h) (by simpa using hp) (by simp; omega) fun l w3 ho3 hc3 hN3 hl3 hnil3 => ?_
      have hop : opened ((row kk ms ms.length).take n) ((row kk ms ms.length).length : Int) = bad 10 := by
        unfold opened
        rw [if_neg (by simp; omega), Int.toNat_natCast, List.drop_eq_nil_of_le (by simp; omega)]
        rfl
      rw [hop]
      exact ⟨by trivial, hc2.step hc3 fun _ _ h => h⟩
end Go.Proofs.YtmadhcoeiclalaaDoor
