/- VGiv: a call copied with marks behind each list. -/
import Derived.Test.YtlkgnfpjmafdkaaVmC
set_option linter.unusedVariables false
set_option linter.unusedSimpArgs false
namespace Go.Pl
open Go Go.Sh Go.RowKit
theorem apX {P : Program} {t e ty : TypeId} {z : Value} {size bytes : Nat} (T : ElT P t e z size bytes) {w : World} {s x : Slc} {vs news : List Value} {K : Slc → World → Prop}
    (hs : Own w e size s vs) (hx : RdQ w size x news) (hn : x.a = none → x.l = 0 ∧ x.c = 0) (h1 : ∀ u ∈ news, u.oneCell' = true) (hl : s.l + x.l ≤ 140737488355328) (hb : (s.l + x.l) * bytes ≤ 140737488355328)
    (hK : ∀ s' w', Own w' e size s' (vs ++ news) → s'.l = s.l + x.l → Gr s w s' w' → K s' w') : apP P #[t, t] ty [.slice s.a s.l s.c, .slice x.a x.l x.c] w K := by
  refine apP_own T hs hn hx.len (fun ad ha j u hu => ?_) h1 hb (by omega) fun s' w' ho hl' hc hblk hsz hnil => ?_
  · obtain ⟨ad', ha', hx⟩ := hx.at_ j u hu
    rw [ha] at ha'; cases ha'
    exact hx
  · refine hK s' w' ho hl' ⟨hc, fun b hb => ?_⟩
    rcases hblk with h | h
    · exact .inl (h ▸ hb)
    · rw [h] at hb; cases hb; exact .inr (Nat.le_refl _)
theorem own0 {w : World} {k : Nat} {e : TypeId} {size : Nat} (h : Blk w k #[] e) : Own w e size ⟨some ⟨k, 0, none⟩, 0, 0⟩ [] := ⟨by simp, .inr ⟨k, 0, #[], rfl, Nat.zero_le _, h, Nat.le_refl _, by unfold maxLen; omega, by simp, by simp⟩⟩
theorem Blk.rdQ1 {w : World} {k : Nat} {cells : Array Value} {e : TypeId} {size : Nat} (h : Blk w k cells e) (hs : cells.size = size) : RdQ w size ⟨some ⟨k, 0, none⟩, 1, 1⟩ cells.toList := ⟨by simp [hs], Nat.le_refl _, fun j v hv => ⟨_, rfl, by rw [add_mk, Nat.zero_add, h.cell]; simpa using hv⟩⟩
/-- A list copied, with one more behind it: in each order that the memory may be made in. -/
theorem ord3 {P : Program} {t e ty : TypeId} {z : Value} {size bytes : Nat} (T : ElT P t e z size bytes) {cells cur : Array Value} {w : World} {k1 o : Nat} {tb : TypeId} {x : Slc} {news : List Value} {N : Slc → World → Prop}
    (hcs : cells.size = size) (hc1 : ∀ u ∈ cells.toList, u.oneCell' = true) (hb1 : Blk w k1 cur tb) (hcell : cur[o]? = some (.slice x.a x.l x.c)) (hx : RdQ w size x news) (hn : x.a = none → x.l = 0 ∧ x.c = 0) (h1 : ∀ u ∈ news, u.oneCell' = true) (hl : x.l + 1 ≤ 140737488355328) (hb : (x.l + 1) * bytes ≤ 140737488355328)
    (hN : ∀ s w', Own w' e size s (news ++ cells.toList) → s.l = x.l + 1 → Ch [] w w' → Ge w.heap.size (blkOf s) → N s w') :
    (newP #[] e w fun a19 w20 => w20.cell? ((⟨k1, 0, none⟩ : Addr).add o) = some (.slice x.a x.l x.c) ∧ w20.cell? ((⟨k1, 0, none⟩ : Addr).add o) = some (.slice x.a x.l x.c) ∧
      ((apP P #[t, t] ty [.slice (some a19) 0 0, .slice x.a x.l x.c] w20 fun s22 w21 => w21.cell? ((⟨k1, 0, none⟩ : Addr).add o) = some (.slice x.a x.l x.c) ∧
        (newP cells e w21 fun a23 w24 => w24.cell? ((⟨k1, 0, none⟩ : Addr).add o) = some (.slice x.a x.l x.c) ∧ (apP P #[t, t] ty [.slice s22.a s22.l s22.c, .slice (some a23) 1 1] w24 fun s26 w25 => w25.cell? ((⟨k1, 0, none⟩ : Addr).add o) = some (.slice x.a x.l x.c) ∧ N s26 w25))) ∧
      (newP cells e w20 fun a80 w81 => w81.cell? ((⟨k1, 0, none⟩ : Addr).add o) = some (.slice x.a x.l x.c) ∧ w81.cell? ((⟨k1, 0, none⟩ : Addr).add o) = some (.slice x.a x.l x.c) ∧
        (apP P #[t, t] ty [.slice (some a19) 0 0, .slice x.a x.l x.c] w81 fun s83 w82 => w82.cell? ((⟨k1, 0, none⟩ : Addr).add o) = some (.slice x.a x.l x.c) ∧ (apP P #[t, t] ty [.slice s83.a s83.l s83.c, .slice (some a80) 1 1] w82 fun s85 w84 => w84.cell? ((⟨k1, 0, none⟩ : Addr).add o) = some (.slice x.a x.l x.c) ∧ N s85 w84))))) ∧
    (newP cells e w fun a111 w112 => w112.cell? ((⟨k1, 0, none⟩ : Addr).add o) = some (.slice x.a x.l x.c) ∧ w112.cell? ((⟨k1, 0, none⟩ : Addr).add o) = some (.slice x.a x.l x.c) ∧
      (newP #[] e w112 fun a113 w114 => w114.cell? ((⟨k1, 0, none⟩ : Addr).add o) = some (.slice x.a x.l x.c) ∧ w114.cell? ((⟨k1, 0, none⟩ : Addr).add o) = some (.slice x.a x.l x.c) ∧
        (apP P #[t, t] ty [.slice (some a113) 0 0, .slice x.a x.l x.c] w114 fun s116 w115 => w115.cell? ((⟨k1, 0, none⟩ : Addr).add o) = some (.slice x.a x.l x.c) ∧ (apP P #[t, t] ty [.slice s116.a s116.l s116.c, .slice (some a111) 1 1] w115 fun s118 w117 => w117.cell? ((⟨k1, 0, none⟩ : Addr).add o) = some (.slice x.a x.l x.c) ∧ N s118 w117)))) := by
  have q : ∀ {w'}, Ch [] w w' → w'.cell? ((⟨k1, 0, none⟩ : Addr).add o) = some (.slice x.a x.l x.c) := fun hc => by rw [add_mk, Nat.zero_add, (hb1.ch0 hc).cell]; exact hcell
  -- the first append, onto the empty list at k
  have first : ∀ {k : Nat} {w1 : World} {K : Slc → World → Prop}, Ch [] w w1 → Blk w1 k #[] e → w.heap.size ≤ k → (∀ s w', Own w' e size s news → s.l = x.l → Ch [] w w' → Ge w.heap.size (blkOf s) → Ch [some k] w1 w' → Fm w1.heap.size (some k) (blkOf s) → K s w') → apP P #[t, t] ty [.slice (some ⟨k, 0, none⟩) 0 0, .slice x.a x.l x.c] w1 K := fun {k w1 K} hc hbk hk hK => by
    refine apX T (s := ⟨some ⟨k, 0, none⟩, 0, 0⟩) (own0 hbk) (hx.ch0 hc) hn h1 (by show 0 + x.l ≤ _; omega) (by show (0 + x.l) * bytes ≤ _; rw [Nat.zero_add]; exact Nat.le_trans (Nat.mul_le_mul_right _ (Nat.le_succ _)) hb) fun s' w' ho hl' hg => ?_
    obtain ⟨g1, g2⟩ := hg.ch
    rw [List.nil_append] at ho
    refine hK s' w' ho (by simpa using hl') (hc.trN g1 hk) (fun j hj => ?_) g1 g2
    rcases g2 j hj with h | h
    · cases h; exact hk
    · have := hc.size; omega
  -- the second one
  have second : ∀ {s : Slc} {k : Nat} {w1 : World}, Ch [] w w1 → Own w1 e size s news → s.l = x.l → Ge w.heap.size (blkOf s) → Blk w1 k cells e → apP P #[t, t] ty [.slice s.a s.l s.c, .slice (some ⟨k, 0, none⟩) 1 1] w1 fun s26 w25 => w25.cell? ((⟨k1, 0, none⟩ : Addr).add o) = some (.slice x.a x.l x.c) ∧ N s26 w25 := fun {s k w1} hc ho hsl hgs hbk => by
    refine apX T (x := ⟨some ⟨k, 0, none⟩, 1, 1⟩) ho (hbk.rdQ1 hcs) (fun h => by cases h) hc1 (by show s.l + 1 ≤ _; omega) (by show (s.l + 1) * bytes ≤ _; rw [hsl]; exact hb) fun s' w' ho' hl' hg => ?_
    obtain ⟨g1, g2⟩ := hg.ch
    have hc' := hc.trO g1 hgs
    refine ⟨q hc', hN s' w' ho' (by rw [hl', hsl]) hc' fun j hj => ?_⟩
    rcases g2 j hj with h | h
    · exact hgs j h
    · have := hc.size; omega
  refine ⟨newB fun k2 w2 hc2 hb2 hk2 hs2 => ⟨q hc2, q hc2, ?_, ?_⟩, newB fun k2 w2 hc2 hb2 hk2 hs2 => ⟨q hc2, q hc2, ?_⟩⟩
  · refine first hc2 hb2 (by omega) fun s w3 ho hsl hc hg _ _ => ⟨q hc, newB fun k4 w4 hc4 hb4 hk4 hs4 => ⟨q (hc.tr hc4), ?_⟩⟩
    exact second (hc.tr hc4) (ho.ch0 hc4) hsl hg hb4
  · refine newB fun k3 w3 hc3 hb3 hk3 hs3 => ⟨q (hc2.tr hc3), q (hc2.tr hc3), ?_⟩
    have hlt := hb2.below
    refine first (hc2.tr hc3) (hb2.ch0 hc3) (by omega) fun s w4 ho hsl hc hg hck _ => ⟨q hc, ?_⟩
    exact second hc ho hsl hg (hb3.ch hck (nin1' (by omega)))
  · refine newB fun k3 w3 hc3 hb3 hk3 hs3 => ⟨q (hc2.tr hc3), q (hc2.tr hc3), ?_⟩
    have hlt := hb2.below
    refine first (hc2.tr hc3) hb3 (by have := hc2.size; omega) fun s w4 ho hsl hc hg hck _ => ⟨q hc, ?_⟩
    exact second hc ho hsl hg ((hb2.ch0 hc3).ch hck (nin1' (by omega)))
end Go.Pl
namespace Go.Proofs.Ytlkgnfpjmafdkaa
open Go Go.Sh Go.Pl Go.RowKit Go.Lang Go.Vm Go.Gt
/-- A call of its own, with marks behind each list. -/
structure Gn (w : World) (E : En) (s sa sr : Slc) : Prop where
  oc : Own w 60 2 ⟨s.a, s.l + 1, s.c⟩ (flat E.is ++ [.int .i64 (-3), .int .i64 0])
  oa : Own w 2 1 ⟨sa.a, sa.l + 1, sa.c⟩ (Is .i64 E.args ++ [.int .i64 (-4)])
  oR : Own w 58 2 ⟨sr.a, sr.l + 1, sr.c⟩ (flatR E.rs ++ [.bool false, .int .i64 (-5)])
  lc : s.l = E.is.length
  la : sa.l = E.args.length
  lr : sr.l = E.rs.length
  nc : s.a ≠ none
  na : sa.a ≠ none
  nr : sr.a ≠ none
/-- Three lists in blocks of their own, all of them new. -/
structure New3 (n : Nat) (s sa sr : Slc) : Prop where
  g1 : Ge n (blkOf s)
  g2 : Ge n (blkOf sa)
  g3 : Ge n (blkOf sr)
  d1 : Dj (blkOf s) (blkOf sa)
  d2 : Dj (blkOf s) (blkOf sr)
  d3 : Dj (blkOf sa) (blkOf sr)
theorem Gn.ch0 {w w' : World} {E : En} {s sa sr : Slc} (h : Gn w E s sa sr) (hc : Ch [] w w') : Gn w' E s sa sr := ⟨h.oc.ch0 hc, h.oa.ch0 hc, h.oR.ch0 hc, h.lc, h.la, h.lr, h.nc, h.na, h.nr⟩
theorem Gn.gv {w0 w : World} {E : En} {s sa sr s0 a0 r0 : Slc} (h : Gn w E s sa sr) (g : Gv w0 E s0 a0 r0) : Gv w E s sa sr := by
  have c1 := h.oc.pre' (r := s) rfl rfl (by show s.l ≤ s.l + 1; omega) h.nc
  have c2 := h.oa.pre' (r := sa) rfl rfl (by show sa.l ≤ sa.l + 1; omega) h.na
  have c3 := h.oR.pre' (r := sr) rfl rfl (by show sr.l ≤ sr.l + 1; omega) h.nr
  rw [List.take_append_of_le_length (by rw [flat_length, h.lc]; exact Nat.le_refl _), List.take_of_length_le (by rw [flat_length, h.lc]; exact Nat.le_refl _)] at c1
  rw [List.take_append_of_le_length (by rw [Is_length, h.la]; omega), List.take_of_length_le (by rw [Is_length, h.la]; omega)] at c2
  rw [List.take_append_of_le_length (by rw [flatR_length, h.lr]; exact Nat.le_refl _), List.take_of_length_le (by rw [flatR_length, h.lr]; exact Nat.le_refl _)] at c3
  exact ⟨c1.rdC2, fun hn => absurd hn h.nc, c2.rdQ, fun hn => absurd hn h.na, c3.rdQ, fun hn => absurd hn h.nr, g.big, h.la, h.lr, g.ba, g.br, g.b16, g.b8⟩
theorem slF {s : Slc} {n : Nat} {i : Int} {sz : Nat} {K : Option Addr → Nat → Nat → Prop} (hi : i = (n : Int)) (hc : n ≤ s.c) (hK : K s.a n s.c) : slP s.a s.l s.c none (some i) sz K := by
  subst hi
  unfold slP
  simp only [Option.getD_none, Option.getD_some, Int.toNat_zero, Nat.zero_mul, Nat.sub_zero, Int.toNat_natCast]
  refine ⟨by omega, by omega, by omega, ?_⟩
  have e : (if s.c = 0 then s.a else s.a.map (·.add 0)) = s.a := by
    split
    · rfl
    · cases s.a <;> rfl
  rw [e]
  exact hK
set_option maxRecDepth 8000 in
set_option maxHeartbeats 4000000 in
theorem given_ok {E : En} {s sa sr : Slc} {w : World} {K : Int → Int → Int → Int → Slc → Slc → Slc → World → Prop} (hG : Gv w E s sa sr)
    (hK : ∀ s' sa' sr' w', Gn w' E s' sa' sr' → Ch [] w w' → New3 w.heap.size s' sa' sr' → K E.a E.b E.c E.d s' sa' sr' w') : c_preludelaw05_given E.a E.b E.c E.d s sa sr w K := by
  refine sim_preludelaw05_given ?_
  unfold sh_preludelaw05_given
  have lc := hG.rc.len
  have la := hG.la
  have lr := hG.lr
  have b16 := hG.b16
  have b8 := hG.b8
  have br := hG.br
  refine newB fun k1 w1 hc1 hb1 hk1 hs1 => newB fun k3 w2 hc2 hb3 hk3 hs2 => newB fun k5 w3 hc3 hb5 hk5 hs3 => ?_
  have hb1 := (hb1.ch0 hc2).ch0 hc3
  have hb3 := hb3.ch0 hc3
  have c03 := (hc1.tr hc2).tr hc3
  refine ldI_b (o := 0) hb1 rfl (ldI_b hb1 rfl (ldI_b hb1 rfl (ldI_b hb1 rfl (ldS_b (s := s) hb1 rfl ?_))))
  refine stB (o := 0) hb5 (by simp) fun u1 d1 g1 _ => stB g1 (by simp) fun u2 d2 g2 _ => stB g2 (by simp) fun u3 d3 g3 _ => stB g3 (by simp) fun u4 d4 g4 _ => stB g4 (by simp) fun u5 d5 g5 z5 => ?_
  replace g5 : Blk u5 k5 #[.int .i64 E.a, .int .i64 E.b, .int .i64 E.c, .int .i64 E.d, .slice s.a s.l s.c, .slice none 0 0, .slice none 0 0] _ := g5
  have d15 := (((d1.tr d2).tr d3).tr d4).tr d5
  have hb1 := hb1.ch d15 (nin1' (by omega))
  have hb3 := hb3.ch d15 (nin1' (by omega))
  have c05 : Ch [] w u5 := c03.trN d15 (by omega)
  clear g1 g2 g3 g4 d1 d2 d3 d4 d5
  have k3lt := hb3.below
  have k5lt := g5.below
  have k1lt := hb1.below
  have e1 : Ch [] u5 u5.drew := Ch.drew _
  have zd1 : u5.drew.heap.size = u5.heap.size := rfl
  have hb1 := hb1.ch0 e1
  refine ldS_b (s := s) hb1 rfl (ldS_b (s := s) hb1 rfl ?_)
  refine ord3 TIn (cells := #[.int .i64 (-3), .int .i64 0]) rfl (by simp; exact ⟨rfl, rfl⟩) hb1 rfl (hG.rc.rdQ.ch0 (c05.tr e1)) hG.nc (flat_one _) (by omega) (by omega) fun s1 w4 ho1 hl1 hc4 hg4 => ?_
  have lt1 := ho1.lt
  have hb1 := hb1.ch0 hc4
  have hb3 := (hb3.ch0 e1).ch0 hc4
  have g5 := (g5.ch0 e1).ch0 hc4
  have c1 : s.l + 1 ≤ s1.c := by have := ho1.rdQ.cap; omega
  refine slF (n := s.l) rfl (by omega) ?_
  refine stB g5 (by simp) fun w5 hc5 g5 z5' => ?_
  replace g5 : Blk w5 k5 #[.int .i64 E.a, .int .i64 E.b, .int .i64 E.c, .int .i64 E.d, .slice s1.a s.l s1.c, .slice none 0 0, .slice none 0 0] _ := g5
  have ho1 := ho1.ch hc5 fun k hk => nin1' (by have := hg4 k hk; omega)
  have hb1 := hb1.ch hc5 (nin1' (by omega))
  have hb3 := hb3.ch hc5 (nin1' (by omega))
  have c06 : Ch [] w w5 := ((c05.tr e1).tr hc4).trN hc5 (by omega)
  have e2 : Ch [] w5 w5.drew := Ch.drew _
  have hb1 := hb1.ch0 e2
  have zz4 := hc4.size
  have zd2 : w5.drew.heap.size = w5.heap.size := rfl
  refine ldS_b (s := sa) hb1 rfl (ldS_b (s := sa) hb1 rfl ?_)
  refine ord3 TI6 (cells := #[.int .i64 (-4)]) rfl (by simp; rfl) hb1 rfl (hG.ra.ch0 (c06.tr e2)) hG.na (Is_one _ _) (by omega) (by omega) fun s2 w6 ho2 hl2 hc6 hg6 => ?_
  have lt2 := ho2.lt
  have hb1 := hb1.ch0 hc6
  have hb3 := (hb3.ch0 e2).ch0 hc6
  have g5 := (g5.ch0 e2).ch0 hc6
  have ho1 := (ho1.ch0 e2).ch0 hc6
  have c2 : sa.l + 1 ≤ s2.c := by have := ho2.rdQ.cap; omega
  refine slF (n := sa.l) rfl (by omega) ?_
  refine stB g5 (by simp) fun w7 hc7 g5 z7' => ?_
  replace g5 : Blk w7 k5 #[.int .i64 E.a, .int .i64 E.b, .int .i64 E.c, .int .i64 E.d, .slice s1.a s.l s1.c, .slice s2.a sa.l s2.c, .slice none 0 0] _ := g5
  have ho1 := ho1.ch hc7 fun k hk => nin1' (by have := hg4 k hk; omega)
  have ho2 := ho2.ch hc7 fun k hk => nin1' (by have := hg6 k hk; omega)
  have hb1 := hb1.ch hc7 (nin1' (by omega))
  have hb3 := hb3.ch hc7 (nin1' (by omega))
  have c08 : Ch [] w w7 := ((c06.tr e2).tr hc6).trN hc7 (by omega)
  have e3 : Ch [] w7 w7.drew := Ch.drew _
  have hb1 := hb1.ch0 e3
  have zz6 := hc6.size
  have zd3 : w7.drew.heap.size = w7.heap.size := rfl
  refine ldS_b (s := sr) hb1 rfl (ldS_b (s := sr) hb1 rfl ?_)
  refine ord3 TCe (cells := #[.bool false, .int .i64 (-5)]) rfl (by simp; exact ⟨rfl, rfl⟩) hb1 rfl (hG.rr.ch0 (c08.tr e3)) hG.nr (flatR_one _) (by omega) (by omega) fun s3 w8 ho3 hl3 hc8 hg8 => ?_
  have hb3 := (hb3.ch0 e3).ch0 hc8
  have g5 := (g5.ch0 e3).ch0 hc8
  have ho1 := (ho1.ch0 e3).ch0 hc8
  have ho2 := (ho2.ch0 e3).ch0 hc8
  have c3 : sr.l + 1 ≤ s3.c := by have := ho3.rdQ.cap; omega
  refine slF (n := sr.l) rfl (by omega) ?_
  refine stB g5 (by simp) fun w9 hc9 g5 z9' => ?_
  replace g5 : Blk w9 k5 #[.int .i64 E.a, .int .i64 E.b, .int .i64 E.c, .int .i64 E.d, .slice s1.a s.l s1.c, .slice s2.a sa.l s2.c, .slice s3.a sr.l s3.c] _ := g5
  have ho1 := ho1.ch hc9 fun k hk => nin1' (by have := hg4 k hk; omega)
  have ho2 := ho2.ch hc9 fun k hk => nin1' (by have := hg6 k hk; omega)
  have ho3 := ho3.ch hc9 fun k hk => nin1' (by have := hg8 k hk; omega)
  have hb3 := hb3.ch hc9 (nin1' (by omega))
  have c10 : Ch [] w w9 := ((c08.tr e3).tr hc8).trN hc9 (by omega)
  refine ldI_b (o := 0) g5 rfl (ldI_b g5 rfl (ldI_b g5 rfl (ldI_b g5 rfl (ldS_b (s := ⟨s1.a, s.l, s1.c⟩) g5 rfl (ldS_b (s := ⟨s2.a, sa.l, s2.c⟩) g5 rfl (ldS_b (s := ⟨s3.a, sr.l, s3.c⟩) g5 rfl ?_))))))
  refine stB (o := 0) hb3 (by simp) fun v1 d1 j1 _ => stB j1 (by simp) fun v2 d2 j2 _ => stB j2 (by simp) fun v3 d3 j3 _ => stB j3 (by simp) fun v4 d4 j4 _ => stB j4 (by simp) fun v5 d5 j5 _ => stB j5 (by simp) fun v6 d6 j6 _ => stB j6 (by simp) fun v7 d7 j7 _ => ?_
  replace j7 : Blk v7 k3 #[.int .i64 E.a, .int .i64 E.b, .int .i64 E.c, .int .i64 E.d, .slice s1.a s.l s1.c, .slice s2.a sa.l s2.c, .slice s3.a sr.l s3.c] _ := j7
  have d17 := (((((d1.tr d2).tr d3).tr d4).tr d5).tr d6).tr d7
  refine ldI_b (o := 0) j7 rfl (ldI_b j7 rfl (ldI_b j7 rfl (ldI_b j7 rfl (ldS_b (s := ⟨s1.a, s.l, s1.c⟩) j7 rfl (ldS_b (s := ⟨s2.a, sa.l, s2.c⟩) j7 rfl (ldS_b (s := ⟨s3.a, sr.l, s3.c⟩) j7 rfl ?_))))))
  have ho1 := ho1.ch d17 fun k hk => nin1' (by have := hg4 k hk; omega)
  have ho2 := ho2.ch d17 fun k hk => nin1' (by have := hg6 k hk; omega)
  have ho3 := ho3.ch d17 fun k hk => nin1' (by have := hg8 k hk; omega)
  have n1 : s1.a ≠ none := fun hn => by have := (ho1.none0 hn).1; omega
  have n2 : s2.a ≠ none := fun hn => by have := (ho2.none0 hn).1; omega
  have n3 : s3.a ≠ none := fun hn => by have := (ho3.none0 hn).1; omega
  have f1 : s1 = ⟨s1.a, s.l + 1, s1.c⟩ := by rw [← hl1]
  have f2 : s2 = ⟨s2.a, sa.l + 1, s2.c⟩ := by rw [← hl2]
  have f3 : s3 = ⟨s3.a, sr.l + 1, s3.c⟩ := by rw [← hl3]
  refine hK ⟨s1.a, s.l, s1.c⟩ ⟨s2.a, sa.l, s2.c⟩ ⟨s3.a, sr.l, s3.c⟩ v7 ⟨?_, ?_, ?_, lc, la, lr, n1, n2, n3⟩ (c10.trN d17 (by omega)) ?_
  · show Own v7 _ 2 ⟨s1.a, s.l + 1, s1.c⟩ _
    rw [← f1]; exact ho1
  · show Own v7 _ 1 ⟨s2.a, sa.l + 1, s2.c⟩ _
    rw [← f2]; exact ho2
  · show Own v7 _ 2 ⟨s3.a, sr.l + 1, s3.c⟩ _
    rw [← f3]; exact ho3
  · have q0 := c05.size
    refine ⟨fun k hk => ?_, fun k hk => ?_, fun k hk => ?_, fun k hk h2 => ?_, fun k hk h2 => ?_, fun k hk h2 => ?_⟩
    · have := hg4 k hk; omega
    · have := hg6 k hk; omega
    · have := hg8 k hk; omega
    · have := lt1 k hk; have := hg6 k h2; omega
    · have := lt1 k hk; have := hg8 k h2; omega
    · have := lt2 k hk; have := hg8 k h2; omega
end Go.Proofs.Ytlkgnfpjmafdkaa
