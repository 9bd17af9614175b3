/- One: the law LangOne. -/
import Derived.Test.YtgpdecfcjpblgaaRound
import Derived.Test.YtgpdecfcjpblgaaWaysB
set_option linter.unusedVariables false
set_option linter.unusedSimpArgs false
namespace Go.Lang
open Go.Num
theorem putT_err {a b c d : Int} {l : List Ins} (h : (putT a b c d l).2 ≠ 0) : (putT a b c d l).1 = [] := by
  unfold putT at h ⊢
  split
  · rfl
  · rename_i h1
    rw [if_neg h1] at h
    split
    · rfl
    · rename_i h2
      rw [if_neg h2] at h
      exact absurd rfl h
theorem putT_ok {a b c d : Int} {l : List Ins} (h : (putT a b c d l).2 = 0) : okP a b c d l.length = true ∧ l.all opOk = true ∧ (putT a b c d l).1 = hdB (hdI a b c d l.length) ++ l.flatMap insB := by
  unfold putT at h ⊢
  split
  · rename_i h1; rw [if_pos h1] at h; simp at h
  · rename_i h1
    rw [if_neg h1] at h
    split
    · rename_i h2; rw [if_pos h2] at h; simp at h
    · rename_i h2
      exact ⟨by simpa using h1, by simpa using h2, rfl⟩
theorem rdT_of_put {bs r : List UInt8} {at_ : Nat} {a b c d : Int} {l : List (Int × Int)} (h : (putT a b c d l).2 = 0) (h64 : I64 l) (hd : bs.drop at_ = (putT a b c d l).1 ++ r) : rdT bs at_ 0 = (⟨a, b, c, d, l⟩, at_ + (putT a b c d l).1.length, 0) := by
  obtain ⟨h1, h2, h3⟩ := putT_ok h
  rw [h3] at hd ⊢
  exact rdT_put h1 h2 h64 hd
theorem rBytes_enc {bs x r : List UInt8} {at_ : Nat} {most : Int} (hd : bs.drop at_ = encU x.length ++ (x ++ r)) (hx : x.length < 18446744073709551616) (hm : (x.length : Int) ≤ most) : rBytes bs at_ 0 most = (x, at_ + (encU x.length ++ x).length, 0) := by
  have hne : encU x.length ≠ [] := fun h => by have := encU_pos x.length; rw [h] at this; simp at this
  have h1 := drop_len hd hne
  have h2 := drop_app hd
  have h3 := congrArg List.length h2
  simp at h3
  unfold rBytes
  rw [if_neg (by simp), hd, dnum_encU x.length _ hx]
  simp only []
  rw [if_neg (by simp), if_neg (by omega), if_neg (by omega), h2, List.take_left']
  · simp only [List.length_append, Prod.mk.injEq, and_true, true_and]; omega
  · rfl
end Go.Lang
namespace Go.Proofs.Ytgpdecfcjpblgaa
open Go Go.Sh Go.Pl Go.RowKit Go.Lang Go.Names Go.Num Go.Gt
set_option maxRecDepth 20000 in
set_option maxHeartbeats 2000000 in
theorem law_LangOne {a b c d : Int} {s : Slc} {ms : Mo insG} {a' b' c' d' : Int} {s' : Slc} {ms' : Mo insG} {x : Slc} {bs : List UInt8} {w : World} (w0 : (Lit.int .i64 a).wf = true) (w1 : (Lit.int .i64 b).wf = true) (w2 : (Lit.int .i64 c).wf = true) (w3 : (Lit.int .i64 d).wf = true)
    (k4 : Gt.Rep reachBytes w insG [.slice s.a s.l s.c] ms) (w5 : (Lit.int .i64 a').wf = true) (w6 : (Lit.int .i64 b').wf = true) (w7 : (Lit.int .i64 c').wf = true) (w8 : (Lit.int .i64 d').wf = true)
    (k9 : Gt.Rep reachBytes w insG [.slice s'.a s'.l s'.c] ms') (r10 : Rd w x (U8 bs)) (n10 : x.a = none → x.l = 0 ∧ x.c = 0) (z10 : x.c ≤ reachBytes)
    (hb : bulk (.pair pgG (.pair pgG (.pair .bytes .unit))) (⟨a, b, c, d, ms, ()⟩, ⟨a', b', c', d', ms', ()⟩, bs, ()) ≤ 1048576) :
    c_preludelaw03_LangOne a b c d s a' b' c' d' s' x w fun r w' => r = true ∧ Chg Nil w w' := by
  refine sim_preludelaw03_LangOne ?_
  unfold sh_preludelaw03_LangOne
  have hbl : bs.length ≤ 1048576 := by
    have : bulk pgG (a, b, c, d, ms, ()) + (bulk pgG (a', b', c', d', ms', ()) + ((bs.length + 1) + 0)) ≤ 1048576 := hb
    omega
  clear hb
  obtain ⟨hs, h64, hsn, hsc⟩ := rep_code k4
  obtain ⟨ht, h64', htn, htc⟩ := rep_code k9
  have hre : reachBytes = 140737488351232 := rfl
  have ls := hs.len
  have lt := ht.len
  have cs := hs.cap
  have ct := ht.cap
  have lx := r10.len
  simp only [U8_length] at lx
  generalize code ms = is at *
  generalize code ms' = it at *
  refine newB fun k1 w1 hc1 hb1 hk1 hs1 => ?_
  refine newB fun k2 w2 hc2 hb2 hk2 hs2 => ?_
  replace hb1 := hb1.ch0 hc2
  replace hc2 := hc1.tr hc2
  refine awake_ok fun w3 hc3 => iteB_neg rfl ?_
  replace hb1 := hb1.ch0 hc3
  replace hb2 := hb2.ch0 hc3
  replace hc3 := hc2.tr hc3
  have q1 := hb1.below
  have q2 := hb2.below
  refine new_ok fun w4 hw4 (hc4 : Ch [] w3 w4) hs4 => ?_
  have n0 := hc3.size
  replace hb1 := hb1.ch0 hc4
  replace hb2 := hb2.ch0 hc4
  replace hc4 := hc3.tr hc4
  generalize w3.heap.size = bw at *
  have gn : Ge w.heap.size (blkOf ⟨none, 0, 0⟩) := fun k h => by cases h
  refine wbytes_ok hw4 (r10.ch0 hc4) n10 (fun hne k hk => ⟨by have := r10.lt (by simpa [U8] using hne) k hk; omega, fun h => by cases h⟩) (by simp; omega) fun s5 w5 hw5 hst5 => ?_
  rw [List.nil_append] at hw5
  have hc5 : Ch [] w w5 := hc4.tr2 hst5.ch.1 n0 gn
  have hbw : ∀ {q : Nat} {sw : Slc} {wa wb : World}, q < bw → Ge w4.heap.size (blkOf sw) → ¬ inL [some bw, blkOf sw] q := fun h1 h2 hin => by
    rcases (show some _ = some bw ∨ some _ = blkOf _ from hin) with h | h
    · cases h; omega
    · have := h2 _ h.symm; omega
  have g5 : Ge w4.heap.size (blkOf s5) := fun k hk => (hst5.blk k hk).elim (fun h => by cases h) id
  have e10 := encU_ten bs.length (by omega)
  replace hb1 := hb1.ch hst5.ch.1 (hbw (wa := w) (wb := w) q1 (fun k h => by cases h))
  replace hb2 := hb2.ch hst5.ch.1 (hbw (wa := w) (wb := w) q2 (fun k h => by cases h))
  have z4 : w.heap.size ≤ w4.heap.size := hc4.size
  have g5' : Ge w.heap.size (blkOf s5) := fun k hk => by have := g5 k hk; omega
  refine wlen_ok hw5 ?_
  refine ldPr (s := s) hb1 ?_
  refine put_ok hw5 (fun w' hc' => hs.ch0 (hc5.tr2 hc' n0 g5')) h64 (by rw [List.length_append]; omega) fun s6 w6 hw6 hst6 => ?_
  have hc6 : Ch [] w w6 := hc5.tr2 hst6.ch.1 n0 g5'
  have g6 : Ge w4.heap.size (blkOf s6) := fun k hk => (hst6.blk k hk).elim (g5 k) fun h => by have := hst5.ch.1.size; omega
  have g6' : Ge w.heap.size (blkOf s6) := fun k hk => by have := g6 k hk; omega
  replace hb1 := hb1.ch hst6.ch.1 (hbw (wa := w) (wb := w) q1 g5)
  replace hb2 := hb2.ch hst6.ch.1 (hbw (wa := w) (wb := w) q2 g5)
  have hp1 := putT_len (a := a) (b := b) (c := c) (d := d) h64
  have hp2 := putT_len (a := a') (b := b') (c := c') (d := d') h64'
  have hP := fun (h : (putT a b c d is).2 ≠ 0) => putT_err h
  have hQ := fun (h : (putT a' b' c' d' it).2 ≠ 0) => putT_err h
  have hR := fun {bs r : List UInt8} {at_ : Nat} (h : (putT a b c d is).2 = 0) (hd : bs.drop at_ = (putT a b c d is).1 ++ r) => rdT_of_put h h64 hd
  have hR' := fun {bs r : List UInt8} {at_ : Nat} (h : (putT a' b' c' d' it).2 = 0) (hd : bs.drop at_ = (putT a' b' c' d' it).1 ++ r) => rdT_of_put h h64' hd
  refine wlen_ok hw6 ?_
  refine ldPr (s := s') hb2 ?_
  refine put_ok hw6 (fun w' hc' => ht.ch0 (hc6.tr2 hc' n0 g6')) h64' (by rw [List.length_append, List.length_append]; omega) fun s7 w7 hw7 hst7 => ?_
  have hc7 : Ch [] w w7 := hc6.tr2 hst7.ch.1 n0 g6'
  replace hb1 := hb1.ch hst7.ch.1 (hbw (wa := w) (wb := w) q1 g6)
  replace hb2 := hb2.ch hst7.ch.1 (hbw (wa := w) (wb := w) q2 g6)
  have z7 : bw < w7.heap.size := hw7.blk.lt
  generalize putT a b c d is = P at *
  generalize putT a' b' c' d' it = Q at *
  obtain ⟨p, ep⟩ := P
  obtain ⟨q, eq⟩ := Q
  dsimp only at *
  clear hst5 hst6 hst7 hw5 hw6 hbw g5 g5' g6 g6' hc5 hc6 hc4 hw4
  refine ⟨fun _ w' => w' = w7, ?_, ?_⟩
  rotate_left
  · dsimp only
    have f2 : iteB (eq != 0) (c_codec_Writer_Len (some ⟨bw, 0, none⟩) w7 fun r32 w33 => iteB ((((encU bs.length ++ bs ++ p).length : Nat) : Int) != r32) (false = true ∧ Chg Nil w w33) (w33 = w7)) (w7 = w7) := by
      refine iteB_ne (fun h => ?_) (fun _ => rfl)
      have hq := hQ h
      subst hq
      exact wlen_ok hw7 (iteB_neg (by simp) rfl)
    refine iteB_ne (fun h => ?_) (fun _ => f2)
    have hp := hP h
    subst hp
    exact iteB_neg (by simp) f2
  rintro _ w8 rfl
  refine wout_ok hw7 (by simp only [List.length_append]; omega) fun s9 w9 ho9 (hc9 : Ch [] w8 w9) hn9 hl9 _ => ?_
  have z9 := hc9.size
  replace hb1 := hb1.ch0 hc9
  replace hb2 := hb2.ch0 hc9
  replace hc9 := hc7.tr hc9
  refine read_ok ho9.rd (by simp only [List.length_append]; omega) fun br sr w10 hr10 (hc10 : Ch [] w9 w10) hbr hsr hsrl => ?_
  replace hb1 := hb1.ch0 hc10
  replace hb2 := hb2.ch0 hc10
  replace hc10 := hc9.tr hc10
  generalize hW : (encU bs.length ++ bs ++ p) ++ q = W at *
  have hd0 : W.drop 0 = encU bs.length ++ (bs ++ (p ++ q)) := by rw [← hW, List.drop_zero]; simp only [List.append_assoc]
  have hrb := rBytes_enc (most := (x.l : Int)) hd0 (by omega) (by omega)
  rw [Nat.zero_add] at hrb
  refine rbytes_ok hr10 (by omega) fun l w11 hr11 hol hc11 hnl hll _ => ?_
  rw [hrb] at hr11 hol
  replace hc11 := Ch.of1 hc11
  have z11 := hc11.size
  have n1 : k1 ≠ br := by omega
  have n2 : k2 ≠ br := by omega
  replace hb1 := hb1.ch hc11 (nin1 n1)
  replace hb2 := hb2.ch hc11 (nin1 n2)
  have hbrw : w.heap.size ≤ br := by omega
  replace hc11 := hc10.trN hc11 hbrw
  refine sameBytes_ok hol.rd (r10.ch0 hc11) (by simp only []; omega) fun w12 hc12 => iteB_neg (by simp) ?_
  have z12 := hc12.size
  replace hb1 := hb1.ch0 hc12
  replace hb2 := hb2.ch0 hc12
  replace hr11 := hr11.ch0 hc12
  replace hc12 := hc11.tr hc12
  dsimp only at hr11
  have hd1 : W.drop (encU bs.length ++ bs).length = p ++ (q ++ []) := by
    rw [List.append_nil]
    exact (by have := drop_app (x := encU bs.length ++ bs) (r := p ++ q) (i := 0) (bs := W) (by rw [hd0]; simp only [List.append_assoc]); rwa [Nat.zero_add] at this)
  have hd2 := drop_app hd1
  have hlen : (encU bs.length ++ bs).length + p.length + q.length = W.length := by rw [← hW]; simp only [List.length_append]
  generalize (encU bs.length ++ bs).length = A at *
  have cells : ∀ {w' : World} {k : Nat} {a b c d : Int} {s : Slc}, Blk w' k #[.int .i64 a, .int .i64 b, .int .i64 c, .int .i64 d, .slice s.a s.l s.c] 29 → (w'.cell? ⟨k, 0, none⟩ = some (.int .i64 a) ∧ w'.cell? ((⟨k, 0, none⟩ : Addr).add 1) = some (.int .i64 b) ∧ w'.cell? ((⟨k, 0, none⟩ : Addr).add 2) = some (.int .i64 c) ∧ w'.cell? ((⟨k, 0, none⟩ : Addr).add 3) = some (.int .i64 d) ∧ w'.cell? ((⟨k, 0, none⟩ : Addr).add 4) = some (.slice s.a s.l s.c) ∧ True) := fun h => by
    simp only [add_mk, h.cell]
    exact ⟨rfl, rfl, rfl, rfl, rfl, trivial⟩
  have hsr0 : Lt w12.heap.size (blkOf sr) := fun k hk => by have := hsrl k hk; omega
  clear hd0 hW hrb ho9 hol hw7
  refine ⟨fun _ w' => Rr w' br sr W (A + p.length) 0 ∧ Ch [] w w' ∧ Blk w' k2 #[.int .i64 a', .int .i64 b', .int .i64 c', .int .i64 d', .slice s'.a s'.l s'.c] 29 ∧ w12.heap.size ≤ w'.heap.size, ?_, ?_⟩
  rotate_left
  · have dn := Ch.drew w12
    refine iteB_eq (fun h => ?_) (fun h => ?_)
    · refine ldPr (s := s) (hb1.ch0 dn) ?_
      refine get_ok (hr11.ch0 dn) (fun _ => hsr0) fun sl w13 hr13 ho13 hc13 hg13 => ?_
      rw [hR h hd1] at hr13 ho13 ⊢
      dsimp only at hr13 ho13 ⊢
      have hb13 := (hb1.ch0 dn).ch hc13 (nin1 n1)
      have hb23 := (hb2.ch0 dn).ch hc13 (nin1 n2)
      have z13 := hc13.size
      have z12d := dn.size
      have hc13' := (hc12.tr dn).trN hc13 hbrw
      refine ⟨cells hb13, ?_⟩
      refine sameProgram_ok ho13.rdC (hs.ch0 hc13') (by omega) fun w14 (hc14 : Ch [] w13 w14) => iteB_neg rfl ?_
      have z14 := hc14.size
      exact ⟨hr13.ch0 hc14, hc13'.tr hc14, hb23.ch0 hc14, by omega⟩
    · have hp := hP h
      subst hp
      exact ⟨hr11.ch0 dn, hc12.tr dn, hb2.ch0 dn, Nat.le_refl _⟩
  rintro _ w13 ⟨hr13, hc13, hb13, hz13⟩
  have dn := Ch.drew w13
  refine ⟨fun _ w' => Rr w' br sr W (A + p.length + q.length) 0 ∧ Ch [] w w', ?_, ?_⟩
  rotate_left
  · refine iteB_eq (fun h => ?_) (fun h => ?_)
    · refine ldPr (s := s') (hb13.ch0 dn) ?_
      refine get_ok (hr13.ch0 dn) (fun _ k hk => by have h1 := hsr0 k hk; have h2 := dn.size; omega) fun sl w14 hr14 ho14 hc14 hg14 => ?_
      rw [hR' h hd2] at hr14 ho14 ⊢
      dsimp only at hr14 ho14 ⊢
      have hb14 := (hb13.ch0 dn).ch hc14 (nin1 n2)
      have hc14' := (hc13.tr dn).trN hc14 hbrw
      refine ⟨cells hb14, ?_⟩
      refine sameProgram_ok ho14.rdC (ht.ch0 hc14') (by omega) fun w15 (hc15 : Ch [] w14 w15) => iteB_neg rfl ?_
      exact ⟨hr14.ch0 hc15, hc14'.tr hc15⟩
    · have hq := hQ h
      subst hq
      exact ⟨hr13.ch0 dn, hc13.tr dn⟩
  rintro _ w14 ⟨hr14, hc14⟩
  refine rend_ok hr14 fun w15 hd15 => ?_
  have hc15 : Ch [] w14 w15 := hd15.chg Nil
  refine ⟨?_, (hc14.tr hc15 : Ch [] w w15)⟩
  unfold rEnd
  rw [if_pos rfl, if_neg (by omega)]
  rfl
end Go.Proofs.Ytgpdecfcjpblgaa
