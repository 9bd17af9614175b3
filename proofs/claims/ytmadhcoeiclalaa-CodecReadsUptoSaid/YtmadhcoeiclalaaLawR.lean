/- LawR: two Readers and the document's two, and the book: a script's call read; the law CodecReads. -/
import Derived.Test.YtmadhcoeiclalaaLawX
import Derived.Test.YtmadhcoeiclalaaMr
set_option linter.unusedVariables false
set_option linter.unusedSimpArgs false
namespace Go.Num
theorem rRaw_len {bs : List UInt8} {at_ : Nat} {e n : Int} : (rRaw bs at_ e n).1.length ≤ bs.length := by
  unfold rRaw
  repeat' split
  all_goals (simp; try omega)
theorem rBytes_len {bs : List UInt8} {at_ : Nat} {e most : Int} : (rBytes bs at_ e most).1.length ≤ bs.length := by
  unfold rBytes
  split
  · simp
  · rcases dnum 0 0 (bs.drop at_) with ⟨n, k, d⟩
    simp only
    repeat' split
    all_goals (simp; try omega)
end Go.Num
namespace Go.Proofs.Ytmadhcoeiclalaa
open Go Go.Sh Go.Pl Go.RowKit Go.Num Go.Gt
def rob (br bm : Nat → Nat) (sr sm : Nat → Slc) (pr pm : Nat) : Nat → Slc := fun p => if p < 2 then mkb (br p) else if p < 4 then mkb (bm (p - 2)) else if p < 6 then sr (p - 4) else if p < 8 then sm (p - 6) else if p = 8 then mkb pr else mkb pm
section
variable {w0 w w' : World} {pr pm bk : Nat} {br bm : Nat → Nat} {sr sm : Nat → Slc} {bs : Nat → List UInt8} {ar am : Nat → Nat} {er em : Nat → Int} {n : Nat} {F : Nat → Prop} {B : Prop}
theorem rob_r {t : Nat} (h : t < 2) : blkOf (rob br bm sr sm pr pm t) = some (br t) := by unfold rob; rw [if_pos h]; rfl
theorem rob_m {t : Nat} (h : t < 2) : blkOf (rob br bm sr sm pr pm (t + 2)) = some (bm t) := by unfold rob; rw [if_neg (by omega), if_pos (by omega)]; rfl
theorem rob_sr {t : Nat} (h : t < 2) : rob br bm sr sm pr pm (t + 4) = sr t := by unfold rob; rw [if_neg (by omega), if_neg (by omega), if_pos (by omega)]; congr 1
theorem rob_sm {t : Nat} (h : t < 2) : rob br bm sr sm pr pm (t + 6) = sm t := by unfold rob; rw [if_neg (by omega), if_neg (by omega), if_neg (by omega), if_pos (by omega)]; congr 1
theorem rob_cases {p : Nat} (h : p < 10) : p < 2 ∨ (∃ t, t < 2 ∧ p = t + 2) ∨ (∃ t, t < 2 ∧ p = t + 4) ∨ (∃ t, t < 2 ∧ p = t + 6) ∨ p = 8 ∨ p = 9 := by
  by_cases h1 : p < 2
  · exact .inl h1
  by_cases h2 : p < 4
  · exact .inr (.inl ⟨p - 2, by omega, by omega⟩)
  by_cases h3 : p < 6
  · exact .inr (.inr (.inl ⟨p - 4, by omega, by omega⟩))
  by_cases h4 : p < 8
  · exact .inr (.inr (.inr (.inl ⟨p - 6, by omega, by omega⟩)))
  · omega
structure TR (w0 w : World) (pr pm bk : Nat) (br bm : Nat → Nat) (sr sm : Nat → Slc) (bs : Nat → List UInt8) (ar am : Nat → Nat) (er em : Nat → Int) (n : Nat) (F : Nat → Prop) (B : Prop) : Prop where
  rr : ∀ t, t < 2 → Rr w (br t) (sr t) (bs t) (ar t) (er t)
  mr : ∀ t, t < 2 → Mr w (bm t) (sm t) (bs t) (am t) (em t)
  ptr : Blk w pr #[.pointer (some ⟨br 0, 0, none⟩), .pointer (some ⟨br 1, 0, none⟩)] 47
  ptm : Blk w pm #[.pointer (some ⟨bm 0, 0, none⟩), .pointer (some ⟨bm 1, 0, none⟩)] 52
  bkk : B → BkZ w bk n F
  sep : Sep 10 (rob br bm sr sm pr pm)
  out : ∀ p, p < 10 → ∀ k, blkOf (rob br bm sr sm pr pm p) = some k → ¬ F k
  lt : ∀ p, p < 10 → ∀ k, blkOf (rob br bm sr sm pr pm p) = some k → k < w.heap.size
  nil : Chg Nil w0 w
  new : ∀ p, p < 10 → ∀ k, blkOf (rob br bm sr sm pr pm p) = some k → w0.heap.size ≤ k
  newB : ∀ k, F k → w0.heap.size ≤ k
theorem TR.nil' (h : TR w0 w pr pm bk br bm sr sm bs ar am er em n F B) (hc : Chg Nil w w') : TR w0 w' pr pm bk br bm sr sm bs ar am er em n F B :=
  ⟨fun t ht => (h.rr t ht).nil hc, fun t ht => (h.mr t ht).nil hc, h.ptr.chg hc fun h => h, h.ptm.chg hc fun h => h, (fun hB => (h.bkk hB).chg hc fun _ _ h => h), h.sep, h.out, fun p hp k hk => Nat.lt_of_lt_of_le (h.lt p hp k hk) hc.size, chgNN h.nil hc, h.new, h.newB⟩
theorem TR.book {n' : Nat} {F' : Nat → Prop} {B' : Prop} (h : TR w0 w pr pm bk br bm sr sm bs ar am er em n F B) (hc : Chg F w w') (hb : B' → BkZ w' bk n' F') (hF : ∀ k, F' k → F k ∨ (w0.heap.size ≤ k ∧ ∀ p, p < 10 → blkOf (rob br bm sr sm pr pm p) ≠ some k)) : TR w0 w' pr pm bk br bm sr sm bs ar am er em n' F' B' :=
  ⟨fun t ht => (h.rr t ht).chg hc (h.out t (by omega) _ (rob_r ht)) fun k hk => h.out (t + 4) (by omega) k (by rw [rob_sr ht]; exact hk), fun t ht => (h.mr t ht).chg hc (h.out (t + 2) (by omega) _ (rob_m ht)) fun k hk => h.out (t + 6) (by omega) k (by rw [rob_sm ht]; exact hk),
   h.ptr.chg hc (h.out 8 (by omega) _ rfl), h.ptm.chg hc (h.out 9 (by omega) _ rfl), hb, h.sep, fun p hp k hk hk' => by
    rcases hF k hk' with h1 | ⟨_, h1⟩
    · exact h.out p hp k hk h1
    · exact h1 p hp hk, fun p hp k hk => Nat.lt_of_lt_of_le (h.lt p hp k hk) hc.size, h.nil.step hc fun i hi he => by have := h.newB i he; omega, h.new, fun k hk => by
    rcases hF k hk with h1 | ⟨h1, _⟩
    · exact h.newB k h1
    · exact h1⟩
theorem TR.readR {t a : Nat} {x : Int} (h : TR w0 w pr pm bk br bm sr sm bs ar am er em n F B) (ht : t < 2) (hr : Rr w' (br t) (sr t) (bs t) a x) (hc : Chg (Of (br t)) w w') : TR w0 w' pr pm bk br bm sr sm bs (upd ar t a) am (upd er t x) em n F B := by
  have d : ∀ p, p < 10 → p ≠ t → ∀ k, blkOf (rob br bm sr sm pr pm p) = some k → ¬ (k = br t) := fun p hp h1 k hk he => h.sep.dis hp (q := t) (by omega) h1 hk (by rw [rob_r ht, he])
  refine ⟨fun r hr' => ?_, fun r hr' => (h.mr r hr').chg hc (d (r + 2) (by omega) (by omega) _ (rob_m hr')) fun k hk => d (r + 6) (by omega) (by omega) k (by rw [rob_sm hr']; exact hk), h.ptr.chg hc (d 8 (by omega) (by omega) _ rfl), h.ptm.chg hc (d 9 (by omega) (by omega) _ rfl),
    (fun hB => (h.bkk hB).chg hc fun k hk he => h.out t (by omega) k (by rw [rob_r ht, show k = br t from he]) hk), h.sep, h.out, fun p hp k hk => Nat.lt_of_lt_of_le (h.lt p hp k hk) hc.size, h.nil.step hc fun i hi he => by have := h.new t (by omega) i (by rw [rob_r ht, show i = br t from he]); omega, h.new, h.newB⟩
  by_cases hrt : r = t
  · subst hrt; rw [upd_eq, upd_eq]; exact hr
  · rw [upd_ne hrt, upd_ne hrt]
    exact (h.rr r hr').chg hc (d r (by omega) hrt _ (rob_r hr')) fun k hk => d (r + 4) (by omega) (by omega) k (by rw [rob_sr hr']; exact hk)
theorem TR.readM {t a : Nat} {x : Int} (h : TR w0 w pr pm bk br bm sr sm bs ar am er em n F B) (ht : t < 2) (hr : Mr w' (bm t) (sm t) (bs t) a x) (hc : Chg (Of (bm t)) w w') : TR w0 w' pr pm bk br bm sr sm bs ar (upd am t a) er (upd em t x) n F B := by
  have d : ∀ p, p < 10 → p ≠ t + 2 → ∀ k, blkOf (rob br bm sr sm pr pm p) = some k → ¬ (k = bm t) := fun p hp h1 k hk he => h.sep.dis hp (q := t + 2) (by omega) h1 hk (by rw [rob_m ht, he])
  refine ⟨fun r hr' => (h.rr r hr').chg hc (d r (by omega) (by omega) _ (rob_r hr')) fun k hk => d (r + 4) (by omega) (by omega) k (by rw [rob_sr hr']; exact hk), fun r hr' => ?_, h.ptr.chg hc (d 8 (by omega) (by omega) _ rfl), h.ptm.chg hc (d 9 (by omega) (by omega) _ rfl),
    (fun hB => (h.bkk hB).chg hc fun k hk he => h.out (t + 2) (by omega) k (by rw [rob_m ht, show k = bm t from he]) hk), h.sep, h.out, fun p hp k hk => Nat.lt_of_lt_of_le (h.lt p hp k hk) hc.size, h.nil.step hc fun i hi he => by have := h.new (t + 2) (by omega) i (by rw [rob_m ht, show i = bm t from he]); omega, h.new, h.newB⟩
  by_cases hrt : r = t
  · subst hrt; rw [upd_eq, upd_eq]; exact hr
  · rw [upd_ne hrt, upd_ne hrt]
    exact (h.mr r hr').chg hc (d (r + 2) (by omega) (by omega) _ (rob_m hr')) fun k hk => d (r + 6) (by omega) (by omega) k (by rw [rob_sm hr']; exact hk)
theorem TR.slt (h : TR w0 w pr pm bk br bm sr sm bs ar am er em n F B) {t : Nat} (ht : t < 2) : ∀ k, blkOf (sm t) = some k → k < w.heap.size := fun k hk => h.lt (t + 6) (by omega) k (by rw [rob_sm ht]; exact hk)
def Same2 (ar am : Nat → Nat) (er em : Nat → Int) : Prop := ∀ t, t < 2 → ar t = am t ∧ er t = em t
theorem same2_upd {t a : Nat} {x : Int} (h : Same2 ar am er em) : Same2 (upd ar t a) (upd am t a) (upd er t x) (upd em t x) := fun r hr => by
  by_cases hrt : r = t
  · subst hrt; simp [upd_eq]
  · simp [upd_ne hrt, h r hr]
set_option maxRecDepth 20000 in
theorem readcall_ok {o : OpM} {sl : Slc} {t : Nat} {K : Bool → World → Prop} (h : TR w0 w pr pm bk br bm sr sm bs ar am er em n F True) (ht : t < 2) (hs : Same2 ar am er em) (hn : n ≤ 100000000) (g0 : (Lit.int .i64 o.1).wf = true) (g1 : (Lit.int .u64 o.2.1).wf = true) (g3 : (Lit.int .i64 o.2.2.2.1).wf = true)
    (hK : ∀ w' ar' am' er' em' n' F', TR w0 w' pr pm bk br bm sr sm bs ar' am' er' em' n' F' True → Same2 ar' am' er' em' → n' ≤ n + 1 → K true w') :
    c_preludelaw01_read (some ⟨br t, 0, none⟩) (some ⟨bm t, 0, none⟩) o.1 o.2.1 sl o.2.2.2.1 o.2.2.2.2.1 (some ⟨bk, 0, none⟩) w K := by
  refine sim_preludelaw01_read ?_
  unfold sh_preludelaw01_read
  obtain ⟨o0, o1, xs, o3, o4, ⟨⟩⟩ := o
  simp only at g0 g1 g3 ⊢
  have g0 := wf_i64 g0
  have g1 := wf_u64 g1
  have g3 := wf_i64 g3
  obtain ⟨m, rfl⟩ : ∃ m : Nat, o1 = (m : Int) := ⟨o1.toNat, by omega⟩
  refine newP_intro fun w1 hc1 hb1 hs1 => ?_
  have cell : ∀ {w' : World} {o : Nat} {v : Value}, Blk w' w.heap.size #[.int .i64 o0, .int .u64 (m : Int), .slice sl.a sl.l sl.c, .int .i64 o3, .bool o4] 34 → (#[.int .i64 o0, .int .u64 (m : Int), .slice sl.a sl.l sl.c, .int .i64 o3, .bool o4] : Array Value)[o]? = some v → w'.cell? ((⟨w.heap.size, 0, none⟩ : Addr).add o) = some v := fun hb hv => by rw [add_mk, Nat.zero_add, hb.cell]; exact hv
  have dr : ∀ w : World, Chg Nil w w.drew := fun w => (Drw.refl w).drew.chg _
  have h1 := h.nil' hc1
  have hlt := h.lt
  have cr : w.heap.size ≠ br t := fun he => by have := hlt t (by omega) _ (rob_r ht); omega
  have cm : w.heap.size ≠ bm t := fun he => by have := hlt (t + 2) (by omega) _ (rob_m ht); omega
  obtain ⟨ea, ee⟩ := hs t ht
  refine ldI_of (cell (o := 0) hb1 rfl) ?_
  have kind : ∀ {k : Int}, (o0 == k) = true → o0 = k := fun h => by simpa using h
  have nkind : ∀ {k : Int}, (o0 == k) = false → o0 ≠ k := fun h => by simpa using h
  -- both answer alike
  have fin : ∀ {w2 w3 : World} {a : Nat} {x : Int}, TR w0 w2 pr pm bk br bm sr sm bs (upd ar t a) am (upd er t x) em n F True → Mr w3 (bm t) (sm t) (bs t) a x → Chg (Of (bm t)) w2 w3 → ∃ am' em', TR w0 w3 pr pm bk br bm sr sm bs (upd ar t a) am' (upd er t x) em' n F True ∧ Same2 (upd ar t a) am' (upd er t x) em' := fun h2 hm hc =>
    ⟨_, _, h2.readM ht hm hc, same2_upd hs⟩
  refine iteB_intro (fun k1 => ?_) (fun k1 => ?_)
  · refine rbyte_ok (h1.rr t ht) fun w2 hr2 hc2 => ?_
    have h2 := h1.readR ht hr2 hc2
    refine mbyte_ok (h2.mr t ht) (h2.slt ht) fun w3 hr3 hc3 => ?_
    rw [← ea, ← ee] at hr3 ⊢
    obtain ⟨am', em', h3, s3⟩ := fin h2 hr3 hc3
    have := hK w3 _ _ _ _ _ _ h3 s3 (by omega)
    simpa using this
  have k1 := nkind k1
  refine iteB_intro (fun k2 => ?_) (fun k2 => ?_)
  · refine ruintN_ok (h1.rr t ht) fun w2 hr2 hc2 => ?_
    have h2 := h1.readR ht hr2 hc2
    refine muint_ok (h2.mr t ht) fun w3 hr3 hc3 => ?_
    rw [← ea, ← ee] at hr3 ⊢
    obtain ⟨am', em', h3, s3⟩ := fin h2 hr3 hc3
    have := hK w3 _ _ _ _ _ _ h3 s3 (by omega)
    simpa using this
  have k2 := nkind k2
  refine iteB_intro (fun k3 => ?_) (fun k3 => ?_)
  · refine rint_ok (h1.rr t ht) fun w2 hr2 hc2 => ?_
    have h2 := h1.readR ht hr2 hc2
    refine mint_ok (h2.mr t ht) fun w3 hr3 hc3 => ?_
    rw [← ea, ← ee] at hr3 ⊢
    obtain ⟨am', em', h3, s3⟩ := fin h2 hr3 hc3
    have := hK w3 _ _ _ _ _ _ h3 s3 (by omega)
    simpa using this
  have k3 := nkind k3
  refine iteB_intro (fun k6 => ?_) (fun k6 => ?_)
  · have h1d := h1.nil' (dr w1)
    have hb1d := hb1.chg (dr w1) fun h => h
    refine ldI_of (cell (o := 1) hb1d rfl) (ldI_of (cell (o := 1) hb1d rfl) ?_)
    refine rupto_ok (h1d.rr t ht) fun w2 hr2 hc2 => ?_
    have h2 := h1d.readR ht hr2 hc2
    refine ⟨cell (o := 1) (hb1d.chg hc2 cr) rfl, ?_⟩
    refine mupto_ok (h2.mr t ht) fun w3 hr3 hc3 => ?_
    rw [← ea, ← ee] at hr3 ⊢
    obtain ⟨am', em', h3, s3⟩ := fin h2 hr3 hc3
    have := hK w3 _ _ _ _ _ _ h3 s3 (by omega)
    simpa using this
  have k6 := nkind k6
  have putsame : ∀ {w2 w3 : World} {l lm : Slc} {res : List UInt8} {a : Nat} {x : Int}, Own w2 5 1 l (U8 res) → NewS w1.heap.size l → res.length ≤ 140737488351232 → TR w0 w2 pr pm bk br bm sr sm bs (upd ar t a) am (upd er t x) em n F True → w1.heap.size ≤ w2.heap.size → Mr w3 (bm t) (sm t) (bs t) a x → Chg (Of (bm t)) w2 w3 → Own w3 5 1 lm (U8 res) → NewS w2.heap.size lm →
      c_preludelaw01_book_put (some ⟨bk, 0, none⟩) l w3 fun w29 => c_preludelaw01_same l lm w29 fun r30 w31 => K r30 w31 := fun {w2 w3 l lm res a x} ho2 hn2 hlr h2 hsz hm hc3 ho3 hn3 => by
    obtain ⟨am', em', h3, s3⟩ := fin h2 hm hc3
    have hl2 := ho2.lt
    have hbm : bm t < w1.heap.size := h1.lt (t + 2) (by omega) _ (rob_m ht)
    have ho2' := ho2.chg hc3 fun k hk he => by have := hn2 k hk; have : k = bm t := he; omega
    have hF1 := (h1.bkk trivial).lt
    refine putZ_ok (h3.bkk trivial) ho2' hlr (fun k hk hF => by have := hn2 k hk; have := hF1 k hF; omega) (by omega) fun F4 w4 hb4 hc4 hF4 => ?_
    have h4 := h3.book (B' := True) hc4 (fun _ => hb4) fun k hk => by
      rcases hF4 k hk with q | q | q
      · exact .inl q
      · exact .inr ⟨by have := hn2 k q; have := h1.nil.size; omega, fun p hp he => by have := h1.lt p hp k he; have := hn2 k q; omega⟩
      · exact .inr ⟨by have := h3.nil.size; omega, fun p hp he => by have := h3.lt p hp k he; omega⟩
    have ho4 := ho2'.chg hc4 fun k hk hF => by have := hn2 k hk; have := hF1 k hF; omega
    have hm4 := ho3.chg hc4 fun k hk hF => by have := hn3 k hk; have := hF1 k hF; omega
    refine same_ok ho4.rd hm4.rd (by omega) fun w5 hd5 => ?_
    have := hK w5 _ _ _ _ _ _ (h4.nil' (hd5.chg Nil)) s3 (by omega)
    simpa using this
  have few := (h1.rr t ht).few
  have bytes : ldI .i64 ((⟨w.heap.size, 0, none⟩ : Addr).add 3) w1 fun n23 => c_codec_Reader_Bytes (some ⟨br t, 0, none⟩) n23 w1 fun r24 w25 => ldI .i64 ((⟨w.heap.size, 0, none⟩ : Addr).add 3) w25 fun n26 => c_preluderef01_Reader_Bytes (some ⟨bm t, 0, none⟩) n26 w25 fun r27 w28 => c_preludelaw01_book_put (some ⟨bk, 0, none⟩) r24 w28 fun w29 => c_preludelaw01_same r24 r27 w29 fun r30 w31 => K r30 w31 := by
    refine ldI_of (cell (o := 3) hb1 rfl) ?_
    refine rbytes_ok (h1.rr t ht) g3.2 fun l w2 hr2 ho2 hc2 hn2 _ _ => ?_
    have h2 := h1.readR ht hr2 hc2
    refine ldI_of (cell (o := 3) (hb1.chg hc2 cr) rfl) ?_
    refine mbytes_ok (h2.mr t ht) g3.2 (h2.slt ht) fun lm w3 hr3 ho3 hc3 hn3 => ?_
    rw [← ea, ← ee] at hr3 ho3
    exact putsame ho2 hn2 (Nat.le_trans rBytes_len few) h2 hc2.size hr3 hc3 ho3 hn3
  have raw : ldI .i64 ((⟨w.heap.size, 0, none⟩ : Addr).add 3) w1 fun n23 => c_codec_Reader_Raw (some ⟨br t, 0, none⟩) n23 w1 fun r24 w25 => ldI .i64 ((⟨w.heap.size, 0, none⟩ : Addr).add 3) w25 fun n26 => c_preluderef01_Reader_Raw (some ⟨bm t, 0, none⟩) n26 w25 fun r27 w28 => c_preludelaw01_book_put (some ⟨bk, 0, none⟩) r24 w28 fun w29 => c_preludelaw01_same r24 r27 w29 fun r30 w31 => K r30 w31 := by
    refine ldI_of (cell (o := 3) hb1 rfl) ?_
    refine rraw_ok (h1.rr t ht) g3.2 fun l w2 hr2 ho2 hc2 hn2 _ _ => ?_
    have h2 := h1.readR ht hr2 hc2
    refine ldI_of (cell (o := 3) (hb1.chg hc2 cr) rfl) ?_
    refine mraw_ok (h2.mr t ht) g3.2 (h2.slt ht) fun lm w3 hr3 ho3 hc3 hn3 => ?_
    rw [← ea, ← ee] at hr3 ho3
    exact putsame ho2 hn2 (Nat.le_trans rRaw_len few) h2 hc2.size hr3 hc3 ho3 hn3
  have fail : ldI .i64 ((⟨w.heap.size, 0, none⟩ : Addr).add 3) w1 fun n41 => c_codec_Reader_Fail (some ⟨br t, 0, none⟩) n41 w1 fun w42 => ldI .i64 ((⟨w.heap.size, 0, none⟩ : Addr).add 3) w42 fun n43 => c_preluderef01_Reader_Fail (some ⟨bm t, 0, none⟩) n43 w42 fun w44 => K true w44 := by
    refine ldI_of (cell (o := 3) hb1 rfl) ?_
    refine rfail_ok (h1.rr t ht) fun w2 hr2 hc2 => ?_
    have h2 := h1.readR ht hr2 hc2
    refine ldI_of (cell (o := 3) (hb1.chg hc2 cr) rfl) ?_
    refine mfail_ok (h2.mr t ht) fun w3 hr3 hc3 => ?_
    rw [← ea, ← ee] at hr3
    obtain ⟨am', em', h3, s3⟩ := fin h2 hr3 hc3
    exact hK w3 _ _ _ _ _ _ h3 s3 (by omega)
  have endd : c_codec_Reader_End (some ⟨br t, 0, none⟩) w1 fun r45 w46 => c_preluderef01_Reader_End (some ⟨bm t, 0, none⟩) w46 fun r47 w48 => K ((r45 : Int) == r47) w48 := by
    refine rend_ok (h1.rr t ht) fun w2 hd2 => ?_
    have h2 := h1.nil' (hd2.chg Nil)
    refine mend_ok (h2.mr t ht) fun w3 hd3 => ?_
    rw [← ea, ← ee]
    have := hK w3 _ _ _ _ _ _ (h2.nil' (hd3.chg Nil)) hs (by omega)
    simpa using this
  have none' : K true w1 := hK w1 _ _ _ _ _ _ h1 hs (by omega)
  refine iteB_intro (fun k4 => ?_) (fun k4 => ?_)
  · refine iteB_pos k4 ?_
    refine ldI_of (cell (o := 0) hb1 rfl) ?_
    exact iteB_pos k4 bytes
  have k4' := k4
  have k4 := nkind k4
  refine iteB_intro (fun k5 => ?_) (fun k5 => ?_)
  · refine ldI_of (cell (o := 0) hb1 rfl) ?_
    exact iteB_neg k4' raw
  refine iteB_intro (fun k7 => fail) (fun k7 => ?_)
  exact iteB_intro (fun k8 => endd) (fun k8 => none')
theorem TR.pcell (h : TR w0 w pr pm bk br bm sr sm bs ar am er em n F B) {t : Nat} {T' : Int} (hT : T' = (t : Int)) (ht : t < 2) : w.cell? ((⟨pr, 0, none⟩ : Addr).add (Int.toNat T' * 1)) = some (.pointer (some ⟨br t, 0, none⟩)) := by
  subst hT
  rw [add_mk, h.ptr.cell, Int.toNat_natCast]
  obtain rfl | rfl : t = 0 ∨ t = 1 := by omega
  · rfl
  · rfl
theorem TR.mcell (h : TR w0 w pr pm bk br bm sr sm bs ar am er em n F B) {t : Nat} {T' : Int} (hT : T' = (t : Int)) (ht : t < 2) : w.cell? ((⟨pm, 0, none⟩ : Addr).add (Int.toNat T' * 1)) = some (.pointer (some ⟨bm t, 0, none⟩)) := by
  subst hT
  rw [add_mk, h.ptm.cell, Int.toNat_natCast]
  obtain rfl | rfl : t = 0 ∨ t = 1 := by omega
  · rfl
  · rfl
set_option maxRecDepth 20000 in
theorem rstep {o : OpM} {sl : Slc} {cb t : Nat} {T' : Int} {K : Bool → World → Prop} {next : World → Prop} (h : TR w0 w pr pm bk br bm sr sm bs ar am er em n F True) (hT : T' = (t : Int)) (ht : t < 2) (hs : Same2 ar am er em) (hn : n ≤ 100000000)
    (hcb : Blk w cb #[.int .i64 o.1, .int .u64 o.2.1, .slice sl.a sl.l sl.c, .int .i64 o.2.2.2.1, .bool o.2.2.2.2.1] 34) (g0 : (Lit.int .i64 o.1).wf = true) (g1 : (Lit.int .u64 o.2.1).wf = true) (g3 : (Lit.int .i64 o.2.2.2.1).wf = true)
    (hK : ∀ w' ar' am' er' em' n' F', TR w0 w' pr pm bk br bm sr sm bs ar' am' er' em' n' F' True → Same2 ar' am' er' em' → n' ≤ n + 1 → next w') :
    arrP 2 T' (ldP ((⟨pr, 0, none⟩ : Addr).add (Int.toNat T' * 1)) w.drew fun p65 => arrP 2 T' (ldP ((⟨pm, 0, none⟩ : Addr).add (Int.toNat T' * 1)) w.drew fun p66 => ldI .i64 (⟨cb, 0, none⟩ : Addr) w.drew fun n67 => ldI .u64 ((⟨cb, 0, none⟩ : Addr).add 1) w.drew fun n68 => ldS ((⟨cb, 0, none⟩ : Addr).add 2) w.drew fun s69 => ldI .i64 ((⟨cb, 0, none⟩ : Addr).add 3) w.drew fun n70 => ldB ((⟨cb, 0, none⟩ : Addr).add 4) w.drew fun t71 => c_preludelaw01_read p65 p66 n67 n68 s69 n70 t71 (some (⟨bk, 0, none⟩ : Addr)) w.drew fun r72 w73 => iteB (!r72)
  (K false w73.drew)
  (nnP p66 fun a74 => ldI .i64 (a74.add 1) w73.drew fun n75 => c_codec_Reader_At p65 w73.drew fun r76 w77 => w77.cell? (a74.add 1) = some (.int .i64 n75) ∧ (iteB ((r76 : Int) != n75)
  (K false w77)
  (nnP p66 fun a78 => ldS a78 w77 fun s79 => nnP p66 fun a80 => ldI .i64 (a80.add 1) w77 fun n81 => c_codec_Reader_Left p65 w77 fun r82 w83 => w83.cell? (a80.add 1) = some (.int .i64 n81) ∧ w83.cell? a78 = some (.slice s79.a s79.l s79.c) ∧ (iteB ((r82 : Int) != (IntKind.i64.wrap ((s79.l : Int) - n81)))
  (K false w83)
  (nnP p66 fun a84 => ldI .i64 (a84.add 2) w83 fun n85 => c_codec_Reader_Err p65 w83 fun r86 w87 => w87.cell? (a84.add 2) = some (.int .i64 n85) ∧ (iteB ((r86 : Int) != n85)
  (K false w87)
  (next w87))))))))) := by
  have c : ∀ {w' : World} {j : Nat} {x : Value}, Blk w' cb #[.int .i64 o.1, .int .u64 o.2.1, .slice sl.a sl.l sl.c, .int .i64 o.2.2.2.1, .bool o.2.2.2.2.1] 34 → (#[.int .i64 o.1, .int .u64 o.2.1, .slice sl.a sl.l sl.c, .int .i64 o.2.2.2.1, .bool o.2.2.2.2.1] : Array Value)[j]? = some x → w'.cell? ((⟨cb, 0, none⟩ : Addr).add j) = some x := fun hb hv => by rw [add_mk, Nat.zero_add, hb.cell]; exact hv
  have dr : ∀ w : World, Chg Nil w w.drew := fun w => (Drw.refl w).drew.chg _
  have arr : ∀ {P : Prop}, P → arrP 2 T' P := fun hp => ⟨by omega, by omega, hp⟩
  have hd := h.nil' (dr w)
  have hcd := hcb.chg (dr w) fun h => h
  refine arr (ldP_of (hd.pcell hT ht) (arr (ldP_of (hd.mcell hT ht) ?_)))
  refine ldI_of (c (j := 0) hcd rfl) (ldI_of (c (j := 1) hcd rfl) (ldS_of (c (j := 2) hcd rfl) (ldI_of (c (j := 3) hcd rfl) (ldB_of (c (j := 4) hcd rfl) ?_))))
  refine readcall_ok (o := o) hd ht hs hn g0 g1 g3 fun w1 ar' am' er' em' n' F' h1 hs1 hn1 => ?_
  refine iteB_neg (by simp) ?_
  have h1d := h1.nil' (dr w1)
  obtain ⟨ea, ee⟩ := hs1 t ht
  have m1 := h1d.mr t ht
  have r1 := h1d.rr t ht
  rw [nnP_some]
  refine ldI_of m1.c1 ?_
  refine rat_ok r1 ?_
  refine ⟨m1.c1, ?_⟩
  refine iteB_neg (by rw [ea]; simp) ?_
  rw [nnP_some]
  refine ldS_of m1.c0 ?_
  rw [nnP_some]
  refine ldI_of m1.c1 ?_
  refine rleft_ok r1 fun w2 hd2 => ?_
  have m2 := m1.nil (hd2.chg Nil)
  refine ⟨m2.c1, m2.c0, ?_⟩
  have hle := m2.le
  have hfew := m2.few
  have hlen := m2.len
  refine iteB_neg (by rw [ea, wrap_i64 (by omega)]; simp; omega) ?_
  rw [nnP_some]
  refine ldI_of m2.c2 ?_
  have h2 := h1d.nil' (hd2.chg Nil)
  refine rerr_ok (h2.rr t ht) ?_
  refine ⟨m2.c2, ?_⟩
  refine iteB_neg (by rw [ee]; simp) ?_
  exact hK w2 _ _ _ _ _ _ h2 hs1 hn1
/-- A roomy copy is written over. -/
theorem over_ok {w : World} {rb len : Nat} {cur : Array Value} {v : Value} {K : World → Prop} (hb : Blk w rb cur 5) (hc : cur.size = len + 3) (hl : len ≤ 140737488351232) (hK : ∀ w', Chg (fun k => k = rb) w w' → w'.heap.size = w.heap.size → K w') :
    loopP (σ := Int × Unit) (fun st22 next21 w23 => (fun (x24 : Int) => iteB (decide ((x24 : Int) < ((len + 3 : Nat) : Int)))
      (idxP (some (⟨rb, 0, none⟩ : Addr)) (len + 3) x24 1 fun a25 => stP a25 v w23 fun w26 => next21 ((IntKind.i64.wrap (x24 + 1)), ()) w26)
      (K w23)) st22.1) (0, ()) w := by
  refine loopP_inv (fun st w1 => ∃ (i : Nat) (cur : Array Value), st.1 = (i : Int) ∧ i ≤ len + 3 ∧ cur.size = len + 3 ∧ Blk w1 rb cur 5 ∧ Chg (fun k => k = rb) w w1 ∧ w1.heap.size = w.heap.size) (fun st _ => len + 3 - st.1.toNat) ⟨0, cur, rfl, Nat.zero_le _, hc, hb, Chg.refl _ _, rfl⟩ ?_
  rintro ⟨i0, u⟩ w1 next ⟨i, cur, rfl, hi, hcs, hb1, hc1, hs1⟩ hnext
  dsimp only
  refine iteB_intro (fun h => ?_) (fun h => hK w1 hc1 hs1)
  have hlt : i < len + 3 := by simp at h; omega
  refine idxP_intro (by omega) (by omega) rfl ?_
  rw [add_mk, Nat.zero_add, Nat.mul_one, Int.toNat_natCast]
  refine stP_intro hb1 (by omega) fun w2 hc2 hb2 hs2 => ?_
  rw [wrap_i64 (by omega)]
  exact hnext _ _ ⟨i + 1, _, by simp, hlt, by simpa using hcs, hb2, hc1.step hc2 fun _ _ h => h, by omega⟩ (by simp; omega)
end
set_option maxRecDepth 20000 in
theorem readsLoop_ok {x : Slc} {os : List OpM} {N : Nat} {w w1 : World} {pr pm bk : Nat} {br bm : Nat → Nat} {sr sm : Nat → Slc} {bs : Nat → List UInt8} {F0 : Nat → Prop} {K : Bool → World → Prop} (k2 : Rep reachBytes w (.sl 56 opG) [.slice x.a x.l x.c] os) (hN : List.length (α := OpM) os = N) (hol : N ≤ 1048576) (hxl : x.l = N)
    (T0 : TR w w1 pr pm bk br bm sr sm bs (fun _ => 0) (fun _ => 0) (fun _ => 0) (fun _ => 0) 0 F0 True) (hK : ∀ w', Chg Nil w w' → K true w') :
    loopP (σ := Int × Unit) (fun st48 next47 w49 => (fun (x50 : Int) => iteB (decide ((x50 : Int) < (x.l : Int)))
  (idxP x.a x.l x50 5 fun a51 => ldI .i64 a51 w49 fun n52 => ldI .u64 (a51.add 1) w49 fun n53 => ldS (a51.add 2) w49 fun s54 => ldI .i64 (a51.add 3) w49 fun n55 => ldB (a51.add 4) w49 fun t56 => newP #[.int .i64 0, .int .u64 0, .slice none 0 0, .int .i64 0, .bool false] 34 w49 fun a57 w58 => stP a57 (.int .i64 n52) w58 fun w59 => stP (a57.add 1) (.int .u64 n53) w59 fun w60 => stP (a57.add 2) (.slice s54.a s54.l s54.c) w60 fun w61 => stP (a57.add 3) (.int .i64 n55) w61 fun w62 => stP (a57.add 4) (.bool t56) w62 fun w63 => ldB (a57.add 4) w63 fun t64 => iteB t64
  (arrP 2 1 (ldP ((⟨pr, 0, none⟩ : Addr).add (Int.toNat 1 * 1)) w63.drew fun p65 => arrP 2 1 (ldP ((⟨pm, 0, none⟩ : Addr).add (Int.toNat 1 * 1)) w63.drew fun p66 => ldI .i64 a57 w63.drew fun n67 => ldI .u64 (a57.add 1) w63.drew fun n68 => ldS (a57.add 2) w63.drew fun s69 => ldI .i64 (a57.add 3) w63.drew fun n70 => ldB (a57.add 4) w63.drew fun t71 => c_preludelaw01_read p65 p66 n67 n68 s69 n70 t71 (some (⟨bk, 0, none⟩ : Addr)) w63.drew fun r72 w73 => iteB (!r72)
  (K false w73.drew)
  (nnP p66 fun a74 => ldI .i64 (a74.add 1) w73.drew fun n75 => c_codec_Reader_At p65 w73.drew fun r76 w77 => w77.cell? (a74.add 1) = some (.int .i64 n75) ∧ (iteB ((r76 : Int) != n75)
  (K false w77)
  (nnP p66 fun a78 => ldS a78 w77 fun s79 => nnP p66 fun a80 => ldI .i64 (a80.add 1) w77 fun n81 => c_codec_Reader_Left p65 w77 fun r82 w83 => w83.cell? (a80.add 1) = some (.int .i64 n81) ∧ w83.cell? a78 = some (.slice s79.a s79.l s79.c) ∧ (iteB ((r82 : Int) != (IntKind.i64.wrap ((s79.l : Int) - n81)))
  (K false w83)
  (nnP p66 fun a84 => ldI .i64 (a84.add 2) w83 fun n85 => c_codec_Reader_Err p65 w83 fun r86 w87 => w87.cell? (a84.add 2) = some (.int .i64 n85) ∧ (iteB ((r86 : Int) != n85)
  (K false w87)
  (next47 ((IntKind.i64.wrap (x50 + 1)), ()) w87))))))))))
  (arrP 2 0 (ldP ((⟨pr, 0, none⟩ : Addr).add (Int.toNat 0 * 1)) w63.drew fun p88 => arrP 2 0 (ldP ((⟨pm, 0, none⟩ : Addr).add (Int.toNat 0 * 1)) w63.drew fun p89 => ldI .i64 a57 w63.drew fun n90 => ldI .u64 (a57.add 1) w63.drew fun n91 => ldS (a57.add 2) w63.drew fun s92 => ldI .i64 (a57.add 3) w63.drew fun n93 => ldB (a57.add 4) w63.drew fun t94 => c_preludelaw01_read p88 p89 n90 n91 s92 n93 t94 (some (⟨bk, 0, none⟩ : Addr)) w63.drew fun r95 w96 => iteB (!r95)
  (K false w96.drew)
  (nnP p89 fun a97 => ldI .i64 (a97.add 1) w96.drew fun n98 => c_codec_Reader_At p88 w96.drew fun r99 w100 => w100.cell? (a97.add 1) = some (.int .i64 n98) ∧ (iteB ((r99 : Int) != n98)
  (K false w100)
  (nnP p89 fun a101 => ldS a101 w100 fun s102 => nnP p89 fun a103 => ldI .i64 (a103.add 1) w100 fun n104 => c_codec_Reader_Left p88 w100 fun r105 w106 => w106.cell? (a103.add 1) = some (.int .i64 n104) ∧ w106.cell? a101 = some (.slice s102.a s102.l s102.c) ∧ (iteB ((r105 : Int) != (IntKind.i64.wrap ((s102.l : Int) - n104)))
  (K false w106)
  (nnP p89 fun a107 => ldI .i64 (a107.add 2) w106 fun n108 => c_codec_Reader_Err p88 w106 fun r109 w110 => w110.cell? (a107.add 2) = some (.int .i64 n108) ∧ (iteB ((r109 : Int) != n108)
  (K false w110)
  (next47 ((IntKind.i64.wrap (x50 + 1)), ()) w110)))))))))))
  (c_preludelaw01_book_ends (some (⟨bk, 0, none⟩ : Addr)) w49 fun r111 w112 => iteB (!r111)
  (K false w112)
  (loopP (σ := Int × Unit) (fun st114 next113 w115 => (fun (x116 : Int) => iteB (decide ((x116 : Int) < 2))
  (arrP 2 x116 (ldP ((⟨pm, 0, none⟩ : Addr).add (Int.toNat x116 * 1)) w115.drew fun p117 => nnP p117 fun a118 => ldS a118 w115.drew fun s119 => arrP 2 x116 (ldP ((⟨pm, 0, none⟩ : Addr).add (Int.toNat x116 * 1)) w115.drew fun p120 => nnP p120 fun a121 => ldI .i64 (a121.add 1) w115.drew fun n122 => arrP 2 x116 (ldP ((⟨pr, 0, none⟩ : Addr).add (Int.toNat x116 * 1)) w115.drew.drew fun p123 => arrP 2 x116 (ldP ((⟨pm, 0, none⟩ : Addr).add (Int.toNat x116 * 1)) w115.drew.drew fun p124 => c_codec_Reader_End p123 w115.drew.drew fun r125 w126 => w126.cell? ((⟨pm, 0, none⟩ : Addr).add (Int.toNat x116 * 1)) = some (.pointer p124) ∧ (c_preluderef01_Reader_End p124 w126 fun r127 w128 => iteB ((r125 : Int) != r127)
  (K false w128)
  (arrP 2 x116 (ldP ((⟨pr, 0, none⟩ : Addr).add (Int.toNat x116 * 1)) w128 fun p129 => c_codec_Reader_Raw p129 (IntKind.i64.wrap ((s119.l : Int) - n122)) w128 fun r130 w131 => arrP 2 x116 (ldP ((⟨pm, 0, none⟩ : Addr).add (Int.toNat x116 * 1)) w131 fun p132 => c_preluderef01_Reader_Raw p132 (IntKind.i64.wrap ((s119.l : Int) - n122)) w131 fun r133 w134 => c_preludelaw01_same r130 r133 w134.drew fun r135 w136 => iteB (!r135)
  (K false w136)
  (arrP 2 x116 (ldP ((⟨pr, 0, none⟩ : Addr).add (Int.toNat x116 * 1)) w136 fun p137 => arrP 2 x116 (ldP ((⟨pm, 0, none⟩ : Addr).add (Int.toNat x116 * 1)) w136 fun p138 => nnP p138 fun a139 => ldS a139 w136 fun s140 => arrP 2 x116 (ldP ((⟨pm, 0, none⟩ : Addr).add (Int.toNat x116 * 1)) w136 fun p141 => nnP p141 fun a142 => ldI .i64 (a142.add 1) w136 fun n143 => c_codec_Reader_Left p137 w136 fun r144 w145 => w145.cell? (a142.add 1) = some (.int .i64 n143) ∧ w145.cell? ((⟨pm, 0, none⟩ : Addr).add (Int.toNat x116 * 1)) = some (.pointer p141) ∧ w145.cell? a139 = some (.slice s140.a s140.l s140.c) ∧ w145.cell? ((⟨pm, 0, none⟩ : Addr).add (Int.toNat x116 * 1)) = some (.pointer p138) ∧ (iteB ((r144 : Int) != (IntKind.i64.wrap ((s140.l : Int) - n143)))
  (K false w145)
  (next113 ((IntKind.i64.wrap (x116 + 1)), ()) w145)))))))))))))))
  (K true w115)) st114.1) (0, ()) w112))) st48.1) (0, ()) w1 := by
  refine loopP_inv (fun st wq => ∃ (i : Nat) (ar am : Nat → Nat) (er em : Nat → Int) (n : Nat) (F : Nat → Prop), st.1 = (i : Int) ∧ i ≤ N ∧ TR w wq pr pm bk br bm sr sm bs ar am er em n F True ∧ Same2 ar am er em ∧ n ≤ i) (fun st _ => N - st.1.toNat)
    ⟨0, _, _, _, _, 0, _, rfl, Nat.zero_le _, T0, fun _ _ => ⟨rfl, rfl⟩, Nat.le_refl _⟩ ?_
  rintro ⟨i0, u⟩ wq next ⟨i, ar, am, er, em, n, F, rfl, hi, hq, hs, hn⟩ hnext
  dsimp only
  refine iteB_intro (fun h => ?_) (fun h => ?_)
  · have hlt : i < N := by simp [hxl] at h; omega
    have hlt' : i < List.length (α := OpM) os := by omega
    refine op_at k2 hq.nil hlt' fun ad sl hop => ?_
    refine ldI_of hop.c0 ?_
    refine ldI_of hop.c1 ?_
    refine ldS_of hop.c2 ?_
    refine ldI_of hop.c3 ?_
    refine ldB_of hop.c4 ?_
    rw [wrap_i64 (by omega)]
    refine op_copy fun cb wr hbr hcr hcb => ?_
    have hr := hq.nil' hcr
    refine ldB_of (b := (os[i] : OpM).2.2.2.2.1) (by rw [add_mk, hbr.cell]; rfl) ?_
    have fin : ∀ w' ar' am' er' em' n' F', TR w w' pr pm bk br bm sr sm bs ar' am' er' em' n' F' True → Same2 ar' am' er' em' → n' ≤ n + 1 → next ((i : Int) + 1, ()) w' := fun w' ar' am' er' em' n' F' h1 h2 h3 =>
      hnext _ _ ⟨i + 1, ar', am', er', em', n', F', by simp, hlt, h1, h2, by omega⟩ (by simp; omega)
    refine iteB_intro (fun _ => ?_) (fun _ => ?_)
    · exact rstep (o := os[i]) (t := 1) (T' := 1) (K := K) (next := fun w' => next ((i : Int) + 1, ()) w') hr rfl (by omega) hs (by omega) hbr hop.w0 hop.w1 hop.w3 fin
    · exact rstep (o := os[i]) (t := 0) (T' := 0) (K := K) (next := fun w' => next ((i : Int) + 1, ()) w') hr rfl (by omega) hs (by omega) hbr hop.w0 hop.w1 hop.w3 fin
  · refine endsZ_ok (hq.bkk trivial) (by omega) fun w2 hc2 => ?_
    refine iteB_neg (by simp) ?_
    have hQ : TR w w2 pr pm bk br bm sr sm bs ar am er em 0 (fun _ => False) False := hq.book hc2 (fun h => h.elim) fun k hk => hk.elim
    refine loopP_inv (fun st w3 => ∃ (t : Nat) (ar am : Nat → Nat) (er em : Nat → Int), st.1 = (t : Int) ∧ t ≤ 2 ∧ TR w w3 pr pm bk br bm sr sm bs ar am er em 0 (fun _ => False) False ∧ Same2 ar am er em) (fun st _ => 2 - st.1.toNat) ⟨0, ar, am, er, em, rfl, by omega, hQ, hs⟩ ?_
    clear hnext hs hq hQ
    rintro ⟨t0, u⟩ w3 next2 ⟨t, ar, am, er, em, rfl, ht2, h3, hs⟩ hnext2
    dsimp only
    refine iteB_intro (fun h => ?_) (fun h => hK w3 h3.nil)
    have ht : t < 2 := by simp at h; omega
    have arr : ∀ {P : Prop}, P → arrP 2 (t : Int) P := fun hp => ⟨by omega, by omega, hp⟩
    have dr : ∀ w : World, Chg Nil w w.drew := fun w => (Drw.refl w).drew.chg _
    have hT : ((t : Nat) : Int) = (t : Int) := rfl
    have h4 := h3.nil' (dr w3)
    have h5 := h4.nil' (dr w3.drew)
    have m4 := h4.mr t ht
    have hle := m4.le
    have hfew := m4.few
    have hlen := m4.len
    obtain ⟨ea, ee⟩ := hs t ht
    refine arr (ldP_of (h4.mcell hT ht) ?_)
    rw [nnP_some]
    refine ldS_of m4.c0 (arr (ldP_of (h4.mcell hT ht) ?_))
    rw [nnP_some]
    refine ldI_of m4.c1 (arr (ldP_of (h5.pcell hT ht) (arr (ldP_of (h5.mcell hT ht) ?_))))
    refine rend_ok (h5.rr t ht) fun w6 hd6 => ?_
    have h6 := h5.nil' (hd6.chg Nil)
    refine ⟨h6.mcell hT ht, ?_⟩
    refine mend_ok (h6.mr t ht) fun w7 hd7 => ?_
    have h7 := h6.nil' (hd7.chg Nil)
    refine iteB_neg (by rw [ea, ee]; simp) ?_
    have esub : IntKind.i64.wrap (((sm t).l : Int) - (am t : Int)) = (((bs t).length - am t : Nat) : Int) := by rw [wrap_i64 (by omega)]; omega
    rw [esub]
    refine arr (ldP_of (h7.pcell hT ht) ?_)
    refine rraw_ok (h7.rr t ht) (by omega) fun l w8 hr8 ho8 hc8 hn8 _ _ => ?_
    have h8 := h7.readR ht hr8 hc8
    refine arr (ldP_of (h8.mcell hT ht) ?_)
    refine mraw_ok (h8.mr t ht) (by omega) (h8.slt ht) fun lm w9 hr9 ho9 hc9 hn9 => ?_
    rw [← ea, ← ee] at hr9 ho9
    have h9 := h8.readM ht hr9 hc9
    rw [ea] at hr9 ho9 h9
    rw [ea] at ho8
    have ho89 := ho8.chg hc9 fun k hk he => by
      have := hn8 k hk
      have := h7.lt (t + 2) (by omega) _ (rob_m ht)
      have : k = bm t := he
      omega
    refine same_ok (ho89.rd.chg (dr w9) fun _ _ h => h) (ho9.rd.chg (dr w9) fun _ _ h => h) (Nat.le_trans rRaw_len (by omega)) fun wa hda => ?_
    refine iteB_neg (by simp) ?_
    have ha := (h9.nil' (dr w9)).nil' (hda.chg Nil)
    have hsa := same2_upd (t := t) (a := (rRaw (bs t) (ar t) (er t) (((bs t).length - am t : Nat) : Int)).2.1) (x := (rRaw (bs t) (ar t) (er t) (((bs t).length - am t : Nat) : Int)).2.2) hs
    rw [ea] at hsa
    refine arr (ldP_of (ha.pcell hT ht) (arr (ldP_of (ha.mcell hT ht) ?_)))
    have ma := ha.mr t ht
    rw [nnP_some]
    refine ldS_of ma.c0 (arr (ldP_of (ha.mcell hT ht) ?_))
    rw [nnP_some]
    refine ldI_of ma.c1 ?_
    refine rleft_ok (ha.rr t ht) fun wb hdb => ?_
    have hb := ha.nil' (hdb.chg Nil)
    have mb := hb.mr t ht
    refine ⟨mb.c1, hb.mcell hT ht, mb.c0, hb.mcell hT ht, ?_⟩
    have hle2 := mb.le
    have hlen2 := mb.len
    rw [upd_eq] at hle2
    refine iteB_neg (by rw [upd_eq, upd_eq, wrap_i64 (by omega)]; simp; omega) ?_
    rw [wrap_i64 (by omega)]
    exact hnext2 _ _ ⟨t + 1, _, _, _, _, by simp, by omega, hb, hsa⟩ (by simp; omega)
def own10 (p0 p1 ci ck ch cj ca W8 k : Nat) : Nat := if k = p0 then 0 else if k = p1 then 1 else if k < W8 then 4 else if k < ca then 5 else if k = ca then 8 else if k = ch then 6 else if k = ci then 2 else if k = cj then 7 else if k = ck then 3 else 9
theorem own10_ok {p0 p1 ci ck ch cj ca cl W6 W8 k p : Nat} (h0 : W6 ≤ p0 ∧ p0 < W8) (h1 : W8 ≤ p1 ∧ p1 < ca) (h2 : ca < ch) (h3 : ch < ci) (h4 : ci < cj) (h5 : cj < ck) (h6 : ck < cl)
    (h : (p = 0 ∧ k = p0) ∨ (p = 1 ∧ k = p1) ∨ (p = 2 ∧ k = ci) ∨ (p = 3 ∧ k = ck) ∨ (p = 4 ∧ k ≠ p0 ∧ W6 ≤ k ∧ k < W8) ∨ (p = 5 ∧ k ≠ p1 ∧ W8 ≤ k ∧ k < ca) ∨ (p = 6 ∧ k = ch) ∨ (p = 7 ∧ k = cj) ∨ (p = 8 ∧ k = ca) ∨ (p = 9 ∧ k = cl)) : own10 p0 p1 ci ck ch cj ca W8 k = p := by
  unfold own10
  rcases h with h | h | h | h | h | h | h | h | h | h
  · rw [if_pos h.2, h.1]
  · rw [if_neg (by omega), if_pos h.2, h.1]
  · rw [if_neg (by omega), if_neg (by omega), if_neg (by omega), if_neg (by omega), if_neg (by omega), if_neg (by omega), if_pos h.2, h.1]
  · rw [if_neg (by omega), if_neg (by omega), if_neg (by omega), if_neg (by omega), if_neg (by omega), if_neg (by omega), if_neg (by omega), if_neg (by omega), if_pos h.2, h.1]
  · rw [if_neg h.2.1, if_neg (by omega), if_pos h.2.2.2, h.1]
  · rw [if_neg (by omega), if_neg h.2.1, if_neg (by omega), if_pos h.2.2.2, h.1]
  · rw [if_neg (by omega), if_neg (by omega), if_neg (by omega), if_neg (by omega), if_neg (by omega), if_pos h.2, h.1]
  · rw [if_neg (by omega), if_neg (by omega), if_neg (by omega), if_neg (by omega), if_neg (by omega), if_neg (by omega), if_neg (by omega), if_pos h.2, h.1]
  · rw [if_neg (by omega), if_neg (by omega), if_neg (by omega), if_neg (by omega), if_pos h.2, h.1]
  · rw [if_neg (by omega), if_neg (by omega), if_neg (by omega), if_neg (by omega), if_neg (by omega), if_neg (by omega), if_neg (by omega), if_neg (by omega), if_neg (by omega), h.1]
/-- The owners of the eight Readers' blocks and lists, by number. -/
theorem rob_start {p0 p1 ci ck ch cj ca cl W6 W8 : Nat} {s0 s1 : Slc} (hs0 : ∀ k, blkOf s0 = some k → k ≠ p0 ∧ W6 ≤ k ∧ k < W8) (hs1 : ∀ k, blkOf s1 = some k → k ≠ p1 ∧ W8 ≤ k ∧ k < ca) (h0 : W6 ≤ p0 ∧ p0 < W8) (h1 : W8 ≤ p1 ∧ p1 < ca) (h2 : ca < ch) (h3 : ch < ci) (h4 : ci < cj) (h5 : cj < ck) (h6 : ck < cl) {l0 l1 : Nat} :
    Sep 10 (rob (fun t => if t = 0 then p0 else p1) (fun t => if t = 0 then ci else ck) (fun t => if t = 0 then s0 else s1) (fun t => if t = 0 then ⟨some ⟨ch, 0, none⟩, l0, l0⟩ else ⟨some ⟨cj, 0, none⟩, l1, l1⟩) ca cl) ∧
    ∀ p, p < 10 → ∀ k, blkOf (rob (fun t => if t = 0 then p0 else p1) (fun t => if t = 0 then ci else ck) (fun t => if t = 0 then s0 else s1) (fun t => if t = 0 then ⟨some ⟨ch, 0, none⟩, l0, l0⟩ else ⟨some ⟨cj, 0, none⟩, l1, l1⟩) ca cl p) = some k → W6 ≤ k ∧ k ≤ cl := by
  have info : ∀ p, p < 10 → ∀ k, blkOf (rob (fun t => if t = 0 then p0 else p1) (fun t => if t = 0 then ci else ck) (fun t => if t = 0 then s0 else s1) (fun t => if t = 0 then ⟨some ⟨ch, 0, none⟩, l0, l0⟩ else ⟨some ⟨cj, 0, none⟩, l1, l1⟩) ca cl p) = some k →
      (p = 0 ∧ k = p0) ∨ (p = 1 ∧ k = p1) ∨ (p = 2 ∧ k = ci) ∨ (p = 3 ∧ k = ck) ∨ (p = 4 ∧ k ≠ p0 ∧ W6 ≤ k ∧ k < W8) ∨ (p = 5 ∧ k ≠ p1 ∧ W8 ≤ k ∧ k < ca) ∨ (p = 6 ∧ k = ch) ∨ (p = 7 ∧ k = cj) ∨ (p = 8 ∧ k = ca) ∨ (p = 9 ∧ k = cl) := fun p hp k hk => by
    rcases rob_cases hp with q | ⟨t, ht, rfl⟩ | ⟨t, ht, rfl⟩ | ⟨t, ht, rfl⟩ | rfl | rfl
    · rw [rob_r q] at hk
      obtain rfl | rfl : p = 0 ∨ p = 1 := by omega
      · cases hk; exact .inl ⟨rfl, rfl⟩
      · cases hk; exact .inr (.inl ⟨rfl, rfl⟩)
    · rw [rob_m ht] at hk
      obtain rfl | rfl : t = 0 ∨ t = 1 := by omega
      · cases hk; exact .inr (.inr (.inl ⟨rfl, rfl⟩))
      · cases hk; exact .inr (.inr (.inr (.inl ⟨rfl, rfl⟩)))
    · rw [rob_sr ht] at hk
      obtain rfl | rfl : t = 0 ∨ t = 1 := by omega
      · exact .inr (.inr (.inr (.inr (.inl ⟨rfl, hs0 k hk⟩))))
      · exact .inr (.inr (.inr (.inr (.inr (.inl ⟨rfl, hs1 k hk⟩)))))
    · rw [rob_sm ht] at hk
      obtain rfl | rfl : t = 0 ∨ t = 1 := by omega
      · cases hk; exact .inr (.inr (.inr (.inr (.inr (.inr (.inl ⟨rfl, rfl⟩))))))
      · cases hk; exact .inr (.inr (.inr (.inr (.inr (.inr (.inr (.inl ⟨rfl, rfl⟩)))))))
    · cases hk; exact .inr (.inr (.inr (.inr (.inr (.inr (.inr (.inr (.inl ⟨rfl, rfl⟩))))))))
    · cases hk; exact .inr (.inr (.inr (.inr (.inr (.inr (.inr (.inr (.inr ⟨rfl, rfl⟩))))))))
  exact ⟨⟨own10 p0 p1 ci ck ch cj ca W8, fun p hp k hk => own10_ok h0 h1 h2 h3 h4 h5 h6 (info p hp k hk)⟩, fun p hp k hk => by
    rcases info p hp k hk with h | h | h | h | h | h | h | h | h | h <;> omega⟩
set_option maxRecDepth 20000 in
theorem law_CodecReads {x0 x1 x2 : Slc} {b0 b1 : List UInt8} {os : List OpM} {w : World} (r0 : Rd w x0 (U8 b0)) (n0 : x0.a = none → x0.l = 0 ∧ x0.c = 0) (z0 : x0.c ≤ reachBytes) (r1 : Rd w x1 (U8 b1)) (n1 : x1.a = none → x1.l = 0 ∧ x1.c = 0) (z1 : x1.c ≤ reachBytes)
    (k2 : Rep reachBytes w (.sl 56 opG) [.slice x2.a x2.l x2.c] os)
    (hb : bulk (.pair .bytes (.pair .bytes (.pair (.sl 56 opG) .unit))) (b0, b1, os, ()) ≤ 1048576) : c_preludelaw01_CodecReads x0 x1 x2 w fun r w' => r = true ∧ Chg Nil w w' := by
  refine sim_preludelaw01_CodecReads ?_
  unfold sh_preludelaw01_CodecReads
  have hsum : b0.length + 1 + (b1.length + 1 + ((os.map opB).sum + 1 + 0)) ≤ 1048576 := hb
  have hol : List.length (α := OpM) os ≤ (os.map opB).sum := sum_len opB (fun a => Nat.le_add_left 1 _) os
  have hxl : x2.l = List.length (α := OpM) os := by
    obtain ⟨s, he, hl, _⟩ := k2
    have he' : x2.a = s.a ∧ x2.l = s.l ∧ x2.c = s.c := by simpa using he
    rw [he'.2.1]; exact hl
  obtain ⟨N, hN⟩ : ∃ N, List.length (α := OpM) os = N := ⟨_, rfl⟩
  rw [hN] at hol hxl
  have roomyRd : ∀ {w' : World} {rb : Nat} {b : List UInt8}, Blk w' rb (U8 (b ++ [171, 171, 171])).toArray 5 → Rd w' ⟨some ⟨rb, 0, none⟩, b.length, b.length + 3⟩ (U8 b) ∧ Rd w' ⟨some ⟨rb, 0, none⟩, b.length + 3, b.length + 3⟩ (U8 (b ++ [171, 171, 171])) := fun {w' rb b} hb => by
    have h1 := hb.rd (o := 0) (l := b.length) (c := b.length + 3) (by simp) (by omega)
    have h2 := hb.rd (o := 0) (l := b.length + 3) (c := b.length + 3) (by simp) (by omega)
    rw [List.drop_zero, U8_take] at h1 h2
    rw [List.take_of_length_le (by simp)] at h2
    exact ⟨by simpa using h1, h2⟩
  refine roomy_ok r0 (fun h => (n0 h).1) (by omega) fun w3 hc3 hb3 hs3 => ?_
  refine roomy_ok (r1.chg hc3 fun _ _ h => h) (fun h => (n1 h).1) (by omega) fun w6 hc6 hb6 hs6 => ?_
  have c6 := chgNN hc3 hc6
  refine read_ok (roomyRd (hb3.chg hc6 fun h => h)).1 (by omega) fun p0 s0 w8 hr8 hc8 hp0 hn8 hlt8 => ?_
  refine read_ok (roomyRd (hb6.chg hc8 fun h => h)).1 (by omega) fun p1 s1 wa hra hca hp1 hna hlta => ?_
  have q0 := hr8.blk.lt
  have q1 := hra.blk.lt
  refine newP_intro fun wb hcb hbb hsb => ?_
  refine stP_intro hbb (by simp) fun wc hcc hbc hsc => ?_
  rw [add_mk]
  refine stP_intro hbc (by simp) fun wd hcd hbd hsd => ?_
  have hbd' : Blk wd wa.heap.size #[.pointer (some ⟨p0, 0, none⟩), .pointer (some ⟨p1, 0, none⟩)] 47 := by simpa using hbd
  refine ⟨by omega, by omega, ldP_of (p := some ⟨p0, 0, none⟩) (by rw [add_mk, hbd'.cell]; rfl) (iteB_neg rfl ⟨by omega, by omega, ldP_of (p := some ⟨p1, 0, none⟩) (by rw [add_mk, hbd'.cell]; rfl) (iteB_neg rfl ?_)⟩)⟩
  have cad : Chg (fun k => k = wa.heap.size) wa wd := ((hcb.mono fun _ _ h => h.elim).step hcc fun _ _ h => h).step hcd fun _ _ h => h
  have c8a : Chg Nil w6 wa := chgNN hc8 hca
  have c6d : Chg Nil w6 wd := (c8a).step cad fun i hi he => by subst he; have := c8a.size; omega
  have cd : Chg Nil w wd := chgNN c6 c6d
  have z6 := c6.size
  have z8 := hc8.size
  have za := hca.size
  refine intact_ok (roomyRd (hb3.chg (chgNN hc6 c6d) fun h => h)).2 rfl (r0.chg cd fun _ _ h => h) (by omega) fun we hde => ?_
  refine iteB_neg (by simp) ?_
  have cde : Chg Nil w we := chgNN cd (hde.chg Nil)
  refine intact_ok (roomyRd (hb6.chg (chgNN c6d (hde.chg Nil)) fun h => h)).2 rfl (r1.chg cde fun _ _ h => h) (by omega) fun wf hdf => ?_
  refine iteB_neg (by simp) ?_
  have cdf : Chg Nil wd wf := chgNN (hde.chg Nil) (hdf.chg Nil)
  have hdd := hde.trans hdf
  have hsf : wf.heap.size = wd.heap.size := by rw [hdd.heap]
  have c3f : Chg Nil w3 wf := chgNN (chgNN hc6 c6d) cdf
  refine over_ok (hb3.chg c3f fun h => h) (by simp) (by omega) fun wg hcg hsg => ?_
  have c6f : Chg Nil w6 wf := chgNN c6d cdf
  refine over_ok ((hb6.chg c6f fun h => h).chg hcg (by omega)) (by simp) (by omega) fun wh hch hsh => ?_
  have cfh : Chg (fun k => k = w.heap.size ∨ k = w3.heap.size) wf wh := (hcg.mono fun _ _ h => .inl h).step hch fun _ _ h => .inr h
  have ch : Chg Nil w wh := (chgNN cd cdf).step cfh fun i hi he => by omega
  refine copied_ok (r0.chg ch fun _ _ h => h) (fun h => (n0 h).1) (by omega) fun wi hci hbi hsi => ?_
  refine newP_intro fun wj hcj hbj hsj => ?_
  have chj := chgNN hci hcj
  have cj := chgNN ch chj
  refine copied_ok (r1.chg cj fun _ _ h => h) (fun h => (n1 h).1) (by omega) fun wk hck hbk hsk => ?_
  refine newP_intro fun wl hcl hbl hsl => ?_
  have cjl := chgNN hck hcl
  refine newP_intro fun wm hcm hbm hsm => ?_
  refine stP_intro hbm (by simp) fun wn hcn hbn hsn => ?_
  rw [add_mk]
  refine stP_intro hbn (by simp) fun wo hco hbo hso => ?_
  have hbo' : Blk wo wl.heap.size #[.pointer (some ⟨wi.heap.size, 0, none⟩), .pointer (some ⟨wk.heap.size, 0, none⟩)] 52 := by simpa using hbo
  have clo : Chg (fun k => k = wl.heap.size) wl wo := ((hcm.mono fun _ _ h => h.elim).step hcn fun _ _ h => h).step hco fun _ _ h => h
  refine newP_intro fun wp hcp hbp hsp => ?_
  have clp : Chg (fun k => k = wl.heap.size) wl wp := clo.step hcp fun _ _ h => h.elim
  have chl : Chg Nil wh wl := chgNN chj cjl
  have zl := chl.size
  have zd := cad.size
  have zh : wh.heap.size = wd.heap.size := by omega
  have chp : Chg Nil wh wp := chl.step clp fun i hi he => by omega
  have cjp : Chg Nil wj wp := cjl.step clp fun i hi he => by have := cjl.size; omega
  have cwp : Chg Nil w wp := chgNN ch chp
  -- all that stands
  have rd0 : Rr wp p0 s0 b0 0 0 := by
    have h1 := (hr8.nil hca).chg cad (by omega) fun k hk he => by have := hlt8 k hk; omega
    have h2 := h1.nil cdf
    have h3 := h2.chg cfh (by omega) fun k hk he => by have := hn8 k hk; have := hc6.size; omega
    exact h3.nil chp
  have rd1 : Rr wp p1 s1 b1 0 0 := by
    have h1 := hra.chg cad (by omega) fun k hk he => by have := hlta k hk; omega
    have h2 := h1.nil cdf
    have h3 := h2.chg cfh (by omega) fun k hk he => by have := hna k hk; have := hc6.size; omega
    exact h3.nil chp
  let t0 : Slc := ⟨some ⟨wh.heap.size, 0, none⟩, b0.length, b0.length⟩
  let t1 : Slc := ⟨some ⟨wj.heap.size, 0, none⟩, b1.length, b1.length⟩
  have cpRd : ∀ {w' : World} {rb : Nat} {b : List UInt8}, Blk w' rb (U8 b).toArray 5 → Rd w' ⟨some ⟨rb, 0, none⟩, b.length, b.length⟩ (U8 b) := fun {w' rb b} hb => by
    have h1 := hb.rd (o := 0) (l := b.length) (c := b.length) (by simp) (by omega)
    rw [List.drop_zero, U8_take, List.take_of_length_le (Nat.le_refl _)] at h1
    exact h1
  have cip : Chg Nil wi wp := chgNN hcj cjp
  have ckp : Chg Nil wk wp := hcl.step clp fun i hi he => by have := hcl.size; omega
  have md0 : Mr wp wi.heap.size t0 b0 0 0 := ⟨hbj.chg cjp fun h => h, cpRd (hbi.chg cip fun h => h), fun he => by simp [t0, blkOf] at he; omega, Nat.zero_le _, by omega⟩
  have md1 : Mr wp wk.heap.size t1 b1 0 0 := ⟨hbl.chg clp (by omega), cpRd (hbk.chg ckp fun h => h), fun he => by simp [t1, blkOf] at he; omega, Nat.zero_le _, by omega⟩
  have zj := chj.size
  have zi := hci.size
  have zkk := hck.size
  have zk := cjl.size
  have sl := clo.size
  obtain ⟨sep, rng⟩ := rob_start (p0 := p0) (p1 := p1) (ci := wi.heap.size) (ck := wk.heap.size) (ch := wh.heap.size) (cj := wj.heap.size) (ca := wa.heap.size) (cl := wl.heap.size) (W6 := w6.heap.size) (W8 := w8.heap.size) (s0 := s0) (s1 := s1)
    (fun k hk => ⟨fun he => hr8.ne (by rw [← he]; exact hk), hn8 k hk, hlt8 k hk⟩) (fun k hk => ⟨fun he => hra.ne (by rw [← he]; exact hk), hna k hk, hlta k hk⟩) ⟨by omega, by omega⟩ ⟨by omega, by omega⟩ (by omega) (by omega) (by omega) (by omega) (by omega) (l0 := b0.length) (l1 := b1.length)
  have hpa : Blk wp wa.heap.size #[.pointer (some ⟨p0, 0, none⟩), .pointer (some ⟨p1, 0, none⟩)] 47 := ((hbd'.chg cdf fun h => h).chg cfh (by omega)).chg chp fun h => h
  refine readsLoop_ok (N := N) (pr := wa.heap.size) (pm := wl.heap.size) (bk := wo.heap.size) (br := fun t => if t = 0 then p0 else p1) (bm := fun t => if t = 0 then wi.heap.size else wk.heap.size) (sr := fun t => if t = 0 then s0 else s1) (sm := fun t => if t = 0 then t0 else t1) (bs := fun t => if t = 0 then b0 else b1) (F0 := fun k => k = wo.heap.size) (K := fun r w' => r = true ∧ Chg Nil w w') k2 hN (by omega) hxl ?_ fun w' hc => ⟨rfl, hc⟩
  refine ⟨fun t ht => ?_, fun t ht => ?_, hpa, hbo'.chg hcp fun h => h, fun _ => bkZ_new hbp, sep, fun p hp k hk he => ?_, fun p hp k hk => ?_, cwp, fun p hp k hk => ?_, fun k hk => ?_⟩
  · obtain rfl | rfl : t = 0 ∨ t = 1 := by omega
    · exact rd0
    · exact rd1
  · obtain rfl | rfl : t = 0 ∨ t = 1 := by omega
    · exact md0
    · exact md1
  · have := rng p hp k hk; omega
  · have := rng p hp k hk; omega
  · have := rng p hp k hk; omega
  · subst hk; omega
end Go.Proofs.Ytmadhcoeiclalaa
