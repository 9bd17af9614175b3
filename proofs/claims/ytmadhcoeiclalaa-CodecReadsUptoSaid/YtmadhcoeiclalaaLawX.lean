/- LawX: two Writers, what they must have, and the book: the law CodecWrites. -/
import Derived.Test.YtmadhcoeiclalaaLawW
set_option linter.unusedVariables false
set_option linter.unusedSimpArgs false
namespace Go.Proofs.Ytmadhcoeiclalaa
open Go Go.Sh Go.Pl Go.RowKit Go.Num Go.Gt
/-- A book of n lists, whose blocks are F's. -/
def BkZ (w : World) (bk n : Nat) (F : Nat → Prop) : Prop := ∃ L W l c bs, Bk w bk L W n l c bs ∧ ∀ k, F k ↔ BkF bk L W n l c k
theorem BkZ.lt {w : World} {bk n : Nat} {F : Nat → Prop} (h : BkZ w bk n F) : ∀ k, F k → k < w.heap.size := by
  obtain ⟨L, W, l, c, bs, hB, hF⟩ := h
  exact fun k hk => BkF.lt hB ((hF k).1 hk)
theorem BkZ.chg {S : Nat → Prop} {w w' : World} {bk n : Nat} {F : Nat → Prop} (h : BkZ w bk n F) (hc : Chg S w w') (hn : ∀ k, F k → ¬ S k) : BkZ w' bk n F := by
  obtain ⟨L, W, l, c, bs, hB, hF⟩ := h
  exact ⟨L, W, l, c, bs, hB.chg hc fun p hp k hk => hn k ((hF k).2 ⟨p, hp, hk⟩), hF⟩
theorem putZ_ok {w : World} {bk n : Nat} {F : Nat → Prop} {x : Slc} {xs : List UInt8} {K : World → Prop} (h : BkZ w bk n F) (hx : Own w 5 1 x (U8 xs)) (hl : xs.length ≤ 140737488351232) (hd : ∀ k, blkOf x = some k → ¬ F k) (hn : n ≤ 1000000000000)
    (hK : ∀ F' w', BkZ w' bk (n + 1) F' → Chg F w w' → (∀ k, F' k → F k ∨ blkOf x = some k ∨ w.heap.size ≤ k) → K w') : c_preludelaw01_book_put (some ⟨bk, 0, none⟩) x w K := by
  obtain ⟨L, W, l, c, bs, hB, hF⟩ := h
  refine put_ok hB hx hl (fun k hk hb => hd k hk ((hF k).2 hb)) hn fun L' W' c' w' hB' hc hF' => hK _ w' ⟨L', W', _, _, _, hB', fun k => Iff.rfl⟩ (hc.mono fun k _ hk => (hF k).2 ?_) fun k hk => (hF' k hk).imp (fun h => (hF k).2 h) id
  rcases hk with h1 | h1 | h1
  · exact ⟨0, by omega, by rw [h1]; rfl⟩
  · exact ⟨1, by omega, h1.symm⟩
  · exact ⟨2, by omega, h1.symm⟩
theorem endsZ_ok {w : World} {bk n : Nat} {F : Nat → Prop} {K : Bool → World → Prop} (h : BkZ w bk n F) (hn : n ≤ 1000000000000) (hK : ∀ w', Chg F w w' → K true w') : c_preludelaw01_book_ends (some ⟨bk, 0, none⟩) w K := by
  obtain ⟨L, W, l, c, bs, hB, hF⟩ := h
  exact ends_ok hB hn fun w' hc => hK w' (hc.mono fun k _ hk => (hF k).2 hk)
theorem bkZ_new {w : World} {b : Nat} (h : Blk w b #[.slice none 0 0, .slice none 0 0] 31) : BkZ w b 0 (fun k => k = b) := by
  refine ⟨⟨none, 0, 0⟩, ⟨none, 0, 0⟩, fun _ => ⟨none, 0, 0⟩, fun _ => ⟨none, 0, 0⟩, fun _ => [], ⟨h, Own.nil _ _ _, Own.nil _ _ _, fun i hi => by omega, fun i hi => by omega, ⟨fun _ => 0, fun p hp k hk => ?_⟩, fun i hi => by omega⟩, fun k => ⟨fun hk => ⟨0, by omega, by rw [hk]; rfl⟩, fun hk => ?_⟩⟩
  · rcases obj_cases hp with rfl | rfl | rfl | ⟨i, hi, rfl⟩ | ⟨i, hi, rfl⟩
    · rfl
    · cases hk
    · cases hk
    · omega
    · omega
  · obtain ⟨p, hp, hk⟩ := hk
    rcases obj_cases hp with rfl | rfl | rfl | ⟨i, hi, rfl⟩ | ⟨i, hi, rfl⟩
    · cases hk; rfl
    · cases hk
    · cases hk
    · omega
    · omega
def mkb (x : Nat) : Slc := ⟨some ⟨x, 0, none⟩, 0, 0⟩
def tob (b : Nat → Nat) (s v : Nat → Slc) (bp bw : Nat) : Nat → Slc := fun p => if p < 2 then mkb (b p) else if p < 4 then s (p - 2) else if p < 6 then v (p - 4) else if p = 6 then mkb bp else mkb bw
theorem tob_b {b : Nat → Nat} {s v : Nat → Slc} {bp bw t : Nat} (h : t < 2) : blkOf (tob b s v bp bw t) = some (b t) := by unfold tob; rw [if_pos h]; rfl
theorem tob_s {b : Nat → Nat} {s v : Nat → Slc} {bp bw t : Nat} (h : t < 2) : tob b s v bp bw (t + 2) = s t := by unfold tob; rw [if_neg (by omega), if_pos (by omega)]; congr 1
theorem tob_v {b : Nat → Nat} {s v : Nat → Slc} {bp bw t : Nat} (h : t < 2) : tob b s v bp bw (t + 4) = v t := by unfold tob; rw [if_neg (by omega), if_neg (by omega), if_pos (by omega)]; congr 1
structure TW (w0 w : World) (bp bw bk : Nat) (b : Nat → Nat) (s v : Nat → Slc) (ws vs : Nat → List UInt8) (n : Nat) (F : Nat → Prop) : Prop where
  wr : ∀ t, t < 2 → Wr w (b t) (s t) (ws t)
  ov : ∀ t, t < 2 → Own w 5 1 (v t) (U8 (vs t))
  ptr : Blk w bp #[.pointer (some ⟨b 0, 0, none⟩), .pointer (some ⟨b 1, 0, none⟩)] 25
  wnt : Blk w bw #[sv (v 0), sv (v 1)] 27
  bkk : BkZ w bk n F
  sep : Sep 8 (tob b s v bp bw)
  out : ∀ p, p < 8 → ∀ k, blkOf (tob b s v bp bw p) = some k → ¬ F k
  nil : Chg Nil w0 w
  new : ∀ p, p < 8 → ∀ k, blkOf (tob b s v bp bw p) = some k → w0.heap.size ≤ k
  newB : ∀ k, F k → w0.heap.size ≤ k
section
variable {w0 w w' : World} {bp bw bk : Nat} {b : Nat → Nat} {s v : Nat → Slc} {ws vs : Nat → List UInt8} {n : Nat} {F : Nat → Prop}
theorem tob_cases {p : Nat} (h : p < 8) : p < 2 ∨ (∃ t, t < 2 ∧ p = t + 2) ∨ (∃ t, t < 2 ∧ p = t + 4) ∨ p = 6 ∨ p = 7 := by
  by_cases h1 : p < 2
  · exact .inl h1
  by_cases h2 : p < 4
  · exact .inr (.inl ⟨p - 2, by omega, by omega⟩)
  by_cases h3 : p < 6
  · exact .inr (.inr (.inl ⟨p - 4, by omega, by omega⟩))
  · omega
theorem TW.lt (h : TW w0 w bp bw bk b s v ws vs n F) : ∀ p, p < 8 → ∀ k, blkOf (tob b s v bp bw p) = some k → k < w.heap.size := fun p hp k hk => by
  rcases tob_cases hp with h1 | ⟨t, ht, rfl⟩ | ⟨t, ht, rfl⟩ | rfl | rfl
  · rw [tob_b h1] at hk; cases hk; exact (h.wr p h1).blk.lt
  · rw [tob_s ht] at hk; exact (h.wr t ht).own.lt k hk
  · rw [tob_v ht] at hk; exact (h.ov t ht).lt k hk
  · cases hk; exact h.ptr.lt
  · cases hk; exact h.wnt.lt
theorem TW.nil' (h : TW w0 w bp bw bk b s v ws vs n F) (hc : Chg Nil w w') : TW w0 w' bp bw bk b s v ws vs n F :=
  ⟨fun t ht => (h.wr t ht).nil hc, fun t ht => (h.ov t ht).chg hc fun _ _ h => h, h.ptr.chg hc fun h => h, h.wnt.chg hc fun h => h, h.bkk.chg hc fun _ _ h => h, h.sep, h.out, chgNN h.nil hc, h.new, h.newB⟩
theorem TW.book {n' : Nat} {F' : Nat → Prop} (h : TW w0 w bp bw bk b s v ws vs n F) (hc : Chg F w w') (hb : BkZ w' bk n' F') (hF : ∀ k, F' k → F k ∨ (w0.heap.size ≤ k ∧ ∀ p, p < 8 → blkOf (tob b s v bp bw p) ≠ some k)) : TW w0 w' bp bw bk b s v ws vs n' F' :=
  ⟨fun t ht => (h.wr t ht).chg hc (h.out t (by omega) _ (tob_b ht)) fun k hk => h.out (t + 2) (by omega) k (by rw [tob_s ht]; exact hk), fun t ht => (h.ov t ht).chg hc fun k hk => h.out (t + 4) (by omega) k (by rw [tob_v ht]; exact hk),
   h.ptr.chg hc (h.out 6 (by omega) _ rfl), h.wnt.chg hc (h.out 7 (by omega) _ rfl), hb, h.sep, fun p hp k hk hk' => by
    rcases hF k hk' with h1 | ⟨_, h1⟩
    · exact h.out p hp k hk h1
    · exact h1 p hp hk, h.nil.step hc fun i hi he => by have := h.newB i he; omega, h.new, fun k hk => by
    rcases hF k hk with h1 | ⟨h1, _⟩
    · exact h.newB k h1
    · exact h1⟩
theorem TW.wrote {s' : Slc} {x : List UInt8} {t : Nat} (h : TW w0 w bp bw bk b s v ws vs n F) (ht : t < 2) (hw : Wr w' (b t) s' x) (g : WSt (b t) (s t) s' w w') : TW w0 w' bp bw bk b (upd s t s') v (upd ws t x) vs n F := by
  have d : ∀ p, p < 8 → p ≠ t → p ≠ t + 2 → ∀ k, blkOf (tob b s v bp bw p) = some k → ¬ (k = b t ∨ some k = blkOf (s t)) := fun p hp h1 h2 k hk he => by
    rcases he with he | he
    · exact h.sep.dis hp (q := t) (by omega) h1 hk (by rw [tob_b ht, he])
    · exact h.sep.dis hp (q := t + 2) (by omega) h2 hk (by rw [tob_s ht, he])
  have dF : ∀ k, F k → ¬ (k = b t ∨ some k = blkOf (s t)) := fun k hk he => by
    rcases he with he | he
    · exact h.out t (by omega) k (by rw [tob_b ht, he]) hk
    · exact h.out (t + 2) (by omega) k (by rw [tob_s ht, he]) hk
  have eq : ∀ q, q < 8 → q ≠ t + 2 → tob b (upd s t s') v bp bw q = tob b s v bp bw q := fun q hq hne => by
    rcases tob_cases hq with h1 | ⟨r, hr, rfl⟩ | ⟨r, hr, rfl⟩ | rfl | rfl
    · unfold tob; rw [if_pos h1, if_pos h1]
    · rw [tob_s hr, tob_s hr, upd_ne (by omega)]
    · rw [tob_v hr, tob_v hr]
    · rfl
    · rfl
  have blk2 : ∀ k, blkOf (tob b (upd s t s') v bp bw (t + 2)) = some k → blkOf (tob b s v bp bw (t + 2)) = some k ∨ w.heap.size ≤ k := fun k hk => by
    rw [tob_s ht, upd_eq] at hk
    rw [tob_s ht]
    exact g.blk k hk
  have hlt := h.lt
  refine ⟨fun r hr => ?_, fun r hr => (h.ov r hr).chg g.chg fun k hk => d (r + 4) (by omega) (by omega) (by omega) k (by rw [tob_v hr]; exact hk), h.ptr.chg g.chg (d 6 (by omega) (by omega) (by omega) _ rfl), h.wnt.chg g.chg (d 7 (by omega) (by omega) (by omega) _ rfl), h.bkk.chg g.chg dF,
    h.sep.upd (p := t + 2) (H := w.heap.size) (by omega) hlt eq blk2, fun p hp k hk hF => ?_, h.nil.step g.chg fun i hi he => ?_, fun p hp k hk => ?_, h.newB⟩
  · by_cases hrt : r = t
    · subst hrt; rw [upd_eq, upd_eq]; exact hw
    · rw [upd_ne hrt, upd_ne hrt]
      exact (h.wr r hr).chg g.chg (d r (by omega) hrt (by omega) _ (tob_b hr)) fun k hk => d (r + 2) (by omega) (by omega) (by omega) k (by rw [tob_s hr]; exact hk)
  · by_cases hp2 : p = t + 2
    · subst hp2
      rcases blk2 k hk with h1 | h1
      · exact h.out _ hp k h1 hF
      · have := h.bkk.lt k hF; omega
    · rw [eq p hp hp2] at hk
      exact h.out p hp k hk hF
  · rcases he with he | he
    · have := h.new t (by omega) i (by rw [tob_b ht, he]); omega
    · have := h.new (t + 2) (by omega) i (by rw [tob_s ht, he]); omega
  · by_cases hp2 : p = t + 2
    · subst hp2
      rcases blk2 k hk with h1 | h1
      · exact h.new _ hp k h1
      · have := h.nil.size; omega
    · rw [eq p hp hp2] at hk
      exact h.new p hp k hk
theorem TW.pcell (h : TW w0 w bp bw bk b s v ws vs n F) {t : Nat} {T' : Int} (hT : T' = (t : Int)) (ht : t < 2) : w.cell? ((⟨bp, 0, none⟩ : Addr).add (Int.toNat T' * 1)) = some (.pointer (some ⟨b t, 0, none⟩)) := by
  subst hT
  rw [add_mk, h.ptr.cell, Int.toNat_natCast]
  obtain rfl | rfl : t = 0 ∨ t = 1 := by omega
  · rfl
  · rfl
theorem TW.wcell (h : TW w0 w bp bw bk b s v ws vs n F) {t : Nat} {T' : Int} (hT : T' = (t : Int)) (ht : t < 2) : w.cell? ((⟨bw, 0, none⟩ : Addr).add (Int.toNat T' * 1)) = some (.slice (v t).a (v t).l (v t).c) := by
  subst hT
  rw [add_mk, h.wnt.cell, Int.toNat_natCast]
  obtain rfl | rfl : t = 0 ∨ t = 1 := by omega
  · rfl
  · rfl
theorem TW.app {x : Slc} {xs : List UInt8} {t : Nat} {T' : Int} {K : World → Prop} (h : TW w0 w bp bw bk b s v ws vs n F) (hT : T' = (t : Int)) (ht : t < 2) (hx : Rd w x (U8 xs)) (hxn : x.a = none → x.l = 0 ∧ x.c = 0) (hl : (vs t).length + xs.length ≤ 140737488355328)
    (hK : ∀ v' w', TW w0 w' bp bw bk b s (upd v t v') ws (upd vs t (vs t ++ xs)) n F → Chg (fun k => some k = blkOf (v t) ∨ k = bw) w w' → K w') :
    apP Try.prog #[26, 26] 26 [.slice (v t).a (v t).l (v t).c, .slice x.a x.l x.c] w fun s50 w49 => arrP 2 T' (stP ((⟨bw, 0, none⟩ : Addr).add (Int.toNat T' * 1)) (.slice s50.a s50.l s50.c) w49 fun w51 => K w51) := by
  refine apP_rd TU8 (h.ov t ht) hx hxn (U8_one _) (by simpa using hl) (by simpa using hl) fun v' w1 ho1 hl1 hg1 _ => ?_
  rw [← U8_append] at ho1
  refine ⟨by omega, by omega, ?_⟩
  have d : ∀ p, p < 8 → p ≠ t + 4 → ∀ k, blkOf (tob b s v bp bw p) = some k → ¬ (some k = blkOf (v t)) := fun p hp h1 k hk he => h.sep.dis hp (q := t + 4) (by omega) h1 hk (by rw [tob_v ht, he])
  have dF : ∀ k, F k → ¬ (some k = blkOf (v t)) := fun k hk he => h.out (t + 4) (by omega) k (by rw [tob_v ht, he]) hk
  have dw : ∀ p, p < 8 → p ≠ 7 → ∀ k, blkOf (tob b s v bp bw p) = some k → ¬ (k = bw) := fun p hp h1 k hk he => h.sep.dis hp (q := 7) (by omega) h1 hk (by rw [he]; rfl)
  have hlt := h.lt
  have blk4 : ∀ k, blkOf v' = some k → blkOf (v t) = some k ∨ w.heap.size ≤ k := hg1.blk
  have hv'w : ∀ k, blkOf v' = some k → ¬ (k = bw) := fun k hk he => by
    rcases blk4 k hk with h1 | h1
    · exact dw (t + 4) (by omega) (by omega) k (by rw [tob_v ht]; exact h1) he
    · have := hlt 7 (by omega) bw rfl; omega
  have hw1 := h.wnt.chg hg1.chg (d 7 (by omega) (by omega) _ rfl)
  rw [add_mk, Nat.zero_add]
  have hT2 : Int.toNat T' * 1 = t := by rw [hT, Int.toNat_natCast, Nat.mul_one]
  rw [hT2]
  refine stP_intro hw1 (by simp; omega) fun w2 hc2 hb2 hs2 => ?_
  have hcc : Chg (fun k => some k = blkOf (v t) ∨ k = bw) w w2 := (hg1.chg.mono fun k _ hk => Or.inl hk).step hc2 fun k _ hk => .inr hk
  have fr : ∀ {S : Nat → Prop}, True → True := fun _ => trivial
  have dd : ∀ p, p < 8 → p ≠ t + 4 → p ≠ 7 → ∀ k, blkOf (tob b s v bp bw p) = some k → ¬ (some k = blkOf (v t) ∨ k = bw) := fun p hp h1 h2 k hk he => by
    rcases he with he | he
    · exact d p hp h1 k hk he
    · exact dw p hp h2 k hk he
  have eq : ∀ q, q < 8 → q ≠ t + 4 → tob b s (upd v t v') bp bw q = tob b s v bp bw q := fun q hq hne => by
    rcases tob_cases hq with h1 | ⟨r, hr, rfl⟩ | ⟨r, hr, rfl⟩ | rfl | rfl
    · unfold tob; rw [if_pos h1, if_pos h1]
    · rw [tob_s hr, tob_s hr]
    · rw [tob_v hr, tob_v hr, upd_ne (by omega)]
    · rfl
    · rfl
  have blk5 : ∀ k, blkOf (tob b s (upd v t v') bp bw (t + 4)) = some k → blkOf (tob b s v bp bw (t + 4)) = some k ∨ w.heap.size ≤ k := fun k hk => by
    rw [tob_v ht, upd_eq] at hk
    rw [tob_v ht]
    exact blk4 k hk
  refine hK v' w2 ⟨fun r hr => (h.wr r hr).chg hcc (dd r (by omega) (by omega) (by omega) _ (tob_b hr)) fun k hk => dd (r + 2) (by omega) (by omega) (by omega) k (by rw [tob_s hr]; exact hk), fun r hr => ?_, h.ptr.chg hcc (dd 6 (by omega) (by omega) (by omega) _ rfl), ?_,
    h.bkk.chg hcc fun k hk he => ?_, h.sep.upd (p := t + 4) (H := w.heap.size) (by omega) hlt eq blk5, fun p hp k hk hF => ?_, h.nil.step hcc fun i hi he => ?_, fun p hp k hk => ?_, h.newB⟩ hcc
  · by_cases hrt : r = t
    · subst hrt; rw [upd_eq, upd_eq]; exact ho1.chg hc2 hv'w
    · rw [upd_ne hrt, upd_ne hrt]
      exact (h.ov r hr).chg hcc fun k hk => dd (r + 4) (by omega) (by omega) (by omega) k (by rw [tob_v hr]; exact hk)
  · obtain rfl | rfl : t = 0 ∨ t = 1 := by omega
    · have e : (#[sv (v 0), sv (v 1)] : Array Value).setIfInBounds 0 (.slice v'.a v'.l v'.c) = #[sv (upd v 0 v' 0), sv (upd v 0 v' 1)] := rfl
      rw [e] at hb2; exact hb2
    · have e : (#[sv (v 0), sv (v 1)] : Array Value).setIfInBounds 1 (.slice v'.a v'.l v'.c) = #[sv (upd v 1 v' 0), sv (upd v 1 v' 1)] := rfl
      rw [e] at hb2; exact hb2
  · rcases he with he | he
    · exact dF k hk he
    · exact h.out 7 (by omega) k (by rw [he]; rfl) hk
  · by_cases hp2 : p = t + 4
    · subst hp2
      rcases blk5 k hk with h1 | h1
      · exact h.out _ hp k h1 hF
      · have := h.bkk.lt k hF; omega
    · rw [eq p hp hp2] at hk
      exact h.out p hp k hk hF
  · rcases he with he | he
    · have := h.new (t + 4) (by omega) i (by rw [tob_v ht, he]); omega
    · have := h.new 7 (by omega) i (by rw [he]; rfl); omega
  · by_cases hp2 : p = t + 4
    · subst hp2
      rcases blk5 k hk with h1 | h1
      · exact h.new _ hp k h1
      · have := h.nil.size; omega
    · rw [eq p hp hp2] at hk
      exact h.new p hp k hk
set_option maxRecDepth 20000 in
theorem wstep {o : OpM} {sl : Slc} {cb t : Nat} {T' : Int} {K : Bool → World → Prop} {next : World → Prop} (h : TW w0 w bp bw bk b s v ws vs n F) (hT : T' = (t : Int)) (ht : t < 2) (hv : ∀ t, t < 2 → vs t = ws t) (hn : n ≤ 100000000)
    (hcb : Blk w cb #[.int .i64 o.1, .int .u64 o.2.1, .slice sl.a sl.l sl.c, .int .i64 o.2.2.2.1, .bool o.2.2.2.2.1] 34) (hcT : ∀ p, p < 8 → blkOf (tob b s v bp bw p) ≠ some cb) (hcF : ¬ F cb)
    (hx : Rd w0 sl (U8 o.2.2.1)) (hno : sl.a = none → sl.l = 0 ∧ sl.c = 0) (g0 : (Lit.int .i64 o.1).wf = true) (g1 : (Lit.int .u64 o.2.1).wf = true) (hol : o.2.2.1.length ≤ 1048576) (hl : (ws t).length + (encO o).length ≤ 100000000)
    (hK : ∀ w' s' v' ws' vs' n' F', TW w0 w' bp bw bk b s' v' ws' vs' n' F' → (∀ t, t < 2 → vs' t = ws' t) → (∀ r, r < 2 → (ws' r).length ≤ (ws r).length + (encO o).length) → n' ≤ n + 2 → next w') :
    arrP 2 T' (ldP ((⟨bp, 0, none⟩ : Addr).add (Int.toNat T' * 1)) w.drew fun p33 => ldI .i64 (⟨cb, 0, none⟩ : Addr) w.drew fun n34 => ldI .u64 ((⟨cb, 0, none⟩ : Addr).add 1) w.drew fun n35 => ldS ((⟨cb, 0, none⟩ : Addr).add 2) w.drew fun s36 => ldI .i64 ((⟨cb, 0, none⟩ : Addr).add 3) w.drew fun n37 => ldB ((⟨cb, 0, none⟩ : Addr).add 4) w.drew fun t38 => c_preludelaw01_written p33 n34 n35 s36 n37 t38 w.drew fun r39 w40 => iteB (!r39)
  (K false w40)
  (arrP 2 T' (ldS ((⟨bw, 0, none⟩ : Addr).add (Int.toNat T' * 1)) w40.drew fun s41 => ldI .i64 (⟨cb, 0, none⟩ : Addr) w40.drew fun n42 => ldI .u64 ((⟨cb, 0, none⟩ : Addr).add 1) w40.drew fun n43 => ldS ((⟨cb, 0, none⟩ : Addr).add 2) w40.drew fun s44 => ldI .i64 ((⟨cb, 0, none⟩ : Addr).add 3) w40.drew fun n45 => ldB ((⟨cb, 0, none⟩ : Addr).add 4) w40.drew fun t46 => c_preludelaw01_form n42 n43 s44 n45 t46 w40.drew fun r47 w48 => w48.cell? ((⟨bw, 0, none⟩ : Addr).add (Int.toNat T' * 1)) = some (.slice s41.a s41.l s41.c) ∧ (apP Try.prog #[26, 26] 26 [.slice s41.a s41.l s41.c, .slice r47.a r47.l r47.c] w48 fun s50 w49 => arrP 2 T' (stP ((⟨bw, 0, none⟩ : Addr).add (Int.toNat T' * 1)) (.slice s50.a s50.l s50.c) w49 fun w51 => ldI .i64 (⟨cb, 0, none⟩ : Addr) w51 fun n52 => iteB ((n52 : Int) == 8)
  (arrP 2 T' (ldP ((⟨bp, 0, none⟩ : Addr).add (Int.toNat T' * 1)) w51 fun p53 => c_codec_Writer_Out p53 w51 fun r54 w55 => arrP 2 T' (ldP ((⟨bp, 0, none⟩ : Addr).add (Int.toNat T' * 1)) w55 fun p56 => c_codec_Writer_Out p56 w55 fun r57 w58 => arrP 2 T' (ldS ((⟨bw, 0, none⟩ : Addr).add (Int.toNat T' * 1)) w58.drew fun s59 => c_preludelaw01_same r54 s59 w58.drew fun r60 w61 => iteB (!r60)
  (K false w61)
  (arrP 2 T' (ldS ((⟨bw, 0, none⟩ : Addr).add (Int.toNat T' * 1)) w61 fun s62 => c_preludelaw01_same r57 s62 w61 fun r63 w64 => iteB (!r63)
  (K false w64)
  (arrP 2 T' (ldP ((⟨bp, 0, none⟩ : Addr).add (Int.toNat T' * 1)) w64 fun p65 => arrP 2 T' (ldS ((⟨bw, 0, none⟩ : Addr).add (Int.toNat T' * 1)) w64 fun s66 => c_codec_Writer_Len p65 w64 fun r67 w68 => w68.cell? ((⟨bw, 0, none⟩ : Addr).add (Int.toNat T' * 1)) = some (.slice s66.a s66.l s66.c) ∧ (iteB ((r67 : Int) != (s66.l : Int))
  (K false w68)
  (c_preludelaw01_book_put (some (⟨bk, 0, none⟩ : Addr)) r54 w68 fun w69 => c_preludelaw01_book_put (some (⟨bk, 0, none⟩ : Addr)) r57 w69 fun w70 => next w70)))))))))))
  (next w51)))))) := by
  have c : ∀ {w' : World} {j : Nat} {x : Value}, Blk w' cb #[.int .i64 o.1, .int .u64 o.2.1, .slice sl.a sl.l sl.c, .int .i64 o.2.2.2.1, .bool o.2.2.2.2.1] 34 → (#[.int .i64 o.1, .int .u64 o.2.1, .slice sl.a sl.l sl.c, .int .i64 o.2.2.2.1, .bool o.2.2.2.2.1] : Array Value)[j]? = some x → w'.cell? ((⟨cb, 0, none⟩ : Addr).add j) = some x := fun hb hv => by rw [add_mk, Nat.zero_add, hb.cell]; exact hv
  have dr : ∀ w : World, Chg Nil w w.drew := fun w => (Drw.refl w).drew.chg _
  have arr : ∀ {P : Prop}, P → arrP 2 T' P := fun hp => ⟨by omega, by omega, hp⟩
  have hd := h.nil' (dr w)
  have hcd := hcb.chg (dr w) fun h => h
  refine arr (ldP_of (hd.pcell hT ht) ?_)
  refine ldI_of (c (j := 0) hcd rfl) (ldI_of (c (j := 1) hcd rfl) (ldS_of (c (j := 2) hcd rfl) (ldI_of (c (j := 3) hcd rfl) (ldB_of (c (j := 4) hcd rfl) ?_))))
  refine written_ok (w0 := w0) (o := o) (hd.wr t ht) hd.nil (hd.new t (by omega) _ (tob_b ht)) (fun k hk => hd.new (t + 2) (by omega) k (by rw [tob_s ht]; exact hk)) hx hno g0 g1 (by omega) fun s' w1 hw1 gw1 => ?_
  refine iteB_neg (by simp) ?_
  have h1 := hd.wrote ht hw1 gw1
  have hcb1 := hcd.chg gw1.chg fun he => by
    rcases he with he | he
    · exact hcT t (by omega) (by rw [tob_b ht, he])
    · exact hcT (t + 2) (by omega) (by rw [tob_s ht, he])
  have h1d := h1.nil' (dr w1)
  have hcb1d := hcb1.chg (dr w1) fun h => h
  refine arr (ldS_of (h1d.wcell hT ht) ?_)
  refine ldI_of (c (j := 0) hcb1d rfl) (ldI_of (c (j := 1) hcb1d rfl) (ldS_of (c (j := 2) hcb1d rfl) (ldI_of (c (j := 3) hcb1d rfl) (ldB_of (c (j := 4) hcb1d rfl) ?_))))
  refine form_ok (o := o) (hx.chg h1d.nil fun _ _ h => h) hno g0 g1 (by omega) fun f w2 hf2 hfn2 hc2 hn2 => ?_
  have h2 := h1d.nil' hc2
  have hcb2 := hcb1d.chg hc2 fun h => h
  refine ⟨h2.wcell hT ht, ?_⟩
  have hvt := hv t ht
  refine h2.app hT ht hf2 hfn2 (by rw [hvt]; omega) fun v' w3 h3 hc3 => ?_
  have hcb3 := hcb2.chg hc3 fun he => by
    rcases he with he | he
    · exact hcT (t + 4) (by omega) (by rw [tob_v ht, he])
    · exact hcT 7 (by omega) (by rw [he]; rfl)
  have hv3 : ∀ r, r < 2 → upd vs t (vs t ++ encO o) r = upd ws t (ws t ++ encO o) r := fun r hr => by
    by_cases hrt : r = t
    · subst hrt; rw [upd_eq, upd_eq, hv r hr]
    · rw [upd_ne hrt, upd_ne hrt, hv r hr]
  have hl3 : ∀ r, r < 2 → (upd ws t (ws t ++ encO o) r).length ≤ (ws r).length + (encO o).length := fun r hr => by
    by_cases hrt : r = t
    · subst hrt; rw [upd_eq, List.length_append]; omega
    · rw [upd_ne hrt]; omega
  have e3 := h3.wr t ht
  rw [upd_eq] at e3
  refine ldI_of (c (j := 0) hcb3 rfl) ?_
  refine iteB_intro (fun h8 => ?_) (fun h8 => ?_)
  · have hlw : (upd ws t (ws t ++ encO o) t).length ≤ 100000000 := by rw [upd_eq, List.length_append]; exact hl
    refine arr (ldP_of (h3.pcell hT ht) ?_)
    refine wout_ok (h3.wr t ht) (by omega) fun x4 w4 hx4 hc4 hn4 hl4 _ => ?_
    have h4 := h3.nil' hc4
    refine arr (ldP_of (h4.pcell hT ht) ?_)
    refine wout_ok (h4.wr t ht) (by omega) fun x5 w5 hx5 hc5 hn5 hl5 _ => ?_
    have h5 := h4.nil' hc5
    have h5d := h5.nil' (dr w5)
    have hx45 := (hx4.chg hc5 fun _ _ h => h)
    have ov5 := (h5d.ov t ht).rd
    rw [hv3 t ht] at ov5
    refine arr (ldS_of (h5d.wcell hT ht) ?_)
    refine same_ok (hx45.chg (dr w5) fun _ _ h => h).rd ov5 (by omega) fun w6 hd6 => ?_
    refine iteB_neg (by simp) ?_
    have h6 := h5d.nil' (hd6.chg Nil)
    refine arr (ldS_of (h6.wcell hT ht) ?_)
    refine same_ok ((hx5.chg (dr w5) fun _ _ h => h).rd.drw hd6) (ov5.drw hd6) (by omega) fun w7 hd7 => ?_
    refine iteB_neg (by simp) ?_
    have h7 := h6.nil' (hd7.chg Nil)
    refine arr (ldP_of (h7.pcell hT ht) ?_)
    refine arr (ldS_of (h7.wcell hT ht) ?_)
    refine wlen_ok (h7.wr t ht) ?_
    refine ⟨h7.wcell hT ht, ?_⟩
    have hvl : (upd v t v' t).l = (upd ws t (ws t ++ encO o) t).length := by
      have := (h7.ov t ht).rd.len
      rw [hv3 t ht] at this
      simpa using this
    refine iteB_neg (by rw [hvl]; simp) ?_
    have hc57 : Chg Nil w5 w7 := chgNN (chgNN (dr w5) (hd6.chg Nil)) (hd7.chg Nil)
    have hx47 := hx45.chg hc57 fun _ _ h => h
    have hx57 := hx5.chg hc57 fun _ _ h => h
    have old3 : ∀ k, F k → k < w3.heap.size := h3.bkk.lt
    have lt3 := h3.lt
    have s34 := hc4.size
    have s45 := hc5.size
    have s57 := hc57.size
    have lt4 := hx4.lt
    have lt5 := hx5.lt
    refine putZ_ok h7.bkk hx47 (by omega) (fun k hk hF => by have := hn4 k hk; have := old3 k hF; omega) (by omega) fun F8 w8 hb8 hc8 hF8 => ?_
    have h8 := h7.book hc8 hb8 fun k hk => by
      rcases hF8 k hk with h1 | h1 | h1
      · exact .inl h1
      · exact .inr ⟨by have := hn4 k h1; have := h3.nil.size; omega, fun p hp he => by have := lt3 p hp k he; have := hn4 k h1; omega⟩
      · exact .inr ⟨by have := h7.nil.size; omega, fun p hp he => by have := h7.lt p hp k he; omega⟩
    have hx58 := hx57.chg hc8 fun k hk hF => by have := hn5 k hk; have := old3 k hF; omega
    refine putZ_ok h8.bkk hx58 (by omega) (fun k hk hF => ?_) (by omega) fun F9 w9 hb9 hc9 hF9 => ?_
    · rcases hF8 k hF with h1 | h1 | h1
      · have := hn5 k hk; have := old3 k h1; omega
      · have := hn5 k hk; have := lt4 k h1; omega
      · have := lt5 k hk; omega
    have h9 := h8.book hc9 hb9 fun k hk => by
      rcases hF9 k hk with h1 | h1 | h1
      · exact .inl h1
      · exact .inr ⟨by have := hn5 k h1; have := h3.nil.size; omega, fun p hp he => by have := lt3 p hp k he; have := hn5 k h1; omega⟩
      · exact .inr ⟨by have := h8.nil.size; omega, fun p hp he => by have := h8.lt p hp k he; omega⟩
    exact hK w9 _ _ _ _ _ _ h9 hv3 hl3 (by omega)
  · exact hK w3 _ _ _ _ _ _ h3 hv3 hl3 (by omega)
end
set_option maxRecDepth 20000 in
theorem law_CodecWrites {x : Slc} {os : List OpM} {w : World} (k1 : Rep reachBytes w (.sl 56 opG) [.slice x.a x.l x.c] os)
    (hb : bulk (.pair (.sl 56 opG) .unit) (os, ()) ≤ 1048576) : c_preludelaw01_CodecWrites x w fun r w' => r = true ∧ Chg Nil w w' := by
  refine sim_preludelaw01_CodecWrites ?_
  unfold sh_preludelaw01_CodecWrites
  have hsum : (os.map opB).sum + 1 + 0 ≤ 1048576 := hb
  have hol : List.length (α := OpM) os ≤ (os.map opB).sum := sum_len opB (fun a => Nat.le_add_left 1 _) os
  have hbl : ∀ i (h : i < List.length (α := OpM) os), (List.length (α := UInt8) (os[i] : OpM).2.2.1) + 6 ≤ 1048576 := fun i h => by
    have h1 := sum_at (α := OpM) opB os i h
    have h2 : opB (os[i] : OpM) = 1 + (1 + ((os[i] : OpM).2.2.1.length + 1 + (1 + (1 + 0)))) + 1 := rfl
    omega
  have hlen := allO_len os fun i h => encO_len (rep_wf k1 h) (by have := hbl i h; omega)
  have hxl : x.l = List.length (α := OpM) os := by
    obtain ⟨s, he, hl, _⟩ := k1
    have he' : x.a = s.a ∧ x.l = s.l ∧ x.c = s.c := by simpa using he
    rw [he'.2.1]; exact hl
  obtain ⟨N, hN⟩ : ∃ N, List.length (α := OpM) os = N := ⟨_, rfl⟩
  rw [hN] at hol hlen hxl
  refine new_ok fun w1 hw1 hc1 hs1 => ?_
  refine new_ok fun w2 hw2 hc2 hs2 => ?_
  refine newP_intro fun w3 hc3 hb3 hs3 => ?_
  refine stP_intro hb3 (by simp) fun w4 hc4 hb4 hs4 => ?_
  rw [add_mk]
  refine stP_intro hb4 (by simp) fun w5 hc5 hb5 hs5 => ?_
  have hb5' : Blk w5 w2.heap.size #[.pointer (some ⟨w.heap.size, 0, none⟩), .pointer (some ⟨w1.heap.size, 0, none⟩)] 25 := by simpa using hb5
  refine ⟨by omega, by omega, ldP_of (p := some ⟨w.heap.size, 0, none⟩) (by rw [add_mk, hb5'.cell]; rfl) (iteB_neg rfl ⟨by omega, by omega, ldP_of (p := some ⟨w1.heap.size, 0, none⟩) (by rw [add_mk, hb5'.cell]; rfl) (iteB_neg rfl ?_)⟩)⟩
  refine newP_intro fun w6 hc6 hb6 hs6 => ?_
  refine newP_intro fun w7 hc7 hb7 hs7 => ?_
  have c25 : Chg (fun k => k = w2.heap.size) w2 w5 := ((hc3.mono fun _ _ h => h.elim).step hc4 fun _ _ h => h).step hc5 fun _ _ h => h
  have c57 : Chg Nil w5 w7 := chgNN hc6 hc7
  have c27 : Chg (fun k => k = w2.heap.size) w2 w7 := c25.step c57 fun _ _ h => h.elim
  have c07 : Chg Nil w w7 := (chgNN hc1 hc2).step c27 fun i hi he => by subst he; omega
  let b : Nat → Nat := fun t => if t = 0 then w.heap.size else w1.heap.size
  let z : Nat → Slc := fun _ => ⟨none, 0, 0⟩
  have hw0' : Wr w7 w.heap.size ⟨none, 0, 0⟩ [] := ((hw1.nil hc2).chg c27 (by omega) fun k hk => by cases hk)
  have hw1' : Wr w7 w1.heap.size ⟨none, 0, 0⟩ [] := (hw2.chg c27 (by omega) fun k hk => by cases hk)
  have T0 : TW w w7 w2.heap.size w5.heap.size w6.heap.size b z z (fun _ => []) (fun _ => []) 0 (fun k => k = w6.heap.size) := by
    have cases8 : ∀ p, p < 8 → ∀ k, blkOf (tob b z z w2.heap.size w5.heap.size p) = some k → (p = 0 ∧ k = w.heap.size) ∨ (p = 1 ∧ k = w1.heap.size) ∨ (p = 6 ∧ k = w2.heap.size) ∨ (p = 7 ∧ k = w5.heap.size) := fun p hp k hk => by
      rcases tob_cases hp with h1 | ⟨r, hr, rfl⟩ | ⟨r, hr, rfl⟩ | rfl | rfl
      · rw [tob_b h1] at hk
        obtain rfl | rfl : p = 0 ∨ p = 1 := by omega
        · cases hk; exact .inl ⟨rfl, rfl⟩
        · cases hk; exact .inr (.inl ⟨rfl, rfl⟩)
      · rw [tob_s hr] at hk; cases hk
      · rw [tob_v hr] at hk; cases hk
      · cases hk; exact .inr (.inr (.inl ⟨rfl, rfl⟩))
      · cases hk; exact .inr (.inr (.inr ⟨rfl, rfl⟩))
    have q1 := hc1.size
    have q2 := hc2.size
    have q5 := c25.size
    refine ⟨fun t ht => ?_, fun t ht => Own.nil _ _ _, ?_, hb6.chg hc7 fun h => h, bkZ_new hb7, ⟨fun k => if k = w.heap.size then 0 else if k = w1.heap.size then 1 else if k = w2.heap.size then 6 else 7, fun p hp k hk => ?_⟩, fun p hp k hk he => ?_, c07, fun p hp k hk => ?_, fun k hk => by omega⟩
    · obtain rfl | rfl : t = 0 ∨ t = 1 := by omega
      · exact hw0'
      · exact hw1'
    · exact hb5'.chg c57 fun h => h
    · rcases cases8 p hp k hk with ⟨rfl, rfl⟩ | ⟨rfl, rfl⟩ | ⟨rfl, rfl⟩ | ⟨rfl, rfl⟩
      · simp
      · show (if w1.heap.size = w.heap.size then 0 else if w1.heap.size = w1.heap.size then 1 else _) = 1
        rw [if_neg (by omega), if_pos rfl]
      · show (if w2.heap.size = w.heap.size then 0 else if w2.heap.size = w1.heap.size then 1 else if w2.heap.size = w2.heap.size then 6 else 7) = 6
        rw [if_neg (by omega), if_neg (by omega), if_pos rfl]
      · show (if w5.heap.size = w.heap.size then 0 else if w5.heap.size = w1.heap.size then 1 else if w5.heap.size = w2.heap.size then 6 else 7) = 7
        rw [if_neg (by omega), if_neg (by omega), if_neg (by omega)]
    · rcases cases8 p hp k hk with ⟨_, h1⟩ | ⟨_, h1⟩ | ⟨_, h1⟩ | ⟨_, h1⟩ <;> omega
    · rcases cases8 p hp k hk with ⟨_, h1⟩ | ⟨_, h1⟩ | ⟨_, h1⟩ | ⟨_, h1⟩ <;> omega
  refine loopP_inv (fun st w8 => ∃ (i : Nat) (s v : Nat → Slc) (ws vs : Nat → List UInt8) (n : Nat) (F : Nat → Prop), st.1 = (i : Int) ∧ i ≤ N ∧ TW w w8 w2.heap.size w5.heap.size w6.heap.size b s v ws vs n F ∧ (∀ t, t < 2 → vs t = ws t) ∧ (∀ t, t < 2 → (ws t).length ≤ (allO os i).length) ∧ n ≤ 2 * i) (fun st _ => N - st.1.toNat)
    ⟨0, z, z, _, _, 0, _, rfl, Nat.zero_le _, T0, fun _ _ => rfl, fun _ _ => by simp, by omega⟩ ?_
  rintro ⟨i0, u⟩ w8 next ⟨i, s, v, ws, vs, n, F, rfl, hi, h8, hv, hl, hn⟩ hnext
  dsimp only
  refine iteB_intro (fun h => ?_) (fun h => ?_)
  · have hlt : i < N := by simp [hxl] at h; omega
    have hlt' : i < List.length (α := OpM) os := by omega
    have hbi := hbl i hlt'
    have hli := hlen (i + 1) hlt
    have hsucc : (allO os (i + 1)).length = (allO os i).length + (encO os[i]).length := by rw [allO_succ os hlt', List.length_append]
    refine op_at k1 (Chg.refl _ _) hlt' fun ad sl hop0 => ?_
    have hop := hop0.chg h8.nil
    refine ldI_of hop.c0 ?_
    refine ldI_of hop.c1 ?_
    refine ldS_of hop.c2 ?_
    refine ldI_of hop.c3 ?_
    refine ldB_of hop.c4 ?_
    rw [wrap_i64 (by omega)]
    refine op_copy fun cb w9 hb9 hc9 hcb => ?_
    have h9 := h8.nil' hc9
    have lt8 := h8.lt
    have ltF := h8.bkk.lt
    refine ldB_of (b := (os[i] : OpM).2.2.2.2.1) (by rw [add_mk, hb9.cell]; rfl) ?_
    have fin : ∀ w' s' v' ws' vs' n' F', TW w w' w2.heap.size w5.heap.size w6.heap.size b s' v' ws' vs' n' F' → (∀ t, t < 2 → vs' t = ws' t) → (∀ r, r < 2 → (ws' r).length ≤ (ws r).length + (encO os[i]).length) → n' ≤ n + 2 → next ((i : Int) + 1, ()) w' := fun w' s' v' ws' vs' n' F' h1 h2 h3 h4 =>
      hnext _ _ ⟨i + 1, s', v', ws', vs', n', F', by simp, hlt, h1, h2, fun t ht => by have := h3 t ht; have := hl t ht; omega, by omega⟩ (by simp; omega)
    refine iteB_intro (fun _ => ?_) (fun _ => ?_)
    · exact wstep (o := os[i]) (t := 1) (T' := 1) (K := fun r w' => r = true ∧ Chg Nil w w') (next := fun w' => next ((i : Int) + 1, ()) w') h9 rfl (by omega) hv (by omega) hb9 (fun p hp he => by have := lt8 p hp cb he; omega) (fun he => by have := ltF cb he; omega) hop0.rd hop.no hop.w0 hop.w1 (by omega) (by have := hl 1 (by omega); omega) fin
    · exact wstep (o := os[i]) (t := 0) (T' := 0) (K := fun r w' => r = true ∧ Chg Nil w w') (next := fun w' => next ((i : Int) + 1, ()) w') h9 rfl (by omega) hv (by omega) hb9 (fun p hp he => by have := lt8 p hp cb he; omega) (fun he => by have := ltF cb he; omega) hop0.rd hop.no hop.w0 hop.w1 (by omega) (by have := hl 0 (by omega); omega) fin
  · have hli := hlen i hi
    refine endsZ_ok h8.bkk (by omega) fun w9 hc9 => ?_
    refine iteB_neg (by simp) ?_
    have c9 : Chg Nil w w9 := h8.nil.step hc9 fun k hk he => by have := h8.newB k he; omega
    have wr9 : ∀ t, t < 2 → Wr w9 (b t) (s t) (ws t) := fun t ht => (h8.wr t ht).chg hc9 (h8.out t (by omega) _ (tob_b ht)) fun k hk => h8.out (t + 2) (by omega) k (by rw [tob_s ht]; exact hk)
    have ov9 : ∀ t, t < 2 → Rd w9 (v t) (U8 (vs t)) := fun t ht => ((h8.ov t ht).chg hc9 fun k hk => h8.out (t + 4) (by omega) k (by rw [tob_v ht]; exact hk)).rd
    have pt9 := h8.ptr.chg hc9 (h8.out 6 (by omega) _ rfl)
    have wn9 := h8.wnt.chg hc9 (h8.out 7 (by omega) _ rfl)
    refine loopP_inv (fun st wa => ∃ t : Nat, st.1 = (t : Int) ∧ t ≤ 2 ∧ Chg Nil w9 wa) (fun st _ => 2 - st.1.toNat) ⟨0, rfl, by omega, Chg.refl _ _⟩ ?_
    rintro ⟨t0, u⟩ wa next2 ⟨t, rfl, ht, hca⟩ hnext2
    simp only
    refine iteB_intro (fun h => ?_) (fun h => ⟨by trivial, chgNN c9 hca⟩)
    have ht2 : t < 2 := by simp at h; omega
    have arr : ∀ {P : Prop}, P → arrP 2 (t : Int) P := fun hp => ⟨by omega, by omega, hp⟩
    have pc : ∀ {w' : World}, Chg Nil w9 w' → w'.cell? ((⟨w2.heap.size, 0, none⟩ : Addr).add (Int.toNat (t : Int) * 1)) = some (.pointer (some ⟨b t, 0, none⟩)) := fun hc => by
      rw [add_mk, (pt9.chg hc fun h => h).cell, Int.toNat_natCast]
      obtain rfl | rfl : t = 0 ∨ t = 1 := by omega
      · rfl
      · rfl
    have wc : ∀ {w' : World}, Chg Nil w9 w' → w'.cell? ((⟨w5.heap.size, 0, none⟩ : Addr).add (Int.toNat (t : Int) * 1)) = some (.slice (v t).a (v t).l (v t).c) := fun hc => by
      rw [add_mk, (wn9.chg hc fun h => h).cell, Int.toNat_natCast]
      obtain rfl | rfl : t = 0 ∨ t = 1 := by omega
      · rfl
      · rfl
    have hcd : Chg Nil w9 wa.drew := chgNN hca ((Drw.refl wa).drew.chg Nil)
    have hlt2 := hl t ht2
    refine arr (ldP_of (pc hcd) (arr (ldS_of (wc hcd) ?_)))
    refine wout_ok ((wr9 t ht2).nil hcd) (by omega) fun r wb hr hcb hnr hlr _ => ?_
    have hcb' := chgNN hcd hcb
    refine ⟨wc hcb', ?_⟩
    have ovb := (ov9 t ht2).chg hcb' fun _ _ h => h
    rw [hv t ht2] at ovb
    refine same_ok hr.rd ovb (by omega) fun wd hdd => ?_
    refine iteB_neg (by simp) ?_
    have hcd' := chgNN hcb' (hdd.chg Nil)
    refine arr (ldP_of (pc hcd') (arr (ldS_of (wc hcd') ?_)))
    refine wlen_ok ((wr9 t ht2).nil hcd') ?_
    refine ⟨wc hcd', ?_⟩
    have hvl : (v t).l = (ws t).length := by
      have := (ov9 t ht2).len
      rw [hv t ht2] at this
      simpa using this
    refine iteB_neg (by rw [hvl]; simp) ?_
    rw [wrap_i64 (by omega)]
    exact hnext2 _ _ ⟨t + 1, by simp, by omega, hcd'⟩ (by simp; omega)
end Go.Proofs.Ytmadhcoeiclalaa
